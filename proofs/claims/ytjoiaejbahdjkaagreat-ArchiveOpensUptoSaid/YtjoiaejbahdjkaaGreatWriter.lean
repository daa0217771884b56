import Derived.Test.YtjoiaejbahdjkaaGreatLeb
import Derived.Test.YtjoiaejbahdjkaaGreatOrd
namespace Go.Proofs.YtjoiaejbahdjkaaGreat
open Go Go.RowKit Go.Mine
set_option maxHeartbeats 400000
set_option maxRecDepth 100000
set_option linter.unusedVariables false
def WrAt (w : World) (p : Nat) (a : Option Addr) (l : List UInt8) : Prop :=
 blk a ≠ some p ∧ ∃ c, w.heap[p]? = some (.cells #[.slice a l.length c, .bool true] 146 (0, 0)) ∧ Own w 5 1 a l.length c (bts l)
structure WrGo (w : World) (p : Nat) (a : Option Addr) (w' : World) (a' : Option Addr) : Prop where
 mod : Mod (fun b => b = p ∨ blk a = some b) w w'
 pos : blk a' = blk a ∨ ∃ b, blk a' = some b ∧ w.heap.size ≤ b
theorem wnone_any (p : Nat) (c0 : Value) (t : TypeId) (w : World) (h : w.heap[p]? = some (.cells #[c0, .bool true] t (0, 0))) :
 Calls Tryz.prog 100 #[.pointer (some ⟨p, 0, none⟩)] w fun e w' => e = .returned (.bool false) ∧ w = w' := by
 have hc : w.cell? ⟨p, 1, none⟩ = some (.bool true) := by rw [cell_of_row w p 1 _ t (0,0) h]; rfl
 have H := Hi h; clear h
 go_enter Tryz.func100, Tryz.ntmps100
 go_wp2
 go_ret
 exact ⟨rfl, rfl⟩
theorem num1_any (n : Int) (w : World) : Calls Tryz.prog 99 #[.int .u64 n] w fun e w' => e = .returned (.int .u64 n) ∧ w = w' := by
 go_enter Tryz.func99, Tryz.ntmps99
 go_wp2
 go_ret
 exact ⟨rfl, rfl⟩
theorem newWriter_any (w : World) : Calls Tryz.prog 82 #[] w fun e w' => e = .returned (.pointer (some ⟨w.heap.size, 0, none⟩)) ∧ w' = w.alloc (.cells #[.slice none 0 0, .bool true] 146) := by
 go_enter Tryz.func82, Tryz.ntmps82
 go_wp2
 go_ret
 exact ⟨rfl, rfl⟩
theorem WrGo.refl (w : World) (p : Nat) (a : Option Addr) : WrGo w p a w a := ⟨Mod.refl _ w, .inl rfl⟩
theorem WrGo.trans {w w1 w2 : World} {p : Nat} {a a1 a2 : Option Addr} (h : WrGo w p a w1 a1) (k : WrGo w1 p a1 w2 a2) : WrGo w p a w2 a2 := by
 refine ⟨h.mod.step k.mod fun i hi hs => ?_, ?_⟩
 ·rcases hs with rfl | hs
  ·exact .inl rfl
  ·rcases h.pos with e | ⟨b, e, hb⟩
   ·rw [← e]; exact .inr hs
   ·rw [e] at hs; cases hs; omega
 ·rcases k.pos with e | ⟨b, e, hb⟩
  ·rw [e]; exact h.pos
  ·exact .inr ⟨b, e, Nat.le_trans h.mod.size hb⟩
theorem WrGo.pre0 {w w1 w2 : World} {p : Nat} {a a2 : Option Addr} (h : Mod (fun _ => False) w w1) (k : WrGo w1 p a w2 a2) : WrGo w p a w2 a2 :=
 WrGo.trans ⟨h.mono fun _ _ f => f.elim, .inl rfl⟩ k
theorem WrAt.mod {S : Nat → Prop} {w w' : World} {p : Nat} {a : Option Addr} {l : List UInt8} (h : WrAt w p a l) (m : Mod S w w') (h1 : ¬ S p) (h2 : ∀ b, blk a = some b → ¬ S b) : WrAt w' p a l :=
 ⟨h.1, h.2.imp fun _ ⟨h3, h4⟩ => ⟨m.at h3 h1, h4.mod m h2⟩⟩
theorem WrAt.put {w w2 : World} {p : Nat} {a a2 : Option Addr} {c2 n : Nat} {v : Value} {l : List UInt8} (hne : blk a ≠ some p) (h : w.heap[p]? = some (.cells #[v, .bool true] 146 (0, 0)))
 (hO : Own w2 5 1 a2 l.length c2 (bts l)) (hG : Grow w a w2 a2) (hn : n = l.length) : WrAt (w2.setCell ⟨p, 0, none⟩ (.slice a2 n c2)) p a2 l ∧ WrGo w p a (w2.setCell ⟨p, 0, none⟩ (.slice a2 n c2)) a2 := by
 subst hn
 have hlt := (Array.getElem?_eq_some_iff.1 h).1
 have hne2 : blk a2 ≠ some p := hG.ne hlt hne
 have h2 := hG.mod.at h hne
 refine ⟨⟨hne2, c2, heap_setCell_at _ h2, hO.mod ((Mod.refl (fun b => b = p) w2).setCell (fun _ => rfl) _) (fun b hb e => hne2 (by rw [hb, e]))⟩, (hG.mod.mono fun _ _ h => .inr h).setCell (fun _ => .inl rfl) _, hG.pos⟩
def u64s (l : List Nat) : List Value := l.map fun (n : Nat) => .int .u64 n
theorem each_any (p : Nat) (a : Option Addr) (l : List UInt8) (ns : List Nat) (av : Option Addr) (cv : Nat) (w : World) (hW : WrAt w p a l) (hr : Rd w av (u64s ns))
 (hp : blk av ≠ some p) (ha : ∀ b, blk av = some b → blk a ≠ some b) (hb : ∀ n ∈ ns, n < 2^64) (hl : l.length + 10 * ns.length < 2^40) :
 Calls Tryz.prog 98 #[.pointer (some ⟨p, 0, none⟩), .slice av ns.length cv, .func (.func 99) #[] #[]] w fun e w' => e = .returned (.tuple #[]) ∧
  ∃ a', WrAt w' p a' (l ++ ns.flatMap lebl) ∧ WrGo w p a w' a' := by
 have HW := Hi hW; have HR := Hi hr; have HP := Hi hp; have HA := Hi ha; have HB := Hi hb; clear hW hr hp ha hb
 go_enter Tryz.func98, Tryz.ntmps98
 go_wp2_with (go_at_call 100; refine (wnone_any p _ _ _ HW.out.2.choose_spec.1).mono ?_; rintro e w' ⟨rfl, rfl⟩)
 go_loopw [12] (fun i wr => ∃ (k : Nat) (a' : Option Addr), i = .int .i64 k ∧ k ≤ ns.length ∧ Hid (WrAt wr p a' (l ++ (ns.take k).flatMap lebl)) ∧ Hid (WrGo w p a wr a')) (fun i _ => ns.length - (intOf i).toNat)
 case atStart => exact ⟨0, a, rfl, by omega, by simpa using HW, WrGo.refl w p a⟩
 case round =>
  obtain ⟨k, a', rfl, hk, hW, hG⟩ := hrel
  by_cases hlt : k < ns.length
  ·have hav : ∀ b, blk av = some b → b < w.heap.size := HR.out.lt (by intro e; simp [u64s] at e; rw [e] at hlt; simp at hlt)
   obtain ⟨b, o, e, hc⟩ := (HR.out.mod hG.out.mod (fun b hb hs => by
    rcases hs with rfl | hs
    ·exact HP.out hb
    ·exact HA.out b hb hs)) k (.int .u64 ns[k]) (by simp [u64s, hlt])
   clear hav
   subst e
   obtain ⟨hne, c', hh, hO⟩ := hW.out
   have hcb : wr.cell? ⟨p, 0, none⟩ = some (.slice a' (l ++ (ns.take k).flatMap lebl).length c') := cell_at hh rfl
   have hcf : wr.frozen? ⟨p, 0, none⟩ = false := frozen_at hh
   have hlen : (l ++ (ns.take k).flatMap lebl).length < 2^40 := by
    have : ∀ ns : List Nat, (∀ n ∈ ns, n < 2^64) → (ns.flatMap lebl).length ≤ 10 * ns.length := by
     intro ns hns
     induction ns with
     | nil => simp
     | cons n ns ih =>
       have h1 := lebl_len64 n (hns n (by simp))
       have h2 := ih (fun m hm => hns m (by simp [hm]))
       simp only [List.flatMap_cons, List.length_append, List.length_cons]; omega
    have h1 := this (ns.take k) (fun n hn => HB.out n (List.mem_of_mem_take hn))
    simp only [List.length_append, List.length_take] at h1 ⊢
    omega
   generalize hl' : l ++ (ns.take k).flatMap lebl = l' at *
   have HO := Hi hO; have HL' := Hi hl'; have HH := Hi hh; have HNE := Hi hne; clear hO hl' hh hne
   go_wp2
   refine wp_region_ord (fun w' => w'.cell? ⟨p, 0, none⟩ = some (.slice a' l'.length c')) [(0, 0), (0, 1), (0, 2), (0, 3), (1, 4), (0, 5), (0, 6), (2, 7), (3, 8), (0, 9), (0, 10), (3, 11)] (by kernel_rfl) (by kernel_rfl) ?_
   go_wp2_with (first
    |(refine ord_pure rfl rfl rfl (fun K hK => ?_); go_big_quiet_op; refine hK _ ?_; clear hK K)
    |(refine ord_held rfl rfl rfl (by simpa using hcb) (fun K hK => ?_); apply Exists.intro; refine ⟨fun w' hs => ?_, hK _ ?_⟩; (revert hs; dsimp only; (try simp only [and_imp]); intros; go_simp; rfl); clear hK K)
    |(refine ord_keep rfl rfl (by simpa using hcb) (fun K hK => ?_))
    |(refine ord_drop rfl rfl (fun K hK => ?_))
    |(refine ord_nil ?_)
    |(go_at_call 99; refine (num1_any _ _).mono ?_; rintro e w' ⟨rfl, rfl⟩; refine hK _ _ (by simpa using hcb) ?_; clear hK K)
    |(go_at_call 119; refine (add_any a' c' l' ns[k] _ (HB.out _ (List.getElem_mem _)) HO.out.drew (by omega)).mono ?_; rintro e w2 ⟨a2, c2, rfl, hO2, hG2⟩
      have hh2 := hG2.mod.at (p := p) HH.out (fun e => HNE.out e)
      have hc2 : w2.cell? ⟨p, 0, none⟩ = some (.slice a' l'.length c') := cell_at hh2 rfl
      have hf2 : w2.frozen? ⟨p, 0, none⟩ = false := frozen_at hh2
      have HO2 := Hi hO2; have HG2 := Hi hG2; clear hO2 hG2 hh2))
   have hp := WrAt.put HNE.out HH.out HO2.out (Grow.pre0 ((Mod.refl _ wr).drew) HG2.out) (n := l'.length + (lebl ns[k]).length) (by simp)
   go_roundw
   case rel => exact ⟨k + 1, a2, by go_num, hlt, by
    have e : l ++ (ns.take (k + 1)).flatMap lebl = l' ++ lebl ns[k] := by rw [← HL'.out, List.take_succ_eq_append_getElem hlt, List.flatMap_append]; simp
    unfold Hid; rw [e]; exact hp.1, hG.out.trans hp.2⟩
   case measure => simp [intOf]; omega
  ·go_wp2
   go_end0
   have : k = ns.length := by omega
   subst this
   exact ⟨rfl, a', by simpa using hW.out, hG.out⟩
theorem num_any (p : Nat) (a : Option Addr) (l : List UInt8) (ns : List Nat) (av : Option Addr) (cv : Nat) (w : World) (hW : WrAt w p a l) (hr : Rd w av (u64s ns))
 (hp : blk av ≠ some p) (ha : ∀ b, blk av = some b → blk a ≠ some b) (hb : ∀ n ∈ ns, n < 2^64) (hl : l.length + 10 * ns.length < 2^40) :
 Calls Tryz.prog 83 #[.pointer (some ⟨p, 0, none⟩), .slice av ns.length cv] w fun e w' => e = .returned (.tuple #[]) ∧
  ∃ a', WrAt w' p a' (l ++ ns.flatMap lebl) ∧ WrGo w p a w' a' := by
 have HW := Hi hW; have HR := Hi hr; have HP := Hi hp; have HA := Hi ha; have HB := Hi hb; clear hW hr hp ha hb
 go_enter Tryz.func83, Tryz.ntmps83
 go_wp2_with (go_at_call 98; refine (each_any p a l ns av cv _ HW.out HR.out HP.out HA.out HB.out hl).mono ?_; rintro e w' ⟨rfl, a', h1, h2⟩; have H1 := Hi h1; have H2 := Hi h2; clear h1 h2)
 go_end0
 exact ⟨rfl, a', H1.out, H2.out⟩
theorem text_any (p : Nat) (a : Option Addr) (l : List UInt8) (s : ByteArray) (w : World) (hW : WrAt w p a l) (hs : s.size < 2^40) (hl : l.length < 2^39) :
 Calls Tryz.prog 84 #[.pointer (some ⟨p, 0, none⟩), .string s] w fun e w' => e = .returned (.tuple #[]) ∧
  ∃ a', WrAt w' p a' (l ++ lebl s.size ++ s.data.toList) ∧ WrGo w p a w' a' := by
 have HW := Hi hW; clear hW
 go_enter Tryz.func84, Tryz.ntmps84
 have hlt : p < w.heap.size := (Array.getElem?_eq_some_iff.1 HW.out.2.choose_spec.1).1
 have hlta : ∀ b, blk a = some b → b < w.heap.size := HW.out.2.choose_spec.2.lt
 have HLT := Hi hlta; clear hlta
 go_wp2_with (go_at_call 83; refine (num_any p a l [s.size] _ 1 _ (HW.out.mod ((Mod.refl (fun _ => False) w).alloc _) id (fun _ _ => id)) (Rd.new w _ _) (by simp; omega) (by rintro b hb; simp at hb; subst hb; intro hh; exact absurd (HLT.out _ hh) (by omega)) (by simp; omega) (by simp; omega)).mono ?_; rintro e w1 ⟨rfl, a1, h1, h2⟩; have H1 := Hi h1; have H2 := Hi (h2.pre0 ((Mod.refl _ w).alloc _)); clear h1 h2)
 obtain ⟨hne, c1, hh, hO⟩ := H1.out
 simp only [List.flatMap_cons, List.flatMap_nil, List.append_nil] at hh hO
 generalize hl1 : l ++ lebl s.size = l1 at *
 have hlen : l1.length < 2^40 := by have := lebl_len64 s.size (by omega); rw [← hl1]; simp; omega
 have hc1 : w1.cell? ⟨p, 0, none⟩ = some (.slice a1 l1.length c1) := cell_at hh rfl
 have HL1 := Hi hl1; have HH := Hi hh; have HO := Hi hO; have HNE := Hi hne; clear hl1 hh hO hne H1
 go_wp2_with (first
  |(go_at_call 100; refine (wnone_any p _ _ _ HH.out).mono ?_; rintro e w' ⟨rfl, rfl⟩)
  |(at_builtin; refine wpL_append rfl (.tmp 17) (.tmp 18) 23 9 rfl ti24 rfl HO.out rfl (Src.ofString _ (by kernel_rfl) s) (by omega) (by unfold maxLen; omega) ?_; intro a2 c2 w2 hO2 hG2 _
    have hh2 := hG2.mod.at (p := p) HH.out (fun e => HNE.out e)
    have hc2 : w2.cell? ⟨p, 0, none⟩ = some (.slice a1 l1.length c1) := cell_at hh2 rfl
    have hf2 : w2.frozen? ⟨p, 0, none⟩ = false := frozen_at hh2
    have HO2 := Hi hO2; have HG2 := Hi hG2; clear hO2 hG2 hh2))
 go_end0
 have hO2 := HO2.out
 have e : s.size = s.data.toList.length := Lib.size_eq s
 rw [bts_byteCells, ← bts_append, e, ← List.length_append] at hO2
 have hp := WrAt.put HNE.out HH.out hO2 HG2.out (n := l1.length + s.size) (by rw [e]; simp)
 refine ⟨rfl, a2, ?_, H2.out.trans hp.2⟩
 rw [HL1.out]
 exact hp.1
@[go_sem] theorem eqnil_bytes (a : Option Addr) (n c : Nat) (w : World) : (binOp .eql 23 (.slice a n c) (.slice none 0 0)).run Tryz.prog w = .ok (.bool a.isNone) w :=
  Lib.run_eql_slice_nil w 23 5 a n c 0 0 (by kernel_rfl)
theorem clone_nil (n cv : Nat) (w : World) : Calls Tryz.prog 61 #[.slice none n cv] w fun e w' => e = .returned (.slice none 0 0) ∧ w = w' := by
 go_enter Tryz.func61, Tryz.ntmps61
 go_wp2
 go_ret
 exact ⟨rfl, rfl⟩
theorem clone_some (b : Addr) (l : List UInt8) (cv : Nat) (w : World) (hr : Rd w (some b) (bts l)) (hl : l.length < 2^40) :
 Calls Tryz.prog 61 #[.slice (some b) l.length cv] w fun e w' => ∃ g c', e = .returned (.slice (some ⟨g, 0, none⟩) l.length c') ∧ w.heap.size ≤ g ∧ Own w' 5 1 (some ⟨g, 0, none⟩) l.length c' (bts l) ∧ Mod (fun _ => False) w w' := by
 have HR := Hi hr; clear hr
 go_enter Tryz.func61, Tryz.ntmps61
 have M := (Mod.refl (fun _ => False) w).alloc (.cells #[] 5)
 have HM := Hi M; clear M
 have O := Own.made w 5 1 #[] 0 0 (Nat.le_refl _) (by unfold maxLen; omega) rfl
 simp only [Nat.zero_mul, List.take_zero] at O
 have HO := Hi O; clear O
 go_wp2_with (at_builtin; refine wpL_append rfl (.tmp 5) (.tmp 6) 23 23 rfl ti24 rfl HO.out rfl (Src.ofRd ti24.ht l.length cv (HR.out.mod HM.out (fun _ _ => id)) (by simp) (bts_one l)) (by omega) (by unfold maxLen; omega) ?_; intro a2 c2 w2 hO2 hG2 _; have HO2 := Hi hO2; have HG2 := Hi hG2; clear hO2 hG2)
 go_ret
 have hO2 := HO2.out
 rw [Nat.zero_add, List.nil_append] at hO2
 rcases HG2.out.pos with e | ⟨b', e, hb'⟩
 ·rcases hO2.2 with ⟨rfl, _⟩ | ⟨b', cur, rfl, _⟩
  ·simp at e
  ·simp at e; subst e
   exact ⟨_, c2, rfl, Nat.le_refl _, hO2, HM.out.step HG2.out.mod (fun i hi hs => by simp at hs; omega)⟩
 ·rcases hO2.2 with ⟨rfl, _⟩ | ⟨b'', cur, rfl, _⟩
  ·simp at e
  ·simp at e; subst e
   exact ⟨_, c2, rfl, by have := HM.out.size; omega, hO2, HM.out.step HG2.out.mod (fun i hi hs => by simp at hs; omega)⟩
theorem bytes_any (p : Nat) (a : Option Addr) (l : List UInt8) (w : World) (hW : WrAt w p a l) (hl : l.length < 2^40) (hne : l ≠ []) :
 Calls Tryz.prog 85 #[.pointer (some ⟨p, 0, none⟩)] w fun e w' => ∃ g c', e = .returned (.slice (some ⟨g, 0, none⟩) l.length c') ∧ w.heap.size ≤ g ∧ Own w' 5 1 (some ⟨g, 0, none⟩) l.length c' (bts l) ∧ Mod (fun _ => False) w w' := by
 obtain ⟨hn, c, hh, hO⟩ := hW
 obtain ⟨b, rfl⟩ : ∃ b, a = some b := by
  rcases hO.2 with ⟨rfl, h0, _⟩ | ⟨b, _, rfl, _⟩
  ·exact absurd (List.eq_nil_of_length_eq_zero h0) hne
  ·exact ⟨_, rfl⟩
 have hc : w.cell? ⟨p, 0, none⟩ = some (.slice (some b) l.length c) := cell_at hh rfl
 have HH := Hi hh; have HO := Hi hO; clear hh hO hn hne
 go_enter Tryz.func85, Tryz.ntmps85
 go_wp2_with (first
  |(go_at_call 100; refine (wnone_any p _ _ _ HH.out).mono ?_; rintro e w' ⟨rfl, rfl⟩)
  |(go_at_call 61; refine (clone_some b l c _ HO.out.rd hl).mono ?_; rintro e w' ⟨g, c', rfl, h1, h2, h3⟩; have H2 := Hi h2; have H3 := Hi h3; clear h2 h3))
 go_ret
 exact ⟨g, c', rfl, h1, H2.out, H3.out⟩
end Go.Proofs.YtjoiaejbahdjkaaGreat
