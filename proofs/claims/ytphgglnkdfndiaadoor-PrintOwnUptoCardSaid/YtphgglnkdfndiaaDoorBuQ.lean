import Derived.Test.YtphgglnkdfndiaaDoorLeb
import Derived.Test.YtphgglnkdfndiaaDoorOrd
import Derived.Lib.Builder
import Derived.Lib.UnsafeStr
import Derived.Laws.Externs
namespace Go.Proofs.YtphgglnkdfndiaaDoor
open Go Go.RowKit Go.Mine
set_option maxHeartbeats 400000
set_option maxRecDepth 100000
set_option linter.unusedVariables false

/-- a strings.Builder at block p has the bytes l -/
def BuAt (w : World) (p : Nat) (a : Option Addr) (l : List UInt8) : Prop :=
  blk a ≠ some p ∧ ∃ v c, (v = .pointer none ∨ v = .pointer (some ⟨p, 0, none⟩)) ∧ w.heap[p]? = some (.cells #[v, .slice a l.length c] 101 (0, 0)) ∧ Own w 5 1 a l.length c (bts l)
/-- what a builder's call may turn -/
structure BuGo (w : World) (p : Nat) (a : Option Addr) (w' : World) (a' : Option Addr) : Prop where
  mod : Mod (fun b => b = p ∨ blk a = some b) w w'
  pos : blk a' = blk a ∨ ∃ b, blk a' = some b ∧ w.heap.size ≤ b
theorem BuGo.refl (w : World) (p : Nat) (a : Option Addr) : BuGo w p a w a := ⟨Mod.refl _ w, .inl rfl⟩
theorem BuGo.trans {w w1 w2 : World} {p : Nat} {a a1 a2 : Option Addr} (h : BuGo w p a w1 a1) (k : BuGo w1 p a1 w2 a2) : BuGo w p a w2 a2 := by
  refine ⟨h.mod.step k.mod fun i hi hs => ?_, ?_⟩
  · rcases hs with rfl | hs
    · exact .inl rfl
    · rcases h.pos with e | ⟨b, e, hb⟩
      · rw [← e]; exact .inr hs
      · rw [e] at hs; cases hs; omega
  · rcases k.pos with e | ⟨b, e, hb⟩
    · rw [e]; exact h.pos
    · exact .inr ⟨b, e, Nat.le_trans h.mod.size hb⟩
theorem BuGo.pre0 {w w1 w2 : World} {p : Nat} {a a2 : Option Addr} (h : Mod (fun _ => False) w w1) (k : BuGo w1 p a w2 a2) : BuGo w p a w2 a2 :=
  BuGo.trans ⟨h.mono fun _ _ f => f.elim, .inl rfl⟩ k
theorem BuAt.mod {S : Nat → Prop} {w w' : World} {p : Nat} {a : Option Addr} {l : List UInt8} (h : BuAt w p a l) (m : Mod S w w') (h1 : ¬ S p) (h2 : ∀ b, blk a = some b → ¬ S b) : BuAt w' p a l := by
  obtain ⟨h0, v, c, hv, h3, h4⟩ := h
  exact ⟨h0, v, c, hv, m.at h3 h1, h4.mod m h2⟩
theorem BuAt.mod0 {w w' : World} {p : Nat} {a : Option Addr} {l : List UInt8} (h : BuAt w p a l) (m : Mod (fun _ => False) w w') : BuAt w' p a l := h.mod m id (fun _ _ => id)
theorem BuAt.lt {w : World} {p : Nat} {a : Option Addr} {l : List UInt8} (h : BuAt w p a l) : p < w.heap.size := by
  obtain ⟨_, v, c, _, h3, _⟩ := h
  exact (Array.getElem?_eq_some_iff.1 h3).1
/-- 'var b strings.Builder' -/
theorem BuAt.fresh (w : World) : BuAt (w.alloc (.cells #[.pointer none, .slice none 0 0] 101)) w.heap.size none [] :=
  ⟨by simp, _, 0, .inl rfl, heap_alloc_new w _, Own.nil _ _ _⟩
/-- the bytes have grown, and are laid back -/
theorem BuAt.put {w w2 : World} {p : Nat} {a a2 : Option Addr} {c2 n : Nat} {v0 : Value} {l : List UInt8} (hne : blk a ≠ some p) (h : w.heap[p]? = some (.cells #[.pointer (some ⟨p, 0, none⟩), v0] 101 (0, 0)))
    (hO : Own w2 5 1 a2 l.length c2 (bts l)) (hG : Grow w a w2 a2) (hn : n = l.length) : BuAt (w2.setCell ⟨p, 1, none⟩ (.slice a2 n c2)) p a2 l ∧ BuGo w p a (w2.setCell ⟨p, 1, none⟩ (.slice a2 n c2)) a2 := by
  subst hn
  have hlt := (Array.getElem?_eq_some_iff.1 h).1
  have hne2 : blk a2 ≠ some p := hG.ne hlt hne
  have h2 := hG.mod.at h hne
  refine ⟨⟨hne2, _, c2, .inr rfl, heap_setCell_at _ h2, hO.mod ((Mod.refl (fun b => b = p) w2).setCell (fun _ => rfl) _) (fun b hb e => hne2 (by rw [hb, e]))⟩, (hG.mod.mono fun _ _ h => .inr h).setCell (fun _ => .inl rfl) _, hG.pos⟩

theorem copyCheck_any (p : Nat) (a : Option Addr) (l : List UInt8) (w : World) (h : BuAt w p a l) :
    Calls Tryd.prog 79 #[.pointer (some ⟨p, 0, none⟩)] w fun e w' => e = .returned (.tuple #[]) ∧ (∃ c, w'.heap[p]? = some (.cells #[.pointer (some ⟨p, 0, none⟩), .slice a l.length c] 101 (0, 0)) ∧ Own w' 5 1 a l.length c (bts l)) ∧ Mod (fun b => b = p) w w' := by
  obtain ⟨hne, v, c, hv, hbk, hO⟩ := h
  have hm : (Tryd.prog.info? 101).map (·.size) = some 2 := by kernel_rfl
  obtain ⟨j, hj, hjs⟩ := Option.map_eq_some_iff.1 hm
  clear hm
  have ts : Tryd.prog.underlying 98 = some (.pointer 101) := by kernel_rfl
  have tu : Tryd.prog.underlying 144 = some .unsafePointer := by kernel_rfl
  have hc0 : w.cell? ⟨p, 0, none⟩ = some v := by rw [cell_of_row w p 0 _ _ (0,0) hbk]; rfl
  rcases hv with rfl | rfl
  · have hfz : w.frozen? ⟨p, 0, none⟩ = false := by simp [World.frozen?, hbk]
    have hsh : w.shape? p = some (101, 2) := by simp [World.shape?, hbk]
    have e1 := Lib.run_to_unsafe (P := Tryd.prog) w ⟨p, 0, none⟩ ts tu hj (by rw [hjs]; decide) hsh (Nat.zero_lt_succ 1)
    have e2 := Lib.run_from_unsafe (P := Tryd.prog) w ⟨p, 0, none⟩ tu ts hj hsh (by kernel_rfl)
    have HO := Lib.hid hO; have HB := Lib.hid hbk; have HN := Lib.hid hne; clear hO hbk hne
    go_enter Tryd.func79, Tryd.ntmps79
    go_wp2
    rw [run_callFunc_extern Tryd.func88 (by kernel_rfl) (by kernel_rfl) (by kernel_rfl) (e := Extern.AbiNoEscape.same) (by kernel_rfl)]
    rw [Lib.run_noEscape]
    simp only [Result.andThen]
    rw [Oper.upon_value]
    go_wp2
    go_end0
    refine ⟨rfl, ⟨c, heap_setCell_at _ HB.out, HO.out.mod ((Mod.refl (fun b => b = p) w).setCell (fun _ => rfl) _) (fun b hb e => HN.out (by rw [hb, e]))⟩, Mine.Mod.setCell (S := fun b => b = p) (p := ⟨p, 0, none⟩) (Mod.refl _ w) (fun _ => rfl) _⟩
  · have HO := Lib.hid hO; have HB := Lib.hid hbk; have HN := Lib.hid hne; clear hO hbk hne
    have e1 := Lib.run_neq_ptr_same (P := Tryd.prog) w ⟨p, 0, none⟩ ts hj
    go_enter Tryd.func79, Tryd.ntmps79
    go_wp2
    go_end0
    exact ⟨rfl, ⟨c, HB.out, HO.out⟩, Mod.refl _ _⟩

theorem writeByte_any (p : Nat) (a : Option Addr) (l : List UInt8) (c : UInt8) (w : World) (h : BuAt w p a l) (hl : l.length < 2 ^ 40) :
    Calls Tryd.prog 87 #[.pointer (some ⟨p, 0, none⟩), .int .u8 c.toNat] w fun e w' => e = .returned .nilIface ∧ ∃ a', BuAt w' p a' (l ++ [c]) ∧ BuGo w p a w' a' := by
  have HC := Lib.hid (copyCheck_any p a l w h)
  have hne := h.1
  have hlt := h.lt
  have HN := Lib.hid hne; clear h hne
  go_enter Tryd.func87, Tryd.ntmps87
  go_wp2_with (first
    | (go_at_call 79; refine HC.out.mono ?_; rintro e w1 ⟨rfl, ⟨c1, hb1, hO1⟩, hM1⟩
       have d1 : w1.cell? ⟨p, 1, none⟩ = some (.slice a l.length c1) := by rw [cell_of_row w1 p 1 _ _ (0,0) hb1]; rfl
       have HO1 := Lib.hid hO1; have HB1 := Lib.hid hb1; have HM1 := Lib.hid hM1; clear hO1 hb1 hM1)
    | (at_builtin; refine wpL_appendN (us := [_]) rfl (.tmp 11) (.tmp 13) 99 rfl ti24 rfl HO1.out rfl rfl rfl (by omega) (by unfold maxLen; omega) ?_; intro a2 c2 w2 hO2 hG2 _
       have f1 : w2.frozen? ⟨p, 1, none⟩ = false := frozen_at (hG2.mod.at HB1.out HN.out)
       have d2 := hG2.mod.cell d1 HN.out
       have HO2 := Lib.hid hO2; have HG2 := Lib.hid hG2; clear hO2 hG2))
  go_ret
  have hO2 : Own w2 5 1 a2 (l ++ [c]).length c2 (bts (l ++ [c])) := by rw [bts_append, List.length_append]; exact HO2.out
  have := BuAt.put HN.out HB1.out hO2 HG2.out (n := l.length + 1) (by simp)
  exact ⟨rfl, a2, this.1, BuGo.trans ⟨HM1.out.mono (fun _ _ h => .inl h), .inl rfl⟩ this.2⟩

theorem writeString_any (p : Nat) (a : Option Addr) (l : List UInt8) (s : ByteArray) (w : World) (h : BuAt w p a l) (hl : l.length + s.size < 2 ^ 40) :
    Calls Tryd.prog 70 #[.pointer (some ⟨p, 0, none⟩), .string s] w fun e w' => e = .returned (.tuple #[.int .i64 s.size, .nilIface]) ∧ ∃ a', BuAt w' p a' (l ++ s.data.toList) ∧ BuGo w p a w' a' := by
  have HC := Lib.hid (copyCheck_any p a l w h)
  have hne := h.1
  have hlt := h.lt
  have HN := Lib.hid hne; clear h hne
  go_enter Tryd.func70, Tryd.ntmps70
  go_wp2_with (first
    | (go_at_call 79; refine HC.out.mono ?_; rintro e w1 ⟨rfl, ⟨c1, hb1, hO1⟩, hM1⟩
       have d1 : w1.cell? ⟨p, 1, none⟩ = some (.slice a l.length c1) := by rw [cell_of_row w1 p 1 _ _ (0,0) hb1]; rfl
       have HO1 := Lib.hid hO1; have HB1 := Lib.hid hb1; have HM1 := Lib.hid hM1; clear hO1 hb1 hM1)
    | (at_builtin; refine wpL_append rfl (.tmp 12) (.tmp 13) 99 9 rfl ti24 rfl HO1.out rfl (Src.ofString _ (by kernel_rfl) s) (by omega) (by unfold maxLen; omega) ?_; intro a2 c2 w2 hO2 hG2 _
       have f1 : w2.frozen? ⟨p, 1, none⟩ = false := frozen_at (hG2.mod.at HB1.out HN.out)
       have d2 := hG2.mod.cell d1 HN.out
       have HO2 := Lib.hid hO2; have HG2 := Lib.hid hG2; clear hO2 hG2))
  go_ret2
  have hsz : s.data.toList.length = s.size := (Lib.size_eq s).symm
  have hO2 : Own w2 5 1 a2 (l ++ s.data.toList).length c2 (bts (l ++ s.data.toList)) := by rw [bts_append, List.length_append, hsz, ← bts_byteCells]; exact HO2.out
  have := BuAt.put HN.out HB1.out hO2 HG2.out (n := l.length + s.size) (by rw [List.length_append, hsz])
  exact ⟨rfl, a2, this.1, BuGo.trans ⟨HM1.out.mono (fun _ _ h => .inl h), .inl rfl⟩ this.2⟩

theorem freeze_mod {S : Nat → Prop} {a w : World} (h : Mod S a w) {q : Addr} (hq : S q.block) (n : Nat) : Mod S a (w.freeze q n) := by
  refine h.trans ?_
  unfold World.freeze
  split
  · exact Mod.refl S w
  · exact ⟨rfl, rfl, rfl, by simp, fun k hk hs => by
      simp only [Array.getElem?_modify]
      rw [if_neg (by intro e; subst e; exact hs hq)]⟩

theorem bString_any (p : Nat) (a : Option Addr) (l : List UInt8) (w : World) (h : BuAt w p a l) (hl : l.length < 2 ^ 40) (hz : l = [] → a = none) :
    Calls Tryd.prog 52 #[.pointer (some ⟨p, 0, none⟩)] w fun e w' => e = .returned (.string ⟨l.toArray⟩) ∧ Mod (fun b => b = p ∨ blk a = some b) w w' := by
  obtain ⟨hne, v, c, hv, hbk, hO⟩ := h
  have hc1 : w.cell? ⟨p, 1, none⟩ = some (.slice a l.length c) := by rw [cell_of_row w p 1 _ _ (0,0) hbk]; rfl
  by_cases h0 : l = []
  · obtain rfl := hz h0
    subst h0
    obtain rfl : c = 0 := by
      rcases hO.2 with ⟨_, _, h⟩ | ⟨_, _, h, _⟩
      · exact h
      · cases h
    clear hO hbk hne hv hz
    have hUS := fun (w : World) q => Lib.run_unsafeString_none (P := Tryd.prog) w 118 3 9 q
    have hSD : ∀ w : World, (Builtin.unsafeSliceData_ #[99] 118 #[.slice none 0 0]).run Tryd.prog w = .ok (.pointer none) w := fun w => rfl
    go_enter Tryd.func52, Tryd.ntmps52
    go_wp2
    refine wp_region_ord (fun w' => w'.cell? ⟨p, 1, none⟩ = some (.slice none 0 0)) [(0, 0), (0, 1), (0, 2), (1, 3), (0, 5), (0, 6), (0, 7), (1, 8), (0, 9), (2, 4), (3, 10), (0, 11)] (by kernel_rfl) (by kernel_rfl) ?_
    go_wp2_with (first
      | (refine ord_pure rfl rfl rfl (fun K hK => ?_); go_big_quiet_op; refine hK _ ?_; clear hK K)
                                                                | (refine ord_skip rfl rfl ?_; simp only [Act.put, List.setIfInBounds_toArray, List.set_cons_zero, List.set_cons_succ])
                                                                | (refine ord_held rfl rfl rfl (by simpa using hc1) (fun K hK => ?_); apply Exists.intro; refine ⟨fun w' hs => ?_, hK _ ?_⟩; (revert hs; dsimp only; (try simp only [and_imp]); intros; go_simp; rfl); clear hK K)
                                                                | (refine ord_keep rfl rfl (by simpa using hc1) (fun K hK => ?_))
                                                                | (refine ord_drop rfl rfl (fun K hK => ?_))
                                                                | (refine ord_nil ?_))
    refine hK _ _ (by simpa using hc1) ?_; clear hK K
    go_wp2_with (first
      | (refine ord_pure rfl rfl rfl (fun K hK => ?_); go_big_quiet_op; refine hK _ ?_; clear hK K)
                                                                | (refine ord_skip rfl rfl ?_; simp only [Act.put, List.setIfInBounds_toArray, List.set_cons_zero, List.set_cons_succ])
                                                                | (refine ord_held rfl rfl rfl (by simpa using hc1) (fun K hK => ?_); apply Exists.intro; refine ⟨fun w' hs => ?_, hK _ ?_⟩; (revert hs; dsimp only; (try simp only [and_imp]); intros; go_simp; rfl); clear hK K)
                                                                | (refine ord_keep rfl rfl (by simpa using hc1) (fun K hK => ?_))
                                                                | (refine ord_drop rfl rfl (fun K hK => ?_))
                                                                | (refine ord_nil ?_))
    go_ret
    exact ⟨rfl, (Mod.refl _ w).drew⟩
  · rcases hO.2 with ⟨rfl, h1, _⟩ | ⟨g, cur, rfl, hg, hlc, hcm, hcs, htk⟩
    · exact absurd (List.eq_nil_of_length_eq_zero h1) h0
    · have hlp : 0 < l.length := List.length_pos_iff.2 h0
      have hcne : c ≠ 0 := by omega
      have hsh : w.drew.shape? g = some (5, cur.size) := by
        have : w.drew.heap[g]? = some (.cells cur 5 (0, 0)) := hg
        simp [World.shape?, this]
      have hcell : ∀ j x, l[j]? = some x → w.drew.cell? ((⟨g, 0, none⟩ : Addr).add j) = some (.int .u8 x.toNat) := fun j x hx => by
        obtain ⟨b, o, e, hc⟩ := hO.rd j (.int .u8 x.toNat) (by simp [bts, hx])
        cases e
        have : (⟨g, 0, none⟩ : Addr).add j = ⟨g, 0 + j, none⟩ := by unfold Addr.add; split <;> simp_all
        rw [this]; exact hc
      have hUS := Lib.run_unsafeString_row (P := Tryd.prog) w.drew 118 3 9 5 (by kernel_rfl) (by kernel_rfl) g cur.size hsh l h0 (by rw [hcs]; omega) (by omega) hcell
      have hSD : ∀ w : World, (Builtin.unsafeSliceData_ #[99] 118 #[.slice (some ⟨g, 0, none⟩) l.length c]).run Tryd.prog w = .ok (.pointer (some ⟨g, 0, none⟩)) w := fun w => Lib.run_unsafeSliceData_row w _ _ _ _ _ hcne
      clear hO hbk hne hv hz hsh hcell hg hlc hcm hcs htk hcne hlp
      have H0 := Lib.hid h0; clear h0
      go_enter Tryd.func52, Tryd.ntmps52
      go_wp2
      refine wp_region_ord (fun w' => w'.cell? ⟨p, 1, none⟩ = some (.slice (some ⟨g, 0, none⟩) l.length c)) [(0, 0), (0, 1), (0, 2), (1, 3), (0, 5), (0, 6), (0, 7), (1, 8), (0, 9), (2, 4), (3, 10), (0, 11)] (by kernel_rfl) (by kernel_rfl) ?_
      go_wp2_with (first
        | (refine ord_pure rfl rfl rfl (fun K hK => ?_); go_big_quiet_op; refine hK _ ?_; clear hK K)
                                                                | (refine ord_skip rfl rfl ?_; simp only [Act.put, List.setIfInBounds_toArray, List.set_cons_zero, List.set_cons_succ])
                                                                | (refine ord_held rfl rfl rfl (by simpa using hc1) (fun K hK => ?_); apply Exists.intro; refine ⟨fun w' hs => ?_, hK _ ?_⟩; (revert hs; dsimp only; (try simp only [and_imp]); intros; go_simp; rfl); clear hK K)
                                                                | (refine ord_keep rfl rfl (by simpa using hc1) (fun K hK => ?_))
                                                                | (refine ord_drop rfl rfl (fun K hK => ?_))
                                                                | (refine ord_nil ?_))
      refine hK _ _ (by simpa using hc1) ?_; clear hK K
      go_wp2_with (first
        | (refine ord_pure rfl rfl rfl (fun K hK => ?_); go_big_quiet_op; refine hK _ ?_; clear hK K)
                                                                | (refine ord_skip rfl rfl ?_; simp only [Act.put, List.setIfInBounds_toArray, List.set_cons_zero, List.set_cons_succ])
                                                                | (refine ord_held rfl rfl rfl (by simpa using hc1) (fun K hK => ?_); apply Exists.intro; refine ⟨fun w' hs => ?_, hK _ ?_⟩; (revert hs; dsimp only; (try simp only [and_imp]); intros; go_simp; rfl); clear hK K)
                                                                | (refine ord_keep rfl rfl (by simpa using hc1) (fun K hK => ?_))
                                                                | (refine ord_drop rfl rfl (fun K hK => ?_))
                                                                | (refine ord_nil ?_))
      go_ret
      exact ⟨rfl, freeze_mod (Mod.refl _ w).drew (q := ⟨g, 0, none⟩) (.inr rfl) _⟩
end Go.Proofs.YtphgglnkdfndiaaDoor
namespace Go.Proofs.YtphgglnkdfndiaaDoor
open Go Go.RowKit Go.Mine
set_option maxHeartbeats 400000
set_option maxRecDepth 100000
set_option linter.unusedVariables false

def fig (n : UInt8) : UInt8 := if n < 10 then 48 + n else 87 + n
/-- a byte as it stands in a text in quotes -/
def q1 (c : UInt8) : List UInt8 :=
  if c = 34 ∨ c = 92 then [92, c] else if c = 10 then [92, 110] else if c = 9 then [92, 116] else if 32 ≤ c ∧ c ≤ 126 then [c] else [92, 120, fig (c / 16), fig (c % 16)]
def quotedL (l : List UInt8) : List UInt8 := 34 :: l.flatMap q1 ++ [34]
theorem q1_len (c : UInt8) : (q1 c).length ≤ 4 := by
  unfold q1
  split
  · simp
  · split
    · simp
    · split
      · simp
      · split <;> simp
theorem q1s_len (l : List UInt8) : (l.flatMap q1).length ≤ 4 * l.length := by
  induction l with
  | nil => simp
  | cons c l ih => have := q1_len c; simp only [List.flatMap_cons, List.length_append, List.length_cons]; omega

theorem ext1 (s : ByteArray) {k : Nat} (h : k < s.size) : (s.extract k (k + 1)).data.toList = [s[k]] := by
  rw [ByteArray.data_extract, Array.toList_extract]
  simp only [List.extract, Nat.add_sub_cancel_left]
  rw [List.drop_eq_getElem_cons (by simpa using h)]
  rfl
def hexBA : ByteArray := ⟨#[48, 49, 50, 51, 52, 53, 54, 55, 56, 57, 97, 98, 99, 100, 101, 102]⟩
theorem hexx : ∀ a : Fin 16, (hexBA.extract a.1 (a.1 + 1)).data.toList = [fig (UInt8.ofNat a.1)] := by decide +kernel
theorem q1_hex {c : UInt8} {n : Nat} (hn : n = c.toNat) : (⟨#[92, 120]⟩ ++ hexBA.extract (n / 16) (n / 16 + 1) ++ hexBA.extract (n % 16) (n % 16 + 1) : ByteArray).data.toList = [92, 120, fig (c / 16), fig (c % 16)] := by
  have hn256 : n < 256 := by rw [hn]; exact c.toNat_lt
  have h1 := hexx ⟨n / 16, by omega⟩
  have h2 := hexx ⟨n % 16, by omega⟩
  simp only at h1 h2
  have e1 : UInt8.ofNat (n / 16) = c / 16 := by
    rw [← UInt8.toNat_inj, UInt8.toNat_div, UInt8.toNat_ofNat', ← hn]
    show (n / 16) % 256 = n / 16
    omega
  have e2 : UInt8.ofNat (n % 16) = c % 16 := by
    rw [← UInt8.toNat_inj, UInt8.toNat_mod, UInt8.toNat_ofNat', ← hn]
    show (n % 16) % 256 = n % 16
    omega
  rw [ByteArray.data_append, ByteArray.data_append, Array.toList_append, Array.toList_append, h1, h2, e1, e2]
  rfl
theorem Bu_mod {w w1 : World} {p : Nat} {a1 : Option Addr} (hp : w.heap.size ≤ p) {wa : World} {a : Option Addr} (ha : ∀ b, blk a = some b → w.heap.size ≤ b) (hm : Mod (fun _ => False) w wa) (hg : BuGo wa p a w1 a1) :
    Mod (fun _ => False) w w1 ∧ ∀ b, blk a1 = some b → w.heap.size ≤ b := by
  refine ⟨hm.step hg.mod (fun i hi hs => ?_), fun b hb => ?_⟩
  · rcases hs with rfl | hs
    · omega
    · have := ha i hs; omega
  · rcases hg.pos with e | ⟨b', e, hb'⟩
    · rw [e] at hb; exact ha b hb
    · rw [e] at hb; cases hb; have := hm.size; omega

theorem lexQuoted_any (s : ByteArray) (w : World) (hs : s.size < 2 ^ 30) :
    Calls Tryd.prog 78 #[.string s] w fun e w' => e = .returned (.string ⟨(quotedL s.data.toList).toArray⟩) ∧ Mod (fun _ => False) w w' := by
  have H0 := Lib.hid (BuAt.fresh w)
  have M0 := Lib.hid ((Mod.refl (fun _ => False) w).alloc (.cells #[.pointer none, .slice none 0 0] 101))
  go_enter Tryd.func78, Tryd.ntmps78
  go_wp2_with (first
    | (go_at_call 87; refine (writeByte_any w.heap.size none [] 34 _ H0.out (by simp)).mono ?_; rintro e w1 ⟨rfl, a1, h1, hg1⟩
       have H1 := Lib.hid h1; have HG1 := Lib.hid hg1; clear h1 hg1))
  go_loopw [9] (fun i wr => ∃ (k : Nat) (a : Option Addr), i = .int .i64 k ∧ k ≤ s.size ∧ Hid (BuAt wr w.heap.size a (34 :: (s.data.toList.take k).flatMap q1)) ∧ Hid (∀ b, blk a = some b → w.heap.size ≤ b) ∧ Hid (Mod (fun _ => False) w wr)) (fun i _ => s.size - (intOf i).toNat)
  case atStart => exact ⟨0, a1, rfl, by omega, H1, (Bu_mod (Nat.le_refl _) (by intro b h; simp at h) M0.out HG1.out).2, (Bu_mod (Nat.le_refl _) (by intro b h; simp at h) M0.out HG1.out).1⟩
  case round =>
    obtain ⟨k, a, rfl, hk, hB, hF, hM⟩ := hrel
    by_cases hlt : k < s.size
    · have hstep : (s.data.toList.take (k + 1)).flatMap q1 = (s.data.toList.take k).flatMap q1 ++ q1 s[k] := by
        rw [List.take_succ_eq_append_getElem (by simpa using hlt), List.flatMap_append]
        simp; rfl
      have hlen := q1s_len (s.data.toList.take k)
      generalize (s.data.toList.take k).flatMap q1 = bs at *
      obtain ⟨c, hc⟩ : ∃ c, s[k] = c := ⟨_, rfl⟩
      rw [hc] at hstep
      have HST := Lib.hid hstep; clear hstep
      have hlb : bs.length ≤ 4 * k := by simp only [List.length_take] at hlen; omega
      clear hlen
      have HWS : Hid (∀ (t : ByteArray) (w1 : World), q1 c = t.data.toList → BuAt w1 w.heap.size a (34 :: bs) → Mod (fun _ => False) w w1 →
          Calls Tryd.prog 70 #[.pointer (some ⟨w.heap.size, 0, none⟩), .string t] w1 fun e w' => e = .returned (.tuple #[.int .i64 t.size, .nilIface]) ∧
            ∃ a', Hid (BuAt w' w.heap.size a' (34 :: (s.data.toList.take (k + 1)).flatMap q1)) ∧ Hid (∀ b, blk a' = some b → w.heap.size ≤ b) ∧ Hid (Mod (fun _ => False) w w')) := fun t w1 hq hb hm => by
        have hts : t.size ≤ 4 := by have := q1_len c; rw [hq] at this; rw [Lib.size_eq]; exact this
        refine (writeString_any w.heap.size a (34 :: bs) t w1 hb (by simp only [List.length_cons]; omega)).mono ?_
        rintro e w' ⟨h1, a', h2, h3⟩
        refine ⟨h1, a', ?_, (Bu_mod (Nat.le_refl _) hF.out hm h3).2, (Bu_mod (Nat.le_refl _) hF.out hm h3).1⟩
        unfold Hid
        rw [HST.out, hq]
        simpa using h2
      have HWB : Hid (∀ (w1 : World), q1 c = [c] → BuAt w1 w.heap.size a (34 :: bs) → Mod (fun _ => False) w w1 →
          Calls Tryd.prog 87 #[.pointer (some ⟨w.heap.size, 0, none⟩), .int .u8 c.toNat] w1 fun e w' => e = .returned .nilIface ∧
            ∃ a', Hid (BuAt w' w.heap.size a' (34 :: (s.data.toList.take (k + 1)).flatMap q1)) ∧ Hid (∀ b, blk a' = some b → w.heap.size ≤ b) ∧ Hid (Mod (fun _ => False) w w')) := fun w1 hq hb hm => by
        refine (writeByte_any w.heap.size a (34 :: bs) c w1 hb (by simp only [List.length_cons]; omega)).mono ?_
        rintro e w' ⟨h1, a', h2, h3⟩
        refine ⟨h1, a', ?_, (Bu_mod (Nat.le_refl _) hF.out hm h3).2, (Bu_mod (Nat.le_refl _) hF.out hm h3).1⟩
        unfold Hid
        rw [HST.out, hq]
        simpa using h2
      have HX := Lib.hid (ext1 s hlt)
      by_cases h34 : c = 34
      · subst h34
        go_wp2_with (first
          | (go_at_call 70; refine (HWS.out _ _ (by rw [ByteArray.data_append, Array.toList_append, HX.out, hc]; rfl) hB.out hM.out).mono ?_; rintro e w3 ⟨rfl, a3, hB3, hF3, hM3⟩))
        go_roundw
        case rel => exact ⟨k + 1, a3, by go_num, hlt, hB3, hF3, hM3⟩
        case measure => simp [intOf]; omega
      · by_cases h92 : c = 92
        · subst h92
          go_wp2_with (first
            | (go_at_call 70; refine (HWS.out _ _ (by rw [ByteArray.data_append, Array.toList_append, HX.out, hc]; rfl) hB.out hM.out).mono ?_; rintro e w3 ⟨rfl, a3, hB3, hF3, hM3⟩))
          go_roundw
          case rel => exact ⟨k + 1, a3, by go_num, hlt, hB3, hF3, hM3⟩
          case measure => simp [intOf]; omega
        · by_cases h10 : c = 10
          · subst h10
            go_wp2_with (first
              | (go_at_call 70; refine (HWS.out _ _ (rfl) hB.out hM.out).mono ?_; rintro e w3 ⟨rfl, a3, hB3, hF3, hM3⟩))
            go_roundw
            case rel => exact ⟨k + 1, a3, by go_num, hlt, hB3, hF3, hM3⟩
            case measure => simp [intOf]; omega
          · by_cases h9 : c = 9
            · subst h9
              go_wp2_with (first
                | (go_at_call 70; refine (HWS.out _ _ (rfl) hB.out hM.out).mono ?_; rintro e w3 ⟨rfl, a3, hB3, hF3, hM3⟩))
              go_roundw
              case rel => exact ⟨k + 1, a3, by go_num, hlt, hB3, hF3, hM3⟩
              case measure => simp [intOf]; omega
            · obtain ⟨n, hn⟩ : ∃ n, n = c.toNat := ⟨_, rfl⟩
              have hn256 : n < 256 := by rw [hn]; exact c.toNat_lt
              have t34 : n ≠ 34 := fun h => h34 (by rw [← UInt8.toNat_inj, ← hn, h]; rfl)
              have e34 : ((n : Int) == 34) = false := by simp; omega
              have t92 : n ≠ 92 := fun h => h92 (by rw [← UInt8.toNat_inj, ← hn, h]; rfl)
              have e92 : ((n : Int) == 92) = false := by simp; omega
              have t10 : n ≠ 10 := fun h => h10 (by rw [← UInt8.toNat_inj, ← hn, h]; rfl)
              have e10 : ((n : Int) == 10) = false := by simp; omega
              have t9 : n ≠ 9 := fun h => h9 (by rw [← UInt8.toNat_inj, ← hn, h]; rfl)
              have e9 : ((n : Int) == 9) = false := by simp; omega
              have hcn : s[k].toNat = n := by rw [hc, hn]
              rw [← hn] at HWB
              by_cases hpr : 32 ≤ n ∧ n ≤ 126
              · obtain ⟨hp1, hp2⟩ := hpr
                have HQ : Hid (q1 c = [c]) := by unfold Hid q1; rw [if_neg (by simp [h34, h92]), if_neg h10, if_neg h9, if_pos ⟨by rw [UInt8.le_iff_toNat_le, ← hn]; exact hp1, by rw [UInt8.le_iff_toNat_le, ← hn]; exact hp2⟩]
                clear h34 h92 h10 h9 hn hc t34 t92 t10 t9
                go_wp2_with (first
                  | (go_at_call 87; refine (HWB.out _ HQ.out hB.out hM.out).mono ?_; rintro e w3 ⟨rfl, a3, hB3, hF3, hM3⟩))
                go_roundw
                case rel => exact ⟨k + 1, a3, by go_num, hlt, hB3, hF3, hM3⟩
                case measure => simp [intOf]; omega
              · have HQ : Hid (q1 c = (⟨#[92, 120]⟩ ++ hexBA.extract (n / 16) (n / 16 + 1) ++ hexBA.extract (n % 16) (n % 16 + 1) : ByteArray).data.toList) := by
                  rw [q1_hex hn]
                  unfold Hid q1
                  rw [if_neg (by simp [h34, h92]), if_neg h10, if_neg h9, if_neg (by rw [UInt8.le_iff_toNat_le, UInt8.le_iff_toNat_le, ← hn]; exact hpr)]
                clear h34 h92 h10 h9 hn hc t34 t92 t10 t9
                rcases (show n < 32 ∨ 126 < n by omega) with hpr | hpr
                all_goals
                  go_wp2
                  refine wp_region_ord (fun _ => True) [(0, 0), (0, 1), (0, 2), (0, 3), (0, 4), (0, 5), (0, 6), (0, 7), (0, 8), (0, 9), (0, 10), (0, 11), (0, 12), (0, 13), (3, 14)] (by kernel_rfl) (by kernel_rfl) ?_
                  go_wp2_with (first
                    | (refine ord_pure rfl rfl rfl (fun K hK => ?_); go_big_quiet_op; refine hK _ ?_; clear hK K)
                                                                | (refine ord_skip rfl rfl ?_; simp only [Act.put, List.setIfInBounds_toArray, List.set_cons_zero, List.set_cons_succ])
                                                                | (refine ord_held rfl rfl rfl (True.intro) (fun K hK => ?_); apply Exists.intro; refine ⟨fun w' hs => ?_, hK _ ?_⟩; (revert hs; dsimp only; (try simp only [and_imp]); intros; go_simp; rfl); clear hK K)
                                                                | (refine ord_keep rfl rfl (True.intro) (fun K hK => ?_))
                                                                | (refine ord_drop rfl rfl (fun K hK => ?_))
                                                                | (refine ord_nil ?_)
                    | (go_at_call 70; refine (HWS.out _ _ HQ.out (hB.out.mod0 (Mod.refl _ wr).drew) hM.out.drew).mono ?_; rintro e w3 ⟨rfl, a3, hB3, hF3, hM3⟩))
                  go_roundw
                  case rel => exact ⟨k + 1, a3, by go_num, hlt, hB3, hF3, hM3⟩
                  case measure => simp [intOf]; omega
    · obtain rfl : k = s.size := by omega
      have hlen := q1s_len s.data.toList
      have hsl : s.data.toList.length = s.size := (Lib.size_eq s).symm
      rw [hsl] at hlen
      have hB' := hB.out
      rw [List.take_of_length_le (by omega)] at hB'
      have HQ : Hid (quotedL s.data.toList = 34 :: s.data.toList.flatMap q1 ++ [34]) := rfl
      generalize s.data.toList.flatMap q1 = bs at *
      have HB2 := Lib.hid hB'; clear hB' hB hsl
      go_wp2_with (first
        | (go_at_call 87; refine (writeByte_any w.heap.size _ _ 34 _ HB2.out (by simp only [List.length_cons]; omega)).mono ?_; rintro e w1 ⟨rfl, a1, h1, hg1⟩
           have hm1 := Bu_mod (Nat.le_refl _) hF.out hM.out hg1
           have H1 := Lib.hid h1; have HM1 := Lib.hid hm1; clear h1 hg1 hm1)
        | (go_at_call 52; refine (bString_any w.heap.size _ _ _ H1.out (by simp only [List.length_cons, List.length_append, List.length_nil]; omega) (by simp)).mono ?_; rintro e w2 ⟨rfl, hM2⟩
           have HM2 := Lib.hid hM2; clear hM2))
      go_ret
      exact ⟨by rw [HQ.out]; rfl, HM1.out.1.step HM2.out (fun i hi hs => by
        rcases hs with rfl | hs
        · omega
        · have := HM1.out.2 i hs; omega)⟩
end Go.Proofs.YtphgglnkdfndiaaDoor
