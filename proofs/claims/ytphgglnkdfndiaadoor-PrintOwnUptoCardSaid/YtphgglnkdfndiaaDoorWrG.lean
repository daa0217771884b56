/-
  print's writer: put, term.
-/
import Derived.Test.YtphgglnkdfndiaaDoorMayL
import Derived.Test.YtphgglnkdfndiaaDoorBuildW
import Derived.WalkLawsBesides
namespace Go.Proofs.YtphgglnkdfndiaaDoor
open Go Go.RowKit Go.Mine
set_option linter.unusedVariables false
set_option maxHeartbeats 4000000
set_option maxRecDepth 100000

/-- what a text that gets too long is given up with -/
def longE : List PanicEntry := [{ v := .iface 96 (.agg #[]), recovered := false }]
/-- a writer made behind w0 -/
structure Wr (w0 w : World) (p : Nat) (a : Option Addr) (l : List UInt8) : Prop where
  at_ : BwAt w p a l
  mod : Mod (fun _ => False) w0 w
  hp : w0.heap.size ≤ p
  ha : ∀ b, blk a = some b → w0.heap.size ≤ b
  few : l.length ≤ 65536
  nil : l = [] → a = none
theorem Wr.mod0 {w0 w w' : World} {p : Nat} {a : Option Addr} {l : List UInt8} (h : Wr w0 w p a l) (m : Mod (fun _ => False) w w') : Wr w0 w' p a l :=
  ⟨h.at_.mod0 m, h.mod.trans m, h.hp, h.ha, h.few, h.nil⟩
theorem Wr.go {w0 w w' : World} {p : Nat} {a a' : Option Addr} {l l' : List UInt8} (h : Wr w0 w p a l) (hb : BwAt w' p a' l') (hg : BuGo w p a w' a') (hl : l'.length ≤ 65536) (hn : l' ≠ []) : Wr w0 w' p a' l' := by
  have h1 := h.hp
  have h2 := h.mod.size
  refine ⟨hb, h.mod.step hg.mod (fun i hi hs => ?_), h1, fun b hb => ?_, hl, fun e => absurd e hn⟩
  · rcases hs with rfl | hs
    · omega
    · have := h.ha i hs; omega
  · rcases hg.pos with e | ⟨g, e, hg⟩
    · rw [e] at hb; exact h.ha b hb
    · rw [e] at hb; cases hb; omega
/-- what writing on leaves: all of it is written; or it was too long -/
def WrPost (w0 w : World) (p : Nat) (a : Option Addr) (out : List UInt8) (e : Ending) (w' : World) : Prop :=
  (e = .returned (.tuple #[]) ∧ ∃ a', Wr w0 w' p a' out ∧ BuGo w p a w' a') ∨ (65536 < out.length ∧ e = .panicked longE ∧ Mod (fun _ => False) w0 w')
def flatS (ss : List ByteArray) : List UInt8 := ss.flatMap fun s => s.data.toList
theorem Len_any (p : Nat) (a : Option Addr) (l : List UInt8) (w : World) (h : BwAt w p a l) (hl : l.length < 2 ^ 40) :
    Calls Tryd.prog 69 #[.pointer (some ⟨p, 0, none⟩)] w fun e w' => e = .returned (.int .i64 l.length) ∧ w = w' := by
  obtain ⟨_, v, c, _, hb, _⟩ := h
  have c1 : w.cell? ⟨p, 1, none⟩ = some (.slice a l.length c) := cell_at hb rfl
  clear hb
  go_enter Tryd.func69, Tryd.ntmps69
  go_wp2
  go_ret
  exact ⟨rfl, rfl⟩
theorem put_any (ss : List ByteArray) (sa : Option Addr) (sc : Nat) (w0 w : World) (p : Nat) (a : Option Addr) (l : List UInt8) (h : Wr w0 w p a l) (hs : Rd w sa (sts ss))
    (hd : ∀ b, blk sa = some b → b ≠ p ∧ blk a ≠ some b) (hn : ∀ s ∈ ss, 0 < s.size ∧ s.size < 2 ^ 30) (hm : ss.length < 2 ^ 30) :
    Calls Tryd.prog 54 #[.pointer (some ⟨p, 0, none⟩), .slice sa ss.length sc] w (WrPost w0 w p a (l ++ flatS ss)) := by
  have H := Lib.hid h; have HS := Lib.hid hs; have HN := Lib.hid hn; have HD := Lib.hid hd
  clear h hs hn hd
  go_enter Tryd.func54, Tryd.ntmps54
  go_wp2_with fail
  go_loopw [8] (fun iv wr => ∃ (k : Nat) (a' : Option Addr), iv = .int .i64 k ∧ k ≤ ss.length ∧ Hid (Wr w0 wr p a' (l ++ flatS (ss.take k))) ∧ Hid (Rd wr sa (sts ss)) ∧ Hid (∀ b, blk sa = some b → b ≠ p ∧ blk a' ≠ some b) ∧ Hid (BuGo w p a wr a')) (fun iv _ => ss.length - (intOf iv).toNat)
  case atStart => exact ⟨0, a, rfl, Nat.zero_le _, by simpa [flatS] using H, HS, HD, Lib.hid (BuGo.refl w p a)⟩
  case round =>
    obtain ⟨k, a', rfl, hk, hW, hR, hD, hGo⟩ := hrel
    clear H HS HD
    by_cases hlt : k < ss.length
    · obtain ⟨b, o, rfl, x0⟩ := hR.out k (.string ss[k]) (by simp [sts, hlt])
      obtain ⟨hpos, hsz⟩ := HN.out _ (List.getElem_mem hlt)
      have hstep : l ++ flatS (ss.take (k + 1)) = l ++ flatS (ss.take k) ++ ss[k].data.toList := by
        unfold flatS
        rw [List.take_succ_eq_append_getElem hlt, List.flatMap_append, List.append_assoc]
        simp
      have hmore : (l ++ flatS (ss.take (k + 1))).length ≤ (l ++ flatS ss).length := by
        have e : ss.flatMap (fun s => s.data.toList) = (ss.take (k + 1)).flatMap (fun s => s.data.toList) ++ (ss.drop (k + 1)).flatMap (fun s => s.data.toList) := by
          rw [← List.flatMap_append, List.take_append_drop]
        unfold flatS
        rw [e]
        simp only [List.length_append]
        omega
      have hfew := hW.out.few
      have HT := Lib.hid hstep
      have hlen : (l ++ flatS (ss.take (k + 1))).length = (l ++ flatS (ss.take k)).length + ss[k].size := by
        have h2 : ∀ x y : List UInt8, (x ++ y).length = x.length + y.length := fun _ _ => List.length_append
        rw [hstep, h2 (l ++ flatS (ss.take k)), ← Lib.size_eq]
      clear hstep
      generalize flatS (ss.take k) = fk at *
      obtain ⟨fk1, hfk1⟩ : ∃ fk1, fk1 = flatS (ss.take (k + 1)) := ⟨_, rfl⟩
      rw [← hfk1] at HT hmore hlen
      have HF := Lib.hid hfk1
      clear hfk1
      generalize ss[k] = s at *
      have HMore := Lib.hid hmore; have HLen := Lib.hid hlen
      clear hmore hlen
      have HL := Lib.hid (Len_any p a' (l ++ fk) wr hW.out.at_ (by omega))
      by_cases hov : 65536 < (l ++ fk).length + s.size
      · generalize (l ++ fk).length = n at *
        go_wp2_with fail
        refine HL.out.mono ?_
        rintro e w1 ⟨rfl, rfl⟩
        go_wp2_with fail
        exact ⟨rfl, .inr ⟨by have := HMore.out; have := HLen.out; omega, rfl, hW.out.mod⟩⟩
      · have HWS := Lib.hid (writeStringW_any p a' (l ++ fk) s wr hW.out.at_ (by omega))
        generalize hnn : (l ++ fk).length = n at *
        have HNN := Lib.hid hnn
        clear hnn
        go_wp2_with fail
        refine HL.out.mono ?_
        rintro e w1 ⟨rfl, rfl⟩
        go_wp2_with fail
        refine HWS.out.mono ?_
        rintro e w2 ⟨rfl, a2, hB2, hG2⟩
        have HW2 : Hid (Wr w0 w2 p a2 (l ++ fk1)) := by
          unfold Hid
          rw [HT.out]
          refine hW.out.go hB2 hG2 (by rw [List.length_append, ← Lib.size_eq, HNN.out]; omega) (fun e => ?_)
          have := congrArg List.length e
          rw [List.length_append, ← Lib.size_eq, List.length_nil] at this
          omega
        have hd := hD.out b rfl
        have HR2 := Lib.hid (hR.out.mod hG2.mod (fun b' hb' => by cases hb'; rintro (e | e); exact hd.1 e; exact hd.2 e))
        have HD2 : Hid (∀ b', blk (some (⟨b, o, none⟩ : Addr)) = some b' → b' ≠ p ∧ blk a2 ≠ some b') := fun b' hb' => by
          cases hb'
          refine ⟨hd.1, fun e => ?_⟩
          have hlt : b < wr.heap.size := World.block_lt_of_cell? _ _ x0
          rcases hG2.pos with e' | ⟨g, e', hg⟩
          · rw [e'] at e; exact hd.2 e
          · have e2 : some g = some b := e'.symm.trans e
            cases e2; omega
        have HGo := Lib.hid (hGo.out.trans hG2)
        clear hB2 hG2 hd
        go_wp2_with fail
        go_roundw
        case rel => exact ⟨k + 1, a2, by go_num, hlt, by rw [← HF.out]; exact HW2, HR2, HD2, HGo⟩
        case measure => simp [intOf]; omega
    · obtain rfl : k = ss.length := by omega
      have HW2 := hW.out
      rw [List.take_length] at HW2
      have HW3 := Lib.hid HW2; clear HW2
      go_wp2_with fail
      go_end0
      exact .inl ⟨rfl, a', HW3.out, hGo.out⟩
theorem WrPost.pre0 {w0 w W w' : World} {p : Nat} {a : Option Addr} {out : List UInt8} {e : Ending} (h : WrPost w0 W p a out e w') (m : Mod (fun _ => False) w W) : WrPost w0 w p a out e w' := by
  rcases h with ⟨h1, a', h2, h3⟩ | h
  · exact .inl ⟨h1, a', h2, BuGo.pre0 m h3⟩
  · exact .inr h
theorem Wr.lt {w0 w : World} {p : Nat} {a : Option Addr} {l : List UInt8} (h : Wr w0 w p a l) : p < w.heap.size ∧ ∀ b, blk a = some b → b < w.heap.size := by
  refine ⟨h.at_.lt, fun b hb => ?_⟩
  obtain ⟨_, v, c, _, _, hO⟩ := h.at_
  exact hO.lt _ hb
/-- what was laid behind the writer stays -/
theorem Wr.keep {w0 w W w' : World} {p : Nat} {a a' : Option Addr} {l : List UInt8} (h : Wr w0 w p a l) (hg : BuGo W p a w' a') {g j : Nat} {v : Value} (hc : W.cell? ⟨g, j, none⟩ = some v) (hge : w.heap.size ≤ g) : w'.cell? ⟨g, j, none⟩ = some v := by
  refine hg.mod.cell hc ?_
  have h1 := h.lt.1
  rintro (e | e)
  · simp at e; omega
  · have := h.lt.2 _ e; simp at this; omega
/-- what is written next was just laid -/
theorem put_new (ss : List ByteArray) (w0 w : World) (p : Nat) (a : Option Addr) (l : List UInt8) (h : Wr w0 w p a l) (hn : ∀ s ∈ ss, 0 < s.size ∧ s.size < 2 ^ 30) (hm : ss.length < 2 ^ 30) (g : Nat) (hg : g = w.heap.size) (out : List UInt8) (ho : l ++ flatS ss = out) :
    Calls Tryd.prog 54 #[.pointer (some ⟨p, 0, none⟩), .slice (some ⟨g, 0, none⟩) ss.length ss.length] (w.alloc (.cells (sts ss).toArray 9)) (WrPost w0 w p a out) := by
  subst hg ho
  refine (put_any ss _ _ w0 _ p a l (h.mod0 ((Mod.refl _ w).alloc _)) (Rd.news w (sts ss) _) (fun b hb => ?_) hn hm).mono fun e w' hh => hh.pre0 ((Mod.refl _ w).alloc _)
  cases hb
  have hp := h.lt
  refine ⟨fun e => by simp at e; omega, fun e => ?_⟩
  have := hp.2 _ e
  simp at this
/-- one text written next -/
theorem put_one (s : ByteArray) (w0 w : World) (p : Nat) (a : Option Addr) (l : List UInt8) (h : Wr w0 w p a l) (hn : 0 < s.size ∧ s.size < 2 ^ 30) (g : Nat) (hg : g = w.heap.size) (out : List UInt8) (ho : l ++ s.data.toList = out) :
    Calls Tryd.prog 54 #[.pointer (some ⟨p, 0, none⟩), .slice (some ⟨g, 0, none⟩) 1 1] (w.alloc (.cells #[.string s] 9)) (WrPost w0 w p a out) :=
  put_new [s] w0 w p a l h (fun x hx => by simp at hx; subst hx; exact hn) (by simp) g hg out (by rw [← ho]; simp [flatS])
end Go.Proofs.YtphgglnkdfndiaaDoor
/-
  print's writer: term.
-/
namespace Go.Proofs.YtphgglnkdfndiaaDoor
open Go Go.RowKit Go.Mine
set_option linter.unusedVariables false
set_option maxHeartbeats 4000000
set_option maxRecDepth 100000

theorem quoted_len (s : ByteArray) (h : s.size ≤ 4096) : 0 < (⟨(quotedL s.data.toList).toArray⟩ : ByteArray).size ∧ (⟨(quotedL s.data.toList).toArray⟩ : ByteArray).size < 2 ^ 30 := by
  show 0 < (quotedL s.data.toList).length ∧ (quotedL s.data.toList).length < _
  have := q1s_len s.data.toList
  rw [← Lib.size_eq] at this
  unfold quotedL
  simp only [List.length_append, List.length_cons, List.length_nil]
  omega
theorem term_any (t : Tm) (ok : OkTm t) (w0 w : World) (p : Nat) (a : Option Addr) (l : List UInt8) (h : Wr w0 w p a l) :
    Calls Tryd.prog 68 #[.pointer (some ⟨p, 0, none⟩), tmV t] w (WrPost w0 w p a (l ++ tmT t)) := by
  obtain ⟨k, s⟩ := t
  have hlo := ok.lo
  have hhi := ok.hi
  have hlen := ok.len
  unfold tmV
  simp only at hlo hhi hlen ⊢
  have H := Lib.hid h; clear h
  by_cases h1 : k = 1
  · subst h1
    have hpos := ok.ne (.inl rfl)
    simp only at hpos
    have HP := Lib.hid (put_one s w0 (w.alloc (.cells #[.int .i64 1, .string s] 42)) p a l (H.out.mod0 ((Mod.refl _ w).alloc _)) ⟨hpos, by omega⟩ (w.heap.size + 1) (by simp) (l ++ tmT ⟨1, s⟩) rfl)
    clear hpos
    go_enter Tryd.func68, Tryd.ntmps68
    go_wp2_with fail
    refine (HP.out).mono ?_
    rintro e w2 (⟨rfl, a2, hW2, hG2⟩ | ⟨hov, rfl, hM2⟩)
    · have HW2 := Lib.hid hW2; have HG2 := Lib.hid hG2; clear hW2 hG2
      go_wp2_with fail
      go_end0
      exact .inl ⟨rfl, a2, HW2.out, BuGo.pre0 ((Mod.refl _ w).alloc _) HG2.out⟩
    · have HOV := Lib.hid hov; have HM2 := Lib.hid hM2; clear hov hM2
      go_wp2_with fail
      exact ⟨rfl, .inr ⟨HOV.out, rfl, HM2.out⟩⟩
  by_cases h2 : k = 2
  · subst h2
    have HP := Lib.hid (put_one ⟨#[95]⟩ w0 (w.alloc (.cells #[.int .i64 2, .string s] 42)) p a l (H.out.mod0 ((Mod.refl _ w).alloc _)) (by decide) (w.heap.size + 1) (by simp) (l ++ tmT ⟨2, s⟩) rfl)
    go_enter Tryd.func68, Tryd.ntmps68
    go_wp2_with fail
    refine (HP.out).mono ?_
    rintro e w2 (⟨rfl, a2, hW2, hG2⟩ | ⟨hov, rfl, hM2⟩)
    · have HW2 := Lib.hid hW2; have HG2 := Lib.hid hG2; clear hW2 hG2
      go_wp2_with fail
      go_end0
      exact .inl ⟨rfl, a2, HW2.out, BuGo.pre0 ((Mod.refl _ w).alloc _) HG2.out⟩
    · have HOV := Lib.hid hov; have HM2 := Lib.hid hM2; clear hov hM2
      go_wp2_with fail
      exact ⟨rfl, .inr ⟨HOV.out, rfl, HM2.out⟩⟩
  by_cases h3 : k = 3
  · subst h3
    have HW := Lib.hid (fun w => Word_any s w (by omega))
    have HQ := Lib.hid (fun w => lexQuoted_any s w (by omega))
    have hc1 : (w.alloc (.cells #[.int .i64 3, .string s] 42)).cell? ⟨w.heap.size, 1, none⟩ = some (.string s) := cell_new rfl
    have hm0 : Mod (fun _ => False) w (w.alloc (.cells #[.int .i64 3, .string s] 42)) := (Mod.refl _ w).alloc _
    by_cases hw : Word s = 1
    · have hT : tmT ⟨3, s⟩ = s.data.toList := by
        unfold tmT
        simp only
        rw [if_neg (by decide), if_neg (by decide), if_pos (by decide), if_pos hw]
      have hpos : 0 < s.size := Word_pos (by rw [hw]; decide)
      have HP := Lib.hid (fun (w1 : World) (m : Mod (fun _ => False) w w1) g hg => put_one s w0 w1 p a l (H.out.mod0 m) ⟨hpos, by omega⟩ g hg (l ++ tmT ⟨3, s⟩) (by rw [hT]))
      rw [hw] at HW
      have HM0 := Lib.hid hm0
      clear hT hpos hw hm0
      go_enter Tryd.func68, Tryd.ntmps68
      go_wp2_with fail
      refine (HW.out _).mono ?_
      rintro e w1 ⟨rfl, hM1⟩
      have c1 := hM1.cell hc1 id
      have HM1 := Lib.hid (HM0.out.trans hM1); clear hM1
      go_wp2_with fail
      refine (HP.out _ HM1.out _ rfl).mono ?_
      rintro e w2 (⟨rfl, a2, hW2, hG2⟩ | ⟨hov, rfl, hM2⟩)
      · have HW2 := Lib.hid hW2; have HG2 := Lib.hid hG2; clear hW2 hG2
        go_wp2_with fail
        go_end0
        exact .inl ⟨rfl, a2, HW2.out, BuGo.pre0 (HM1.out) HG2.out⟩
      · have HOV := Lib.hid hov; have HM2 := Lib.hid hM2; clear hov hM2
        go_wp2_with fail
        exact ⟨rfl, .inr ⟨HOV.out, rfl, HM2.out⟩⟩
    · have hT : tmT ⟨3, s⟩ = quotedL s.data.toList := by
        unfold tmT
        simp only
        rw [if_neg (by decide), if_neg (by decide), if_pos (by decide), if_neg hw]
      have hql := quoted_len s hlen
      obtain ⟨Q, hQ⟩ : ∃ Q : ByteArray, Q = ⟨(quotedL s.data.toList).toArray⟩ := ⟨_, rfl⟩
      have HP := Lib.hid (fun (w1 : World) (m : Mod (fun _ => False) w w1) g hg => put_one Q w0 w1 p a l (H.out.mod0 m) (by rw [hQ]; exact hql) g hg (l ++ tmT ⟨3, s⟩) (by rw [hT, hQ]))
      rw [← hQ] at HQ
      generalize Word s = wd at *
      have hwb : ((wd : Int) == 1) = false := by simp; omega
      have HM0 := Lib.hid hm0
      clear hT hql hQ hm0 hw
      go_enter Tryd.func68, Tryd.ntmps68
      go_wp2_with fail
      refine (HW.out _).mono ?_
      rintro e w1 ⟨rfl, hM1⟩
      have c1 := hM1.cell hc1 id
      have HM1 := Lib.hid (HM0.out.trans hM1); clear hM1
      go_wp2_with fail
      refine (HQ.out _).mono ?_
      rintro e w3 ⟨rfl, hM3⟩
      have HM3 := Lib.hid (HM1.out.trans hM3); clear hM3
      go_wp2_with fail
      refine (HP.out _ HM3.out _ rfl).mono ?_
      rintro e w2 (⟨rfl, a2, hW2, hG2⟩ | ⟨hov, rfl, hM2⟩)
      · have HW2 := Lib.hid hW2; have HG2 := Lib.hid hG2; clear hW2 hG2
        go_wp2_with fail
        go_end0
        exact .inl ⟨rfl, a2, HW2.out, BuGo.pre0 (HM3.out) HG2.out⟩
      · have HOV := Lib.hid hov; have HM2 := Lib.hid hM2; clear hov hM2
        go_wp2_with fail
        exact ⟨rfl, .inr ⟨HOV.out, rfl, HM2.out⟩⟩
  by_cases h4 : k = 4
  · subst h4
    have HP := Lib.hid (put_one ⟨#[99, 111, 117, 110, 116, 40, 41]⟩ w0 (w.alloc (.cells #[.int .i64 4, .string s] 42)) p a l (H.out.mod0 ((Mod.refl _ w).alloc _)) (by decide) (w.heap.size + 1) (by simp) (l ++ tmT ⟨4, s⟩) rfl)
    go_enter Tryd.func68, Tryd.ntmps68
    go_wp2_with fail
    refine (HP.out).mono ?_
    rintro e w2 (⟨rfl, a2, hW2, hG2⟩ | ⟨hov, rfl, hM2⟩)
    · have HW2 := Lib.hid hW2; have HG2 := Lib.hid hG2; clear hW2 hG2
      go_wp2_with fail
      go_end0
      exact .inl ⟨rfl, a2, HW2.out, BuGo.pre0 ((Mod.refl _ w).alloc _) HG2.out⟩
    · have HOV := Lib.hid hov; have HM2 := Lib.hid hM2; clear hov hM2
      go_wp2_with fail
      exact ⟨rfl, .inr ⟨HOV.out, rfl, HM2.out⟩⟩
  by_cases h5 : k = 5
  · skip
    obtain rfl : k = 5 := by omega
    have hpos := ok.ne (by right; show (5 : Int) ≤ 5; decide)
    simp only at hpos
    have HP := Lib.hid (put_new [⟨#[115, 117, 109, 40]⟩, s, ⟨#[41]⟩] w0 (w.alloc (.cells #[.int .i64 5, .string s] 42)) p a l (H.out.mod0 ((Mod.refl _ w).alloc _)) (fun x hx => by
      simp only [List.mem_cons, List.not_mem_nil, or_false] at hx
      rcases hx with rfl | rfl | rfl
      · decide
      · exact ⟨hpos, by omega⟩
      · decide) (by simp) (w.heap.size + 1) (by simp) (l ++ tmT ⟨5, s⟩) (by
      rw [show tmT ⟨5, s⟩ = [115, 117, 109, 40] ++ s.data.toList ++ [41] from rfl]
      simp [flatS]))
    clear hpos
    go_enter Tryd.func68, Tryd.ntmps68
    go_wp2_with fail
    refine (HP.out).mono ?_
    rintro e w2 (⟨rfl, a2, hW2, hG2⟩ | ⟨hov, rfl, hM2⟩)
    · have HW2 := Lib.hid hW2; have HG2 := Lib.hid hG2; clear hW2 hG2
      go_wp2_with fail
      go_end0
      exact .inl ⟨rfl, a2, HW2.out, BuGo.pre0 ((Mod.refl _ w).alloc _) HG2.out⟩
    · have HOV := Lib.hid hov; have HM2 := Lib.hid hM2; clear hov hM2
      go_wp2_with fail
      exact ⟨rfl, .inr ⟨HOV.out, rfl, HM2.out⟩⟩
  by_cases h6 : k = 6
  · skip
    obtain rfl : k = 6 := by omega
    have hpos := ok.ne (by right; show (5 : Int) ≤ 6; decide)
    simp only at hpos
    have HP := Lib.hid (put_new [⟨#[109, 105, 110, 40]⟩, s, ⟨#[41]⟩] w0 (w.alloc (.cells #[.int .i64 6, .string s] 42)) p a l (H.out.mod0 ((Mod.refl _ w).alloc _)) (fun x hx => by
      simp only [List.mem_cons, List.not_mem_nil, or_false] at hx
      rcases hx with rfl | rfl | rfl
      · decide
      · exact ⟨hpos, by omega⟩
      · decide) (by simp) (w.heap.size + 1) (by simp) (l ++ tmT ⟨6, s⟩) (by
      rw [show tmT ⟨6, s⟩ = [109, 105, 110, 40] ++ s.data.toList ++ [41] from rfl]
      simp [flatS]))
    clear hpos
    go_enter Tryd.func68, Tryd.ntmps68
    go_wp2_with fail
    refine (HP.out).mono ?_
    rintro e w2 (⟨rfl, a2, hW2, hG2⟩ | ⟨hov, rfl, hM2⟩)
    · have HW2 := Lib.hid hW2; have HG2 := Lib.hid hG2; clear hW2 hG2
      go_wp2_with fail
      go_end0
      exact .inl ⟨rfl, a2, HW2.out, BuGo.pre0 ((Mod.refl _ w).alloc _) HG2.out⟩
    · have HOV := Lib.hid hov; have HM2 := Lib.hid hM2; clear hov hM2
      go_wp2_with fail
      exact ⟨rfl, .inr ⟨HOV.out, rfl, HM2.out⟩⟩
  · skip
    obtain rfl : k = 7 := by omega
    have hpos := ok.ne (by right; show (5 : Int) ≤ 7; decide)
    simp only at hpos
    have HP := Lib.hid (put_new [⟨#[109, 97, 120, 40]⟩, s, ⟨#[41]⟩] w0 (w.alloc (.cells #[.int .i64 7, .string s] 42)) p a l (H.out.mod0 ((Mod.refl _ w).alloc _)) (fun x hx => by
      simp only [List.mem_cons, List.not_mem_nil, or_false] at hx
      rcases hx with rfl | rfl | rfl
      · decide
      · exact ⟨hpos, by omega⟩
      · decide) (by simp) (w.heap.size + 1) (by simp) (l ++ tmT ⟨7, s⟩) (by
      rw [show tmT ⟨7, s⟩ = [109, 97, 120, 40] ++ s.data.toList ++ [41] from rfl]
      simp [flatS]))
    clear hpos
    go_enter Tryd.func68, Tryd.ntmps68
    go_wp2_with fail
    refine (HP.out).mono ?_
    rintro e w2 (⟨rfl, a2, hW2, hG2⟩ | ⟨hov, rfl, hM2⟩)
    · have HW2 := Lib.hid hW2; have HG2 := Lib.hid hG2; clear hW2 hG2
      go_wp2_with fail
      go_end0
      exact .inl ⟨rfl, a2, HW2.out, BuGo.pre0 ((Mod.refl _ w).alloc _) HG2.out⟩
    · have HOV := Lib.hid hov; have HM2 := Lib.hid hM2; clear hov hM2
      go_wp2_with fail
      exact ⟨rfl, .inr ⟨HOV.out, rfl, HM2.out⟩⟩
end Go.Proofs.YtphgglnkdfndiaaDoor
/-
  print's writer: atom.
-/
namespace Go.Proofs.YtphgglnkdfndiaaDoor
open Go Go.RowKit Go.Mine
set_option linter.unusedVariables false
set_option maxHeartbeats 4000000
set_option maxRecDepth 100000

/-- what is written so far: the base, and so many pieces -/
def spre (base f s : List UInt8) (xs : List (List UInt8)) (k : Nat) : List UInt8 := base ++ sepT f s (xs.take k)
theorem spre_zero (base f s : List UInt8) (xs : List (List UInt8)) : spre base f s xs 0 = base := by simp [spre, sepT]
theorem spre_succ (base f s : List UInt8) {xs : List (List UInt8)} {k : Nat} (hk : k < xs.length) : spre base f s xs (k + 1) = spre base f s xs k ++ (if k = 0 then f else s) ++ xs[k] := by
  unfold spre
  rw [List.take_succ_eq_append_getElem hk, sepT_snoc, List.append_assoc, List.append_assoc]
  congr 2
  have : (xs.take k = []) ↔ k = 0 := by
    rw [List.take_eq_nil_iff]
    constructor
    · rintro (h | h)
      · exact h
      · subst h; simp at hk
    · exact .inl
  simp only [this]
theorem spre_le (base f s : List UInt8) (xs : List (List UInt8)) (k : Nat) : (spre base f s xs k).length ≤ (base ++ sepT f s xs).length := by
  unfold spre
  have : ∀ xs ys : List (List UInt8), (sepT f s xs).length ≤ (sepT f s (xs ++ ys)).length := by
    intro xs ys
    cases xs with
    | nil => simp [sepT]
    | cons x xs => simp [sepT]
  have h := this (xs.take k) (xs.drop k)
  rw [List.take_append_drop] at h
  rw [List.length_append, List.length_append]
  omega
theorem spre_all (base f s : List UInt8) (xs : List (List UInt8)) : spre base f s xs xs.length = base ++ sepT f s xs := by unfold spre; rw [List.take_length]
def apre (a : Am) (k : Nat) : List UInt8 := spre a.pred.data.toList [40] [44, 32] (a.terms.map tmT) k
theorem apre_succ (a : Am) {k : Nat} (hk : k < a.terms.length) : apre a (k + 1) = apre a k ++ (if k = 0 then [40] else [44, 32]) ++ tmT a.terms[k] := by
  unfold apre
  rw [spre_succ _ _ _ (by simpa using hk)]
  simp
theorem apre_le (a : Am) (k : Nat) : (apre a k).length ≤ (amT a).length := by
  have := spre_le a.pred.data.toList [40] [44, 32] (a.terms.map tmT) k
  unfold apre amT
  rw [List.length_append]
  omega
theorem apre_all (a : Am) : amT a = apre a a.terms.length ++ (if a.terms.length = 0 then [] else [41]) := by
  have := spre_all a.pred.data.toList [40] [44, 32] (a.terms.map tmT)
  rw [List.length_map] at this
  unfold apre amT
  rw [this]

theorem watom_any (a : Am) (ok : OkAm a) (s : Value) (w0 w : World) (p : Nat) (b : Option Addr) (l : List UInt8) (ht : TsAt w0 s a.terms) (h : Wr w0 w p b l) :
    Calls Tryd.prog 53 #[.pointer (some ⟨p, 0, none⟩), .agg #[.string a.pred, s]] w (WrPost w0 w p b (l ++ amT a)) := by
  have hpl := ok.plen
  have hpp := ok.ppos
  have hfew := ok.few
  have HALL := Lib.hid ok.all
  have H := Lib.hid h; clear h
  obtain ⟨ad, c, rfl, hr⟩ := ht
  have HR := Lib.hid hr; clear hr
  have HLE := Lib.hid (apre_le a)
  have HSU := Lib.hid (fun k (hk : k < a.terms.length) => apre_succ a hk)
  have hz : apre a 0 = a.pred.data.toList := spre_zero _ _ _ _
  have HAL := Lib.hid (apre_all a)
  generalize amT a = out at *
  generalize apre a = pre at *
  obtain ⟨pr, ts⟩ := a
  simp only at *
  have HZ := Lib.hid hz; clear hz
  have hc1 : (w.alloc (.cells #[.string pr, .slice ad ts.length c] 35)).cell? ⟨w.heap.size, 1, none⟩ = some (.slice ad ts.length c) := cell_new rfl
  have hm0 : Mod (fun _ => False) w (w.alloc (.cells #[.string pr, .slice ad ts.length c] 35)) := (Mod.refl _ w).alloc _
  have HP := Lib.hid (put_one pr w0 _ p b l (H.out.mod0 hm0) ⟨hpp, by omega⟩ (w.heap.size + 1) (by simp) (l ++ pre 0) (by rw [HZ.out]))
  have HM0 := Lib.hid hm0
  clear hm0
  go_enter Tryd.func53, Tryd.ntmps53
  go_wp2_with fail
  refine (HP.out).mono ?_
  rintro e w1 (⟨rfl, a1, hW1, hG1⟩ | ⟨hov, rfl, hM2⟩)
  · have c1 := H.out.keep hG1 hc1 (Nat.le_refl _)
    have HW1 := Lib.hid hW1; have HG1 := Lib.hid hG1; have HC1 := Lib.hid hc1; clear hW1 hG1 hc1 HP
    obtain ⟨W, hW⟩ : ∃ W, W = w.alloc (.cells #[.string pr, .slice ad ts.length c] 35) := ⟨_, rfl⟩
    rw [← hW] at HG1 HM0 HC1
    clear hW
    go_wp2_with fail
    go_loopw [14] (fun iv wr => ∃ (k : Nat) (a' : Option Addr), iv = .int .i64 k ∧ k ≤ ts.length ∧ Hid (Wr w0 wr p a' (l ++ pre k)) ∧ Hid (BuGo W p b wr a')) (fun iv _ => ts.length - (intOf iv).toNat)
    case atStart => exact ⟨0, a1, rfl, Nat.zero_le _, HW1, HG1⟩
    case round =>
      obtain ⟨k, a', rfl, hk, hW, hG⟩ := hrel
      clear HW1 HG1 c1
      by_cases hlt : k < ts.length
      · obtain ⟨bb, o, rfl, x0, x1⟩ := rd_cell2 (HR.out.mod hW.out.mod (fun _ _ => id)) hlt
        have HOK := Lib.hid (HALL.out _ (List.getElem_mem hlt))
        have hst := HSU.out k hlt
        have HLE2 : Hid ((l ++ pre (k + 1)).length ≤ (l ++ out).length) := by
          have := HLE.out (k + 1)
          unfold Hid
          rw [List.length_append, List.length_append]
          omega
        generalize ts[k] = t at *
        obtain ⟨tk, tx⟩ := t
        simp only at *
        have hd0 : (wr.alloc (.cells #[.int .i64 tk, .string tx] 42)).cell? ⟨wr.heap.size, 0, none⟩ = some (.int .i64 tk) := cell_new rfl
        have hd1 : (wr.alloc (.cells #[.int .i64 tk, .string tx] 42)).cell? ⟨wr.heap.size, 1, none⟩ = some (.string tx) := cell_new rfl
        by_cases hk0 : k = 0
        · subst hk0
          have HST : Hid (l ++ pre (0 + 1) = l ++ pre 0 ++ [40] ++ tmT ⟨tk, tx⟩) := by
            unfold Hid
            rw [hst, if_pos rfl]
            simp only [List.append_assoc]
          have HP := Lib.hid (put_one ⟨#[40]⟩ w0 _ p a' _ (hW.out.mod0 ((Mod.refl (fun _ => False) wr).alloc (.cells #[.int .i64 tk, .string tx] 42))) (by decide) (wr.heap.size + 1) (by simp) _ rfl)
          clear hst
          rw [show ((0 : Nat) : Int) = 0 from rfl]
          simp only [Nat.zero_mul, Nat.add_zero] at x0 x1
          go_wp2_with fail
          refine (HP.out).mono ?_
          rintro e v1 (⟨rfl, a1, hW1, hG1⟩ | ⟨hov, rfl, hM2⟩)
          · have t0 := hW.out.keep hG1 hd0 (Nat.le_refl _)
            have t1 := hW.out.keep hG1 hd1 (Nat.le_refl _)
            have HW1 := Lib.hid hW1; have HG1 := Lib.hid hG1; clear hW1 hG1
            have HTM := Lib.hid (term_any ⟨tk, tx⟩ HOK.out w0 v1 p a1 _ HW1.out)
            unfold tmV at HTM
            go_wp2_with fail
            refine (HTM.out).mono ?_
            rintro e v2 (⟨rfl, a2, hW2, hG2⟩ | ⟨hov, rfl, hM2⟩)
            · have HW2 := Lib.hid hW2; have HG2 := Lib.hid hG2; clear hW2 hG2
              go_wp2_with fail
              go_roundw
              case rel => exact ⟨0 + 1, a2, rfl, hlt, by rw [HST.out]; exact HW2.out, Lib.hid (hG.out.trans (BuGo.pre0 ((Mod.refl _ wr).alloc _) (HG1.out.trans HG2.out)))⟩
              case measure => simp [intOf]; omega
            · skip
              have HOV := Lib.hid hov; have HM2 := Lib.hid hM2; clear hov hM2
              go_wp2_with fail
              exact ⟨rfl, .inr ⟨by have h1 := HOV.out; have h2 := HLE2.out; rw [HST.out] at h2; omega, rfl, HM2.out⟩⟩
          · skip
            have HOV := Lib.hid hov; have HM2 := Lib.hid hM2; clear hov hM2
            go_wp2_with fail
            exact ⟨rfl, .inr ⟨by have h1 := HOV.out; have h2 := HLE2.out; rw [HST.out, List.length_append] at h2; omega, rfl, HM2.out⟩⟩
        · have HST : Hid (l ++ pre (k + 1) = l ++ pre k ++ [44, 32] ++ tmT ⟨tk, tx⟩) := by
            unfold Hid
            rw [hst, if_neg hk0]
            simp only [List.append_assoc]
          have HP := Lib.hid (put_one ⟨#[44, 32]⟩ w0 _ p a' _ (hW.out.mod0 ((Mod.refl (fun _ => False) wr).alloc (.cells #[.int .i64 tk, .string tx] 42))) (by decide) (wr.heap.size + 1) (by simp) _ rfl)
          have hkb : ((k : Int) == 0) = false := by simp; omega
          clear hst hk0
          go_wp2_with fail
          refine (HP.out).mono ?_
          rintro e v1 (⟨rfl, a1, hW1, hG1⟩ | ⟨hov, rfl, hM2⟩)
          · have t0 := hW.out.keep hG1 hd0 (Nat.le_refl _)
            have t1 := hW.out.keep hG1 hd1 (Nat.le_refl _)
            have HW1 := Lib.hid hW1; have HG1 := Lib.hid hG1; clear hW1 hG1
            have HTM := Lib.hid (term_any ⟨tk, tx⟩ HOK.out w0 v1 p a1 _ HW1.out)
            unfold tmV at HTM
            go_wp2_with fail
            refine (HTM.out).mono ?_
            rintro e v2 (⟨rfl, a2, hW2, hG2⟩ | ⟨hov, rfl, hM2⟩)
            · have HW2 := Lib.hid hW2; have HG2 := Lib.hid hG2; clear hW2 hG2
              go_wp2_with fail
              go_roundw
              case rel => exact ⟨k + 1, a2, by go_num, hlt, by rw [HST.out]; exact HW2.out, Lib.hid (hG.out.trans (BuGo.pre0 ((Mod.refl _ wr).alloc _) (HG1.out.trans HG2.out)))⟩
              case measure => simp [intOf]; omega
            · skip
              have HOV := Lib.hid hov; have HM2 := Lib.hid hM2; clear hov hM2
              go_wp2_with fail
              exact ⟨rfl, .inr ⟨by have h1 := HOV.out; have h2 := HLE2.out; rw [HST.out] at h2; omega, rfl, HM2.out⟩⟩
          · skip
            have HOV := Lib.hid hov; have HM2 := Lib.hid hM2; clear hov hM2
            go_wp2_with fail
            exact ⟨rfl, .inr ⟨by have h1 := HOV.out; have h2 := HLE2.out; rw [HST.out, List.length_append] at h2; omega, rfl, HM2.out⟩⟩
      · obtain rfl : k = ts.length := by omega
        have c1 := H.out.keep hG.out HC1.out (Nat.le_refl _)
        by_cases hn : ts.length = 0
        · have HA2 : Hid (out = pre ts.length) := by
            have := HAL.out
            rw [if_pos hn, List.append_nil] at this
            exact this
          have HN := Lib.hid hn
          rw [hn] at c1 ⊢
          clear hn
          rw [show ((0 : Nat) : Int) = 0 from rfl] at *
          go_wp2_with fail
          go_end0
          exact .inl ⟨rfl, a', by rw [HA2.out]; exact hW.out, BuGo.pre0 HM0.out hG.out⟩
        · have HA2 : Hid (l ++ pre ts.length ++ [41] = l ++ out) := by
            have := HAL.out
            rw [if_neg hn] at this
            unfold Hid
            rw [this, List.append_assoc]
          have hn0 : 0 < ts.length := by omega
          clear hn
          have HP := Lib.hid (put_one ⟨#[41]⟩ w0 _ p a' _ hW.out (by decide) wr.heap.size rfl _ rfl)
          go_wp2_with fail
          refine (HP.out).mono ?_
          rintro e w2 (⟨rfl, a2, hW2, hG2⟩ | ⟨hov, rfl, hM2⟩)
          · have HW2 := Lib.hid hW2; have HG2 := Lib.hid hG2; clear hW2 hG2
            go_wp2_with fail
            go_end0
            exact .inl ⟨rfl, a2, by rw [← HA2.out]; exact HW2.out, BuGo.pre0 HM0.out (hG.out.trans HG2.out)⟩
          · have HOV := Lib.hid hov; have HM2 := Lib.hid hM2; clear hov hM2
            go_wp2_with fail
            exact ⟨rfl, .inr ⟨by rw [← HA2.out]; exact HOV.out, rfl, HM2.out⟩⟩
  · skip
    have HOV := Lib.hid hov; have HM2 := Lib.hid hM2; clear hov hM2
    go_wp2_with fail
    exact ⟨rfl, .inr ⟨by have h1 := HOV.out; have h2 := HLE.out 0; rw [List.length_append] at h1 ⊢; omega, rfl, HM2.out⟩⟩
end Go.Proofs.YtphgglnkdfndiaaDoor
/-
  print's writer: literal, rule.
-/
namespace Go.Proofs.YtphgglnkdfndiaaDoor
open Go Go.RowKit Go.Mine
set_option linter.unusedVariables false
set_option maxHeartbeats 4000000
set_option maxRecDepth 100000

theorem len2 (x y : List UInt8) : (x ++ y).length = x.length + y.length := List.length_append
theorem cells_at {w : World} {cs : Array Value} {e : TypeId} (j : Nat) (v : Value) (h : cs[j]? = some v) : (w.alloc (.cells cs e)).cell? ⟨w.heap.size, j, none⟩ = some v := cell_new h
theorem wliteral_any (li : Lm) (ok : OkLm li) (s : Value) (w0 w : World) (p : Nat) (b : Option Addr) (l : List UInt8) (ht : TsAt w0 s li.atom.terms) (h : Wr w0 w p b l) :
    Calls Tryd.prog 55 #[.pointer (some ⟨p, 0, none⟩), lmV li s] w (WrPost w0 w p b (l ++ lmT li)) := by
  obtain ⟨k, ⟨pr, ts⟩, op, ⟨lk, lt⟩, ⟨rk, rt⟩⟩ := li
  unfold lmV
  simp only at ht ⊢
  have HTS := Lib.hid ht
  obtain ⟨ad, c, rfl, hr⟩ := ht
  clear hr
  have H := Lib.hid h; clear h
  have hm0 : Mod (fun _ => False) w (w.alloc (.cells #[.int .i64 k, .string pr, .slice ad ts.length c, .int .i64 op, .int .i64 lk, .string lt, .int .i64 rk, .string rt] 44)) := (Mod.refl _ w).alloc _
  have HM0 := Lib.hid hm0; clear hm0
  have hc := fun j v => cells_at (w := w) (cs := #[.int .i64 k, .string pr, .slice ad ts.length c, .int .i64 op, .int .i64 lk, .string lt, .int .i64 rk, .string rt]) (e := 44) j v
  rcases ok with ⟨hk, ha⟩ | ⟨hk, ha⟩ | ⟨hk, h1, h4, okl, okr⟩
  · simp only at hk ha
    subst hk
    have e : lmT ⟨1, ⟨pr, ts⟩, op, ⟨lk, lt⟩, ⟨rk, rt⟩⟩ = amT ⟨pr, ts⟩ := by unfold lmT; rw [if_neg (by simp), if_neg (by simp)]
    rw [e]
    have HA := Lib.hid (watom_any ⟨pr, ts⟩ ha _ w0 _ p b l HTS.out (H.out.mod0 HM0.out))
    clear e hc
    go_enter Tryd.func55, Tryd.ntmps55
    go_wp2_with fail
    refine (HA.out).mono ?_
    rintro e w2 (⟨rfl, a2, hW2, hG2⟩ | ⟨hov, rfl, hM2⟩)
    · have HW2 := Lib.hid hW2; have HG2 := Lib.hid hG2; clear hW2 hG2
      go_wp2_with fail
      go_end0
      exact .inl ⟨rfl, a2, HW2.out, BuGo.pre0 HM0.out HG2.out⟩
    · have HOV := Lib.hid hov; have HM2 := Lib.hid hM2; clear hov hM2
      go_wp2_with fail
      exact ⟨rfl, .inr ⟨HOV.out, rfl, HM2.out⟩⟩
  · simp only at hk ha
    subst hk
    have e : lmT ⟨2, ⟨pr, ts⟩, op, ⟨lk, lt⟩, ⟨rk, rt⟩⟩ = 33 :: amT ⟨pr, ts⟩ := by unfold lmT; rw [if_pos rfl]
    have HST : Hid (l ++ lmT ⟨2, ⟨pr, ts⟩, op, ⟨lk, lt⟩, ⟨rk, rt⟩⟩ = l ++ [33] ++ amT ⟨pr, ts⟩) := by unfold Hid; rw [e]; simp
    have HP := Lib.hid (put_one ⟨#[33]⟩ w0 _ p b l (H.out.mod0 HM0.out) (by decide) (w.heap.size + 1) (by simp) _ rfl)
    have d1 := hc 1 _ rfl
    have d2 := hc 2 _ rfl
    clear e hc
    go_enter Tryd.func55, Tryd.ntmps55
    go_wp2_with fail
    refine (HP.out).mono ?_
    rintro e v1 (⟨rfl, a1, hW1, hG1⟩ | ⟨hov, rfl, hM2⟩)
    · have t1 := H.out.keep hG1 d1 (Nat.le_refl _)
      have t2 := H.out.keep hG1 d2 (Nat.le_refl _)
      have HA := Lib.hid (watom_any ⟨pr, ts⟩ ha _ w0 v1 p a1 _ HTS.out hW1)
      have HG1 := Lib.hid hG1; clear hW1 hG1 d1 d2
      go_wp2_with fail
      refine (HA.out).mono ?_
      rintro e w2 (⟨rfl, a2, hW2, hG2⟩ | ⟨hov, rfl, hM2⟩)
      · have HW2 := Lib.hid hW2; have HG2 := Lib.hid hG2; clear hW2 hG2
        go_wp2_with fail
        go_end0
        exact .inl ⟨rfl, a2, by rw [HST.out]; exact HW2.out, BuGo.pre0 HM0.out (HG1.out.trans HG2.out)⟩
      · have HOV := Lib.hid hov; have HM2 := Lib.hid hM2; clear hov hM2
        go_wp2_with fail
        exact ⟨rfl, .inr ⟨by rw [HST.out]; exact HOV.out, rfl, HM2.out⟩⟩
    · skip
      have HOV := Lib.hid hov; have HM2 := Lib.hid hM2; clear hov hM2
      go_wp2_with fail
      exact ⟨rfl, .inr ⟨by have h1 := HOV.out; rw [HST.out, List.length_append]; omega, rfl, HM2.out⟩⟩
  · simp only at hk h1 h4 okl okr
    subst hk
    have HTL := Lib.hid (term_any ⟨lk, lt⟩ okl w0 _ p b l (H.out.mod0 HM0.out))
    unfold tmV at HTL
    by_cases ho1 : op = 1
    · skip
      obtain rfl : op = 1 := by omega
      have io : ∀ w, (Instr.index 126 (.agg #[.string ⟨#[]⟩, .string ⟨#[32, 61, 32]⟩, .string ⟨#[32, 33, 61, 32]⟩, .string ⟨#[32, 60, 32]⟩, .string ⟨#[32, 60, 61, 32]⟩]) (.int .i64 1)).run Tryd.prog w = .ok (.string ⟨#[32, 61, 32]⟩) w := fun _ => by kernel_rfl
      have HST : Hid (l ++ lmT ⟨3, ⟨pr, ts⟩, 1, ⟨lk, lt⟩, ⟨rk, rt⟩⟩ = l ++ tmT ⟨lk, lt⟩ ++ [32, 61, 32] ++ tmT ⟨rk, rt⟩) := by
        have e1 : opT 1 = [32, 61, 32] := rfl
        have e : lmT ⟨3, ⟨pr, ts⟩, 1, ⟨lk, lt⟩, ⟨rk, rt⟩⟩ = tmT ⟨lk, lt⟩ ++ opT 1 ++ tmT ⟨rk, rt⟩ := by
          unfold lmT; rw [if_neg (by simp), if_pos rfl]
        unfold Hid
        rw [e, e1]
        simp only [List.append_assoc]
      go_enter Tryd.func55, Tryd.ntmps55
      go_wp2_with fail
      refine (HTL.out).mono ?_
      rintro e v1 (⟨rfl, a1, hW1, hG1⟩ | ⟨hov, rfl, hM2⟩)
      · have t3 := H.out.keep hG1 (hc 3 _ rfl) (Nat.le_refl _)
        have t6 := H.out.keep hG1 (hc 6 _ rfl) (Nat.le_refl _)
        have t7 := H.out.keep hG1 (hc 7 _ rfl) (Nat.le_refl _)
        have HP := Lib.hid (put_one ⟨#[32, 61, 32]⟩ w0 v1 p a1 _ hW1 (by decide) v1.heap.size rfl _ rfl)
        have HW1 := Lib.hid hW1; have HG1 := Lib.hid hG1; clear hW1 hG1
        go_wp2_with fail
        refine (HP.out).mono ?_
        rintro e v2 (⟨rfl, a2, hW2, hG2⟩ | ⟨hov, rfl, hM2⟩)
        · have hg2 := HG1.out.trans hG2
          have s6 := H.out.keep hg2 (hc 6 _ rfl) (Nat.le_refl _)
          have s7 := H.out.keep hg2 (hc 7 _ rfl) (Nat.le_refl _)
          have HTR := Lib.hid (term_any ⟨rk, rt⟩ okr w0 v2 p a2 _ hW2)
          unfold tmV at HTR
          have HG2 := Lib.hid hg2; clear hW2 hG2 hg2 t6 t7
          go_wp2_with fail
          refine (HTR.out).mono ?_
          rintro e v3 (⟨rfl, a3, hW3, hG3⟩ | ⟨hov, rfl, hM2⟩)
          · have HW3 := Lib.hid hW3; have HG3 := Lib.hid hG3; clear hW3 hG3
            go_wp2_with fail
            go_end0
            exact .inl ⟨rfl, a3, by rw [HST.out]; exact HW3.out, BuGo.pre0 HM0.out (HG2.out.trans HG3.out)⟩
          · skip
            have HOV := Lib.hid hov; have HM2 := Lib.hid hM2; clear hov hM2
            go_wp2_with fail
            exact ⟨rfl, .inr ⟨by rw [HST.out]; exact HOV.out, rfl, HM2.out⟩⟩
        · skip
          have HOV := Lib.hid hov; have HM2 := Lib.hid hM2; clear hov hM2
          go_wp2_with fail
          exact ⟨rfl, .inr ⟨by have h1 := HOV.out; rw [HST.out, List.length_append]; omega, rfl, HM2.out⟩⟩
      · skip
        have HOV := Lib.hid hov; have HM2 := Lib.hid hM2; clear hov hM2
        go_wp2_with fail
        exact ⟨rfl, .inr ⟨by have h1 := HOV.out; rw [HST.out, List.length_append, len2 (l ++ tmT ⟨lk, lt⟩)]; omega, rfl, HM2.out⟩⟩
    by_cases ho2 : op = 2
    · skip
      obtain rfl : op = 2 := by omega
      have io : ∀ w, (Instr.index 126 (.agg #[.string ⟨#[]⟩, .string ⟨#[32, 61, 32]⟩, .string ⟨#[32, 33, 61, 32]⟩, .string ⟨#[32, 60, 32]⟩, .string ⟨#[32, 60, 61, 32]⟩]) (.int .i64 2)).run Tryd.prog w = .ok (.string ⟨#[32, 33, 61, 32]⟩) w := fun _ => by kernel_rfl
      have HST : Hid (l ++ lmT ⟨3, ⟨pr, ts⟩, 2, ⟨lk, lt⟩, ⟨rk, rt⟩⟩ = l ++ tmT ⟨lk, lt⟩ ++ [32, 33, 61, 32] ++ tmT ⟨rk, rt⟩) := by
        have e1 : opT 2 = [32, 33, 61, 32] := rfl
        have e : lmT ⟨3, ⟨pr, ts⟩, 2, ⟨lk, lt⟩, ⟨rk, rt⟩⟩ = tmT ⟨lk, lt⟩ ++ opT 2 ++ tmT ⟨rk, rt⟩ := by
          unfold lmT; rw [if_neg (by simp), if_pos rfl]
        unfold Hid
        rw [e, e1]
        simp only [List.append_assoc]
      go_enter Tryd.func55, Tryd.ntmps55
      go_wp2_with fail
      refine (HTL.out).mono ?_
      rintro e v1 (⟨rfl, a1, hW1, hG1⟩ | ⟨hov, rfl, hM2⟩)
      · have t3 := H.out.keep hG1 (hc 3 _ rfl) (Nat.le_refl _)
        have t6 := H.out.keep hG1 (hc 6 _ rfl) (Nat.le_refl _)
        have t7 := H.out.keep hG1 (hc 7 _ rfl) (Nat.le_refl _)
        have HP := Lib.hid (put_one ⟨#[32, 33, 61, 32]⟩ w0 v1 p a1 _ hW1 (by decide) v1.heap.size rfl _ rfl)
        have HW1 := Lib.hid hW1; have HG1 := Lib.hid hG1; clear hW1 hG1
        go_wp2_with fail
        refine (HP.out).mono ?_
        rintro e v2 (⟨rfl, a2, hW2, hG2⟩ | ⟨hov, rfl, hM2⟩)
        · have hg2 := HG1.out.trans hG2
          have s6 := H.out.keep hg2 (hc 6 _ rfl) (Nat.le_refl _)
          have s7 := H.out.keep hg2 (hc 7 _ rfl) (Nat.le_refl _)
          have HTR := Lib.hid (term_any ⟨rk, rt⟩ okr w0 v2 p a2 _ hW2)
          unfold tmV at HTR
          have HG2 := Lib.hid hg2; clear hW2 hG2 hg2 t6 t7
          go_wp2_with fail
          refine (HTR.out).mono ?_
          rintro e v3 (⟨rfl, a3, hW3, hG3⟩ | ⟨hov, rfl, hM2⟩)
          · have HW3 := Lib.hid hW3; have HG3 := Lib.hid hG3; clear hW3 hG3
            go_wp2_with fail
            go_end0
            exact .inl ⟨rfl, a3, by rw [HST.out]; exact HW3.out, BuGo.pre0 HM0.out (HG2.out.trans HG3.out)⟩
          · skip
            have HOV := Lib.hid hov; have HM2 := Lib.hid hM2; clear hov hM2
            go_wp2_with fail
            exact ⟨rfl, .inr ⟨by rw [HST.out]; exact HOV.out, rfl, HM2.out⟩⟩
        · skip
          have HOV := Lib.hid hov; have HM2 := Lib.hid hM2; clear hov hM2
          go_wp2_with fail
          exact ⟨rfl, .inr ⟨by have h1 := HOV.out; rw [HST.out, List.length_append]; omega, rfl, HM2.out⟩⟩
      · skip
        have HOV := Lib.hid hov; have HM2 := Lib.hid hM2; clear hov hM2
        go_wp2_with fail
        exact ⟨rfl, .inr ⟨by have h1 := HOV.out; rw [HST.out, List.length_append, len2 (l ++ tmT ⟨lk, lt⟩)]; omega, rfl, HM2.out⟩⟩
    by_cases ho3 : op = 3
    · skip
      obtain rfl : op = 3 := by omega
      have io : ∀ w, (Instr.index 126 (.agg #[.string ⟨#[]⟩, .string ⟨#[32, 61, 32]⟩, .string ⟨#[32, 33, 61, 32]⟩, .string ⟨#[32, 60, 32]⟩, .string ⟨#[32, 60, 61, 32]⟩]) (.int .i64 3)).run Tryd.prog w = .ok (.string ⟨#[32, 60, 32]⟩) w := fun _ => by kernel_rfl
      have HST : Hid (l ++ lmT ⟨3, ⟨pr, ts⟩, 3, ⟨lk, lt⟩, ⟨rk, rt⟩⟩ = l ++ tmT ⟨lk, lt⟩ ++ [32, 60, 32] ++ tmT ⟨rk, rt⟩) := by
        have e1 : opT 3 = [32, 60, 32] := rfl
        have e : lmT ⟨3, ⟨pr, ts⟩, 3, ⟨lk, lt⟩, ⟨rk, rt⟩⟩ = tmT ⟨lk, lt⟩ ++ opT 3 ++ tmT ⟨rk, rt⟩ := by
          unfold lmT; rw [if_neg (by simp), if_pos rfl]
        unfold Hid
        rw [e, e1]
        simp only [List.append_assoc]
      go_enter Tryd.func55, Tryd.ntmps55
      go_wp2_with fail
      refine (HTL.out).mono ?_
      rintro e v1 (⟨rfl, a1, hW1, hG1⟩ | ⟨hov, rfl, hM2⟩)
      · have t3 := H.out.keep hG1 (hc 3 _ rfl) (Nat.le_refl _)
        have t6 := H.out.keep hG1 (hc 6 _ rfl) (Nat.le_refl _)
        have t7 := H.out.keep hG1 (hc 7 _ rfl) (Nat.le_refl _)
        have HP := Lib.hid (put_one ⟨#[32, 60, 32]⟩ w0 v1 p a1 _ hW1 (by decide) v1.heap.size rfl _ rfl)
        have HW1 := Lib.hid hW1; have HG1 := Lib.hid hG1; clear hW1 hG1
        go_wp2_with fail
        refine (HP.out).mono ?_
        rintro e v2 (⟨rfl, a2, hW2, hG2⟩ | ⟨hov, rfl, hM2⟩)
        · have hg2 := HG1.out.trans hG2
          have s6 := H.out.keep hg2 (hc 6 _ rfl) (Nat.le_refl _)
          have s7 := H.out.keep hg2 (hc 7 _ rfl) (Nat.le_refl _)
          have HTR := Lib.hid (term_any ⟨rk, rt⟩ okr w0 v2 p a2 _ hW2)
          unfold tmV at HTR
          have HG2 := Lib.hid hg2; clear hW2 hG2 hg2 t6 t7
          go_wp2_with fail
          refine (HTR.out).mono ?_
          rintro e v3 (⟨rfl, a3, hW3, hG3⟩ | ⟨hov, rfl, hM2⟩)
          · have HW3 := Lib.hid hW3; have HG3 := Lib.hid hG3; clear hW3 hG3
            go_wp2_with fail
            go_end0
            exact .inl ⟨rfl, a3, by rw [HST.out]; exact HW3.out, BuGo.pre0 HM0.out (HG2.out.trans HG3.out)⟩
          · skip
            have HOV := Lib.hid hov; have HM2 := Lib.hid hM2; clear hov hM2
            go_wp2_with fail
            exact ⟨rfl, .inr ⟨by rw [HST.out]; exact HOV.out, rfl, HM2.out⟩⟩
        · skip
          have HOV := Lib.hid hov; have HM2 := Lib.hid hM2; clear hov hM2
          go_wp2_with fail
          exact ⟨rfl, .inr ⟨by have h1 := HOV.out; rw [HST.out, List.length_append]; omega, rfl, HM2.out⟩⟩
      · skip
        have HOV := Lib.hid hov; have HM2 := Lib.hid hM2; clear hov hM2
        go_wp2_with fail
        exact ⟨rfl, .inr ⟨by have h1 := HOV.out; rw [HST.out, List.length_append, len2 (l ++ tmT ⟨lk, lt⟩)]; omega, rfl, HM2.out⟩⟩
    · skip
      obtain rfl : op = 4 := by omega
      have io : ∀ w, (Instr.index 126 (.agg #[.string ⟨#[]⟩, .string ⟨#[32, 61, 32]⟩, .string ⟨#[32, 33, 61, 32]⟩, .string ⟨#[32, 60, 32]⟩, .string ⟨#[32, 60, 61, 32]⟩]) (.int .i64 4)).run Tryd.prog w = .ok (.string ⟨#[32, 60, 61, 32]⟩) w := fun _ => by kernel_rfl
      have HST : Hid (l ++ lmT ⟨3, ⟨pr, ts⟩, 4, ⟨lk, lt⟩, ⟨rk, rt⟩⟩ = l ++ tmT ⟨lk, lt⟩ ++ [32, 60, 61, 32] ++ tmT ⟨rk, rt⟩) := by
        have e1 : opT 4 = [32, 60, 61, 32] := rfl
        have e : lmT ⟨3, ⟨pr, ts⟩, 4, ⟨lk, lt⟩, ⟨rk, rt⟩⟩ = tmT ⟨lk, lt⟩ ++ opT 4 ++ tmT ⟨rk, rt⟩ := by
          unfold lmT; rw [if_neg (by simp), if_pos rfl]
        unfold Hid
        rw [e, e1]
        simp only [List.append_assoc]
      go_enter Tryd.func55, Tryd.ntmps55
      go_wp2_with fail
      refine (HTL.out).mono ?_
      rintro e v1 (⟨rfl, a1, hW1, hG1⟩ | ⟨hov, rfl, hM2⟩)
      · have t3 := H.out.keep hG1 (hc 3 _ rfl) (Nat.le_refl _)
        have t6 := H.out.keep hG1 (hc 6 _ rfl) (Nat.le_refl _)
        have t7 := H.out.keep hG1 (hc 7 _ rfl) (Nat.le_refl _)
        have HP := Lib.hid (put_one ⟨#[32, 60, 61, 32]⟩ w0 v1 p a1 _ hW1 (by decide) v1.heap.size rfl _ rfl)
        have HW1 := Lib.hid hW1; have HG1 := Lib.hid hG1; clear hW1 hG1
        go_wp2_with fail
        refine (HP.out).mono ?_
        rintro e v2 (⟨rfl, a2, hW2, hG2⟩ | ⟨hov, rfl, hM2⟩)
        · have hg2 := HG1.out.trans hG2
          have s6 := H.out.keep hg2 (hc 6 _ rfl) (Nat.le_refl _)
          have s7 := H.out.keep hg2 (hc 7 _ rfl) (Nat.le_refl _)
          have HTR := Lib.hid (term_any ⟨rk, rt⟩ okr w0 v2 p a2 _ hW2)
          unfold tmV at HTR
          have HG2 := Lib.hid hg2; clear hW2 hG2 hg2 t6 t7
          go_wp2_with fail
          refine (HTR.out).mono ?_
          rintro e v3 (⟨rfl, a3, hW3, hG3⟩ | ⟨hov, rfl, hM2⟩)
          · have HW3 := Lib.hid hW3; have HG3 := Lib.hid hG3; clear hW3 hG3
            go_wp2_with fail
            go_end0
            exact .inl ⟨rfl, a3, by rw [HST.out]; exact HW3.out, BuGo.pre0 HM0.out (HG2.out.trans HG3.out)⟩
          · skip
            have HOV := Lib.hid hov; have HM2 := Lib.hid hM2; clear hov hM2
            go_wp2_with fail
            exact ⟨rfl, .inr ⟨by rw [HST.out]; exact HOV.out, rfl, HM2.out⟩⟩
        · skip
          have HOV := Lib.hid hov; have HM2 := Lib.hid hM2; clear hov hM2
          go_wp2_with fail
          exact ⟨rfl, .inr ⟨by have h1 := HOV.out; rw [HST.out, List.length_append]; omega, rfl, HM2.out⟩⟩
      · skip
        have HOV := Lib.hid hov; have HM2 := Lib.hid hM2; clear hov hM2
        go_wp2_with fail
        exact ⟨rfl, .inr ⟨by have h1 := HOV.out; rw [HST.out, List.length_append, len2 (l ++ tmT ⟨lk, lt⟩)]; omega, rfl, HM2.out⟩⟩

def rpre (r : Rm) (k : Nat) : List UInt8 := spre (amT r.head) [32, 58, 45, 32] [44, 32] (r.body.map lmT) k
theorem rpre_succ (r : Rm) {k : Nat} (hk : k < r.body.length) : rpre r (k + 1) = rpre r k ++ (if k = 0 then [32, 58, 45, 32] else [44, 32]) ++ lmT r.body[k] := by
  unfold rpre
  rw [spre_succ _ _ _ (by simpa using hk)]
  simp
theorem rpre_le (r : Rm) (k : Nat) : (rpre r k).length ≤ (rmT r).length := by
  have := spre_le (amT r.head) [32, 58, 45, 32] [44, 32] (r.body.map lmT) k
  unfold rpre rmT
  rw [List.length_append]
  omega
theorem rpre_all (r : Rm) : rmT r = rpre r r.body.length ++ [46] := by
  have := spre_all (amT r.head) [32, 58, 45, 32] [44, 32] (r.body.map lmT)
  rw [List.length_map] at this
  unfold rpre rmT
  rw [this]
theorem wrule_any (r : Rm) (ok : OkRm r) (s bv : Value) (w0 w : World) (p : Nat) (b : Option Addr) (l : List UInt8) (ht : TsAt w0 s r.head.terms) (hb : LsAt w0 bv r.body) (h : Wr w0 w p b l) :
    Calls Tryd.prog 30 #[.pointer (some ⟨p, 0, none⟩), rmV r s bv] w (WrPost w0 w p b (l ++ rmT r)) := by
  have hfew := ok.few
  have HALL := Lib.hid ok.all
  have HOKA := Lib.hid ok.head
  have H := Lib.hid h; clear h
  have HT := Lib.hid ht
  obtain ⟨ad, c, rfl, hr⟩ := ht
  clear hr
  obtain ⟨bd, bc, xs, rfl, hx, hrx, hxt⟩ := hb
  have HR := Lib.hid hrx; have HX := Lib.hid hx; have HXT := Lib.hid hxt
  clear hrx hx hxt
  have HLE := Lib.hid (rpre_le r)
  have HSU := Lib.hid (fun k (hk : k < r.body.length) => rpre_succ r hk)
  have hz : rpre r 0 = amT r.head := spre_zero _ _ _ _
  have HAL := Lib.hid (rpre_all r)
  generalize rmT r = out at *
  generalize rpre r = pre at *
  obtain ⟨⟨pr, hts⟩, ls⟩ := r
  unfold rmV
  simp only at *
  have HZ := Lib.hid hz; clear hz
  have hc1 : (w.alloc (.cells #[.string pr, .slice ad hts.length c, .slice bd ls.length bc] 38)).cell? ⟨w.heap.size, 2, none⟩ = some (.slice bd ls.length bc) := cell_new rfl
  have hm0 : Mod (fun _ => False) w (w.alloc (.cells #[.string pr, .slice ad hts.length c, .slice bd ls.length bc] 38)) := (Mod.refl _ w).alloc _
  have HP := Lib.hid (watom_any ⟨pr, hts⟩ HOKA.out _ w0 _ p b l HT.out (H.out.mod0 hm0))
  rw [← HZ.out] at HP
  have HM0 := Lib.hid hm0
  clear hm0
  go_enter Tryd.func30, Tryd.ntmps30
  go_wp2_with fail
  refine (HP.out).mono ?_
  rintro e w1 (⟨rfl, a1, hW1, hG1⟩ | ⟨hov, rfl, hM2⟩)
  · have c1 := H.out.keep hG1 hc1 (Nat.le_refl _)
    have HW1 := Lib.hid hW1; have HG1 := Lib.hid hG1; have HC1 := Lib.hid hc1; clear hW1 hG1 hc1 HP
    obtain ⟨W, hW⟩ : ∃ W, W = w.alloc (.cells #[.string pr, .slice ad hts.length c, .slice bd ls.length bc] 38) := ⟨_, rfl⟩
    rw [← hW] at HG1 HM0 HC1
    clear hW
    go_wp2_with fail
    go_loopw [13] (fun iv wr => ∃ (k : Nat) (a' : Option Addr), iv = .int .i64 k ∧ k ≤ ls.length ∧ Hid (Wr w0 wr p a' (l ++ pre k)) ∧ Hid (BuGo W p b wr a')) (fun iv _ => ls.length - (intOf iv).toNat)
    case atStart => exact ⟨0, a1, rfl, Nat.zero_le _, HW1, HG1⟩
    case round =>
      obtain ⟨k, a', rfl, hk, hW, hG⟩ := hrel
      clear HW1 HG1 c1
      by_cases hlt : k < ls.length
      · obtain ⟨sk, hx, hmem⟩ := xs_get HX.out hlt
        obtain ⟨bb, o, rfl, x0, x1, x2, x3, x4, x5, x6, x7⟩ := rd_cell8 (HR.out.mod hW.out.mod (fun _ _ => id)) hx
        have HOK := Lib.hid (HALL.out _ (List.getElem_mem hlt))
        have HTS := Lib.hid (HXT.out _ hmem)
        obtain ⟨sa, sc, hsk, _⟩ := HXT.out _ hmem
        simp only at hsk
        subst hsk
        have hst := HSU.out k hlt
        have HLE2 : Hid ((l ++ pre (k + 1)).length ≤ (l ++ out).length) := by
          have := HLE.out (k + 1)
          unfold Hid
          rw [List.length_append, List.length_append]
          omega
        clear hx hmem
        generalize ls[k] = t at *
        obtain ⟨lk, ⟨lp, lts⟩, lo, ⟨ll1, ll2⟩, ⟨lr1, lr2⟩⟩ := t
        simp only at *
        have hd := fun j v => cells_at (w := wr) (cs := #[.int .i64 lk, .string lp, .slice sa lts.length sc, .int .i64 lo, .int .i64 ll1, .string ll2, .int .i64 lr1, .string lr2]) (e := 44) j v
        have hd0 := hd 0 _ rfl
        have hd1 := hd 1 _ rfl
        have hd2 := hd 2 _ rfl
        have hd3 := hd 3 _ rfl
        have hd4 := hd 4 _ rfl
        have hd5 := hd 5 _ rfl
        have hd6 := hd 6 _ rfl
        have hd7 := hd 7 _ rfl
        clear hd
        by_cases hk0 : k = 0
        · subst hk0
          have HST : Hid (l ++ pre (0 + 1) = l ++ pre 0 ++ [32, 58, 45, 32] ++ lmT ⟨lk, ⟨lp, lts⟩, lo, ⟨ll1, ll2⟩, ⟨lr1, lr2⟩⟩) := by
            unfold Hid
            rw [hst, if_pos rfl]
            simp only [List.append_assoc]
          have HP := Lib.hid (put_one ⟨#[32, 58, 45, 32]⟩ w0 _ p a' _ (hW.out.mod0 ((Mod.refl (fun _ => False) wr).alloc (.cells #[.int .i64 lk, .string lp, .slice sa lts.length sc, .int .i64 lo, .int .i64 ll1, .string ll2, .int .i64 lr1, .string lr2] 44))) (by decide) (wr.heap.size + 1) (by simp) _ rfl)
          clear hst
          rw [show ((0 : Nat) : Int) = 0 from rfl]
          simp only [Nat.zero_mul, Nat.add_zero] at x0 x1 x2 x3 x4 x5 x6 x7
          go_wp2_with fail
          refine (HP.out).mono ?_
          rintro e v1 (⟨rfl, a1, hW1, hG1⟩ | ⟨hov, rfl, hM2⟩)
          · have t0 := hW.out.keep hG1 hd0 (Nat.le_refl _)
            have t1 := hW.out.keep hG1 hd1 (Nat.le_refl _)
            have t2 := hW.out.keep hG1 hd2 (Nat.le_refl _)
            have t3 := hW.out.keep hG1 hd3 (Nat.le_refl _)
            have t4 := hW.out.keep hG1 hd4 (Nat.le_refl _)
            have t5 := hW.out.keep hG1 hd5 (Nat.le_refl _)
            have t6 := hW.out.keep hG1 hd6 (Nat.le_refl _)
            have t7 := hW.out.keep hG1 hd7 (Nat.le_refl _)
            have HW1 := Lib.hid hW1; have HG1 := Lib.hid hG1; clear hW1 hG1
            have HTM := Lib.hid (wliteral_any ⟨lk, ⟨lp, lts⟩, lo, ⟨ll1, ll2⟩, ⟨lr1, lr2⟩⟩ HOK.out (.slice sa lts.length sc) w0 v1 p a1 _ HTS.out HW1.out)
            unfold lmV at HTM
            go_wp2_with fail
            refine (HTM.out).mono ?_
            rintro e v2 (⟨rfl, a2, hW2, hG2⟩ | ⟨hov, rfl, hM2⟩)
            · have HW2 := Lib.hid hW2; have HG2 := Lib.hid hG2; clear hW2 hG2
              go_wp2_with fail
              go_roundw
              case rel => exact ⟨0 + 1, a2, rfl, hlt, by rw [HST.out]; exact HW2.out, Lib.hid (hG.out.trans (BuGo.pre0 ((Mod.refl _ wr).alloc _) (HG1.out.trans HG2.out)))⟩
              case measure => simp [intOf]; omega
            · skip
              have HOV := Lib.hid hov; have HM2 := Lib.hid hM2; clear hov hM2
              go_wp2_with fail
              exact ⟨rfl, .inr ⟨by have h1 := HOV.out; have h2 := HLE2.out; rw [HST.out] at h2; omega, rfl, HM2.out⟩⟩
          · skip
            have HOV := Lib.hid hov; have HM2 := Lib.hid hM2; clear hov hM2
            go_wp2_with fail
            exact ⟨rfl, .inr ⟨by have h1 := HOV.out; have h2 := HLE2.out; rw [HST.out, List.length_append] at h2; omega, rfl, HM2.out⟩⟩
        · have HST : Hid (l ++ pre (k + 1) = l ++ pre k ++ [44, 32] ++ lmT ⟨lk, ⟨lp, lts⟩, lo, ⟨ll1, ll2⟩, ⟨lr1, lr2⟩⟩) := by
            unfold Hid
            rw [hst, if_neg hk0]
            simp only [List.append_assoc]
          have HP := Lib.hid (put_one ⟨#[44, 32]⟩ w0 _ p a' _ (hW.out.mod0 ((Mod.refl (fun _ => False) wr).alloc (.cells #[.int .i64 lk, .string lp, .slice sa lts.length sc, .int .i64 lo, .int .i64 ll1, .string ll2, .int .i64 lr1, .string lr2] 44))) (by decide) (wr.heap.size + 1) (by simp) _ rfl)
          have hkb : ((k : Int) == 0) = false := by simp; omega
          clear hst hk0
          go_wp2_with fail
          refine (HP.out).mono ?_
          rintro e v1 (⟨rfl, a1, hW1, hG1⟩ | ⟨hov, rfl, hM2⟩)
          · have t0 := hW.out.keep hG1 hd0 (Nat.le_refl _)
            have t1 := hW.out.keep hG1 hd1 (Nat.le_refl _)
            have t2 := hW.out.keep hG1 hd2 (Nat.le_refl _)
            have t3 := hW.out.keep hG1 hd3 (Nat.le_refl _)
            have t4 := hW.out.keep hG1 hd4 (Nat.le_refl _)
            have t5 := hW.out.keep hG1 hd5 (Nat.le_refl _)
            have t6 := hW.out.keep hG1 hd6 (Nat.le_refl _)
            have t7 := hW.out.keep hG1 hd7 (Nat.le_refl _)
            have HW1 := Lib.hid hW1; have HG1 := Lib.hid hG1; clear hW1 hG1
            have HTM := Lib.hid (wliteral_any ⟨lk, ⟨lp, lts⟩, lo, ⟨ll1, ll2⟩, ⟨lr1, lr2⟩⟩ HOK.out (.slice sa lts.length sc) w0 v1 p a1 _ HTS.out HW1.out)
            unfold lmV at HTM
            go_wp2_with fail
            refine (HTM.out).mono ?_
            rintro e v2 (⟨rfl, a2, hW2, hG2⟩ | ⟨hov, rfl, hM2⟩)
            · have HW2 := Lib.hid hW2; have HG2 := Lib.hid hG2; clear hW2 hG2
              go_wp2_with fail
              go_roundw
              case rel => exact ⟨k + 1, a2, by go_num, hlt, by rw [HST.out]; exact HW2.out, Lib.hid (hG.out.trans (BuGo.pre0 ((Mod.refl _ wr).alloc _) (HG1.out.trans HG2.out)))⟩
              case measure => simp [intOf]; omega
            · skip
              have HOV := Lib.hid hov; have HM2 := Lib.hid hM2; clear hov hM2
              go_wp2_with fail
              exact ⟨rfl, .inr ⟨by have h1 := HOV.out; have h2 := HLE2.out; rw [HST.out] at h2; omega, rfl, HM2.out⟩⟩
          · skip
            have HOV := Lib.hid hov; have HM2 := Lib.hid hM2; clear hov hM2
            go_wp2_with fail
            exact ⟨rfl, .inr ⟨by have h1 := HOV.out; have h2 := HLE2.out; rw [HST.out, List.length_append] at h2; omega, rfl, HM2.out⟩⟩
      · obtain rfl : k = ls.length := by omega
        have HA2 : Hid (l ++ pre ls.length ++ [46] = l ++ out) := by
          have := HAL.out
          unfold Hid
          rw [this, List.append_assoc]
        have HP := Lib.hid (put_one ⟨#[46]⟩ w0 _ p a' _ hW.out (by decide) wr.heap.size rfl _ rfl)
        go_wp2_with fail
        refine (HP.out).mono ?_
        rintro e w2 (⟨rfl, a2, hW2, hG2⟩ | ⟨hov, rfl, hM2⟩)
        · have HW2 := Lib.hid hW2; have HG2 := Lib.hid hG2; clear hW2 hG2
          go_wp2_with fail
          go_end0
          exact .inl ⟨rfl, a2, by rw [← HA2.out]; exact HW2.out, BuGo.pre0 HM0.out (hG.out.trans HG2.out)⟩
        · have HOV := Lib.hid hov; have HM2 := Lib.hid hM2; clear hov hM2
          go_wp2_with fail
          exact ⟨rfl, .inr ⟨by rw [← HA2.out]; exact HOV.out, rfl, HM2.out⟩⟩
  · skip
    have HOV := Lib.hid hov; have HM2 := Lib.hid hM2; clear hov hM2
    go_wp2_with fail
    exact ⟨rfl, .inr ⟨by have h1 := HOV.out; have h2 := HLE.out 0; rw [List.length_append] at h1 ⊢; omega, rfl, HM2.out⟩⟩
end Go.Proofs.YtphgglnkdfndiaaDoor
