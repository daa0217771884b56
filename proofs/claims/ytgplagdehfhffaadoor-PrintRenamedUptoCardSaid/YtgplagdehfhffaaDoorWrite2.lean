/-
  print's writer: term.
-/
import Derived.Test.YtgplagdehfhffaaDoorWrite
namespace Go.Proofs.YtgplagdehfhffaaDoor
open Go Go.RowKit Go.Mine
set_option linter.unusedVariables false
set_option maxHeartbeats 4000000
set_option maxRecDepth 100000

theorem quoted_len (s : ByteArray) (h : s.size ≤ 4096) : 0 < (⟨(quotedL s.data.toList).toArray⟩ : ByteArray).size ∧ (⟨(quotedL s.data.toList).toArray⟩ : ByteArray).size < 2 ^ 30 := by
  show 0 < (quotedL s.data.toList).length ∧ (quotedL s.data.toList).length < _
  have := q1s_len s.data.toList
  rw [← Lib.size_eq] at this
  unfold quotedL
  simp only [List.length_append, List.length_cons, List.length_nil]
  omega
theorem term_any (t : Tm) (ok : OkTm t) (w0 w : World) (p : Nat) (a : Option Addr) (l : List UInt8) (h : Wr w0 w p a l) :
    Calls Tryd.prog 162 #[.pointer (some ⟨p, 0, none⟩), tmV t] w (WrPost w0 w p a (l ++ tmT t)) := by
  obtain ⟨k, s⟩ := t
  have hlo := ok.lo
  have hhi := ok.hi
  have hlen := ok.len
  unfold tmV
  simp only at hlo hhi hlen ⊢
  have H := Lib.hid h; clear h
  by_cases h1 : k = 1
  · subst h1
    have hpos := ok.ne (.inl rfl)
    simp only at hpos
    have HP := Lib.hid (put_one s w0 (w.alloc (.cells #[.int .i64 1, .string s] 60)) p a l (H.out.mod0 ((Mod.refl _ w).alloc _)) ⟨hpos, by omega⟩ (w.heap.size + 1) (by simp) (l ++ tmT ⟨1, s⟩) rfl)
    clear hpos
    go_enter Tryd.func162, Tryd.ntmps162
    go_wp2_with fail
    refine (HP.out).mono ?_
    rintro e w2 (⟨rfl, a2, hW2, hG2⟩ | ⟨hov, rfl, hM2⟩)
    · have HW2 := Lib.hid hW2; have HG2 := Lib.hid hG2; clear hW2 hG2
      go_wp2_with fail
      go_end0
      exact .inl ⟨rfl, a2, HW2.out, BuGo.pre0 ((Mod.refl _ w).alloc _) HG2.out⟩
    · have HOV := Lib.hid hov; have HM2 := Lib.hid hM2; clear hov hM2
      go_wp2_with fail
      exact ⟨rfl, .inr ⟨HOV.out, rfl, HM2.out⟩⟩
  by_cases h2 : k = 2
  · subst h2
    have HP := Lib.hid (put_one ⟨#[95]⟩ w0 (w.alloc (.cells #[.int .i64 2, .string s] 60)) p a l (H.out.mod0 ((Mod.refl _ w).alloc _)) (by decide) (w.heap.size + 1) (by simp) (l ++ tmT ⟨2, s⟩) rfl)
    go_enter Tryd.func162, Tryd.ntmps162
    go_wp2_with fail
    refine (HP.out).mono ?_
    rintro e w2 (⟨rfl, a2, hW2, hG2⟩ | ⟨hov, rfl, hM2⟩)
    · have HW2 := Lib.hid hW2; have HG2 := Lib.hid hG2; clear hW2 hG2
      go_wp2_with fail
      go_end0
      exact .inl ⟨rfl, a2, HW2.out, BuGo.pre0 ((Mod.refl _ w).alloc _) HG2.out⟩
    · have HOV := Lib.hid hov; have HM2 := Lib.hid hM2; clear hov hM2
      go_wp2_with fail
      exact ⟨rfl, .inr ⟨HOV.out, rfl, HM2.out⟩⟩
  by_cases h3 : k = 3
  · subst h3
    have HW := Lib.hid (fun w => Word_any s w (by omega))
    have HQ := Lib.hid (fun w => lexQuoted_any s w (by omega))
    have hc1 : (w.alloc (.cells #[.int .i64 3, .string s] 60)).cell? ⟨w.heap.size, 1, none⟩ = some (.string s) := cell_new rfl
    have hm0 : Mod (fun _ => False) w (w.alloc (.cells #[.int .i64 3, .string s] 60)) := (Mod.refl _ w).alloc _
    by_cases hw : Word s = 1
    · have hT : tmT ⟨3, s⟩ = s.data.toList := by
        unfold tmT
        simp only
        rw [if_neg (by decide), if_neg (by decide), if_pos (by decide), if_pos hw]
      have hpos : 0 < s.size := Word_pos (by rw [hw]; decide)
      have HP := Lib.hid (fun (w1 : World) (m : Mod (fun _ => False) w w1) g hg => put_one s w0 w1 p a l (H.out.mod0 m) ⟨hpos, by omega⟩ g hg (l ++ tmT ⟨3, s⟩) (by rw [hT]))
      rw [hw] at HW
      have HM0 := Lib.hid hm0
      clear hT hpos hw hm0
      go_enter Tryd.func162, Tryd.ntmps162
      go_wp2_with fail
      refine (HW.out _).mono ?_
      rintro e w1 ⟨rfl, hM1⟩
      have c1 := hM1.cell hc1 id
      have HM1 := Lib.hid (HM0.out.trans hM1); clear hM1
      go_wp2_with fail
      refine (HP.out _ HM1.out _ rfl).mono ?_
      rintro e w2 (⟨rfl, a2, hW2, hG2⟩ | ⟨hov, rfl, hM2⟩)
      · have HW2 := Lib.hid hW2; have HG2 := Lib.hid hG2; clear hW2 hG2
        go_wp2_with fail
        go_end0
        exact .inl ⟨rfl, a2, HW2.out, BuGo.pre0 (HM1.out) HG2.out⟩
      · have HOV := Lib.hid hov; have HM2 := Lib.hid hM2; clear hov hM2
        go_wp2_with fail
        exact ⟨rfl, .inr ⟨HOV.out, rfl, HM2.out⟩⟩
    · have hT : tmT ⟨3, s⟩ = quotedL s.data.toList := by
        unfold tmT
        simp only
        rw [if_neg (by decide), if_neg (by decide), if_pos (by decide), if_neg hw]
      have hql := quoted_len s hlen
      obtain ⟨Q, hQ⟩ : ∃ Q : ByteArray, Q = ⟨(quotedL s.data.toList).toArray⟩ := ⟨_, rfl⟩
      have HP := Lib.hid (fun (w1 : World) (m : Mod (fun _ => False) w w1) g hg => put_one Q w0 w1 p a l (H.out.mod0 m) (by rw [hQ]; exact hql) g hg (l ++ tmT ⟨3, s⟩) (by rw [hT, hQ]))
      rw [← hQ] at HQ
      generalize Word s = wd at *
      have hwb : ((wd : Int) == 1) = false := by simp; omega
      have HM0 := Lib.hid hm0
      clear hT hql hQ hm0 hw
      go_enter Tryd.func162, Tryd.ntmps162
      go_wp2_with fail
      refine (HW.out _).mono ?_
      rintro e w1 ⟨rfl, hM1⟩
      have c1 := hM1.cell hc1 id
      have HM1 := Lib.hid (HM0.out.trans hM1); clear hM1
      go_wp2_with fail
      refine (HQ.out _).mono ?_
      rintro e w3 ⟨rfl, hM3⟩
      have HM3 := Lib.hid (HM1.out.trans hM3); clear hM3
      go_wp2_with fail
      refine (HP.out _ HM3.out _ rfl).mono ?_
      rintro e w2 (⟨rfl, a2, hW2, hG2⟩ | ⟨hov, rfl, hM2⟩)
      · have HW2 := Lib.hid hW2; have HG2 := Lib.hid hG2; clear hW2 hG2
        go_wp2_with fail
        go_end0
        exact .inl ⟨rfl, a2, HW2.out, BuGo.pre0 (HM3.out) HG2.out⟩
      · have HOV := Lib.hid hov; have HM2 := Lib.hid hM2; clear hov hM2
        go_wp2_with fail
        exact ⟨rfl, .inr ⟨HOV.out, rfl, HM2.out⟩⟩
  by_cases h4 : k = 4
  · subst h4
    have HP := Lib.hid (put_one ⟨#[99, 111, 117, 110, 116, 40, 41]⟩ w0 (w.alloc (.cells #[.int .i64 4, .string s] 60)) p a l (H.out.mod0 ((Mod.refl _ w).alloc _)) (by decide) (w.heap.size + 1) (by simp) (l ++ tmT ⟨4, s⟩) rfl)
    go_enter Tryd.func162, Tryd.ntmps162
    go_wp2_with fail
    refine (HP.out).mono ?_
    rintro e w2 (⟨rfl, a2, hW2, hG2⟩ | ⟨hov, rfl, hM2⟩)
    · have HW2 := Lib.hid hW2; have HG2 := Lib.hid hG2; clear hW2 hG2
      go_wp2_with fail
      go_end0
      exact .inl ⟨rfl, a2, HW2.out, BuGo.pre0 ((Mod.refl _ w).alloc _) HG2.out⟩
    · have HOV := Lib.hid hov; have HM2 := Lib.hid hM2; clear hov hM2
      go_wp2_with fail
      exact ⟨rfl, .inr ⟨HOV.out, rfl, HM2.out⟩⟩
  by_cases h5 : k = 5
  · skip
    obtain rfl : k = 5 := by omega
    have hpos := ok.ne (by right; show (5 : Int) ≤ 5; decide)
    simp only at hpos
    have HP := Lib.hid (put_new [⟨#[115, 117, 109, 40]⟩, s, ⟨#[41]⟩] w0 (w.alloc (.cells #[.int .i64 5, .string s] 60)) p a l (H.out.mod0 ((Mod.refl _ w).alloc _)) (fun x hx => by
      simp only [List.mem_cons, List.not_mem_nil, or_false] at hx
      rcases hx with rfl | rfl | rfl
      · decide
      · exact ⟨hpos, by omega⟩
      · decide) (by simp) (w.heap.size + 1) (by simp) (l ++ tmT ⟨5, s⟩) (by
      rw [show tmT ⟨5, s⟩ = [115, 117, 109, 40] ++ s.data.toList ++ [41] from rfl]
      simp [flatS]))
    clear hpos
    go_enter Tryd.func162, Tryd.ntmps162
    go_wp2_with fail
    refine (HP.out).mono ?_
    rintro e w2 (⟨rfl, a2, hW2, hG2⟩ | ⟨hov, rfl, hM2⟩)
    · have HW2 := Lib.hid hW2; have HG2 := Lib.hid hG2; clear hW2 hG2
      go_wp2_with fail
      go_end0
      exact .inl ⟨rfl, a2, HW2.out, BuGo.pre0 ((Mod.refl _ w).alloc _) HG2.out⟩
    · have HOV := Lib.hid hov; have HM2 := Lib.hid hM2; clear hov hM2
      go_wp2_with fail
      exact ⟨rfl, .inr ⟨HOV.out, rfl, HM2.out⟩⟩
  by_cases h6 : k = 6
  · skip
    obtain rfl : k = 6 := by omega
    have hpos := ok.ne (by right; show (5 : Int) ≤ 6; decide)
    simp only at hpos
    have HP := Lib.hid (put_new [⟨#[109, 105, 110, 40]⟩, s, ⟨#[41]⟩] w0 (w.alloc (.cells #[.int .i64 6, .string s] 60)) p a l (H.out.mod0 ((Mod.refl _ w).alloc _)) (fun x hx => by
      simp only [List.mem_cons, List.not_mem_nil, or_false] at hx
      rcases hx with rfl | rfl | rfl
      · decide
      · exact ⟨hpos, by omega⟩
      · decide) (by simp) (w.heap.size + 1) (by simp) (l ++ tmT ⟨6, s⟩) (by
      rw [show tmT ⟨6, s⟩ = [109, 105, 110, 40] ++ s.data.toList ++ [41] from rfl]
      simp [flatS]))
    clear hpos
    go_enter Tryd.func162, Tryd.ntmps162
    go_wp2_with fail
    refine (HP.out).mono ?_
    rintro e w2 (⟨rfl, a2, hW2, hG2⟩ | ⟨hov, rfl, hM2⟩)
    · have HW2 := Lib.hid hW2; have HG2 := Lib.hid hG2; clear hW2 hG2
      go_wp2_with fail
      go_end0
      exact .inl ⟨rfl, a2, HW2.out, BuGo.pre0 ((Mod.refl _ w).alloc _) HG2.out⟩
    · have HOV := Lib.hid hov; have HM2 := Lib.hid hM2; clear hov hM2
      go_wp2_with fail
      exact ⟨rfl, .inr ⟨HOV.out, rfl, HM2.out⟩⟩
  · skip
    obtain rfl : k = 7 := by omega
    have hpos := ok.ne (by right; show (5 : Int) ≤ 7; decide)
    simp only at hpos
    have HP := Lib.hid (put_new [⟨#[109, 97, 120, 40]⟩, s, ⟨#[41]⟩] w0 (w.alloc (.cells #[.int .i64 7, .string s] 60)) p a l (H.out.mod0 ((Mod.refl _ w).alloc _)) (fun x hx => by
      simp only [List.mem_cons, List.not_mem_nil, or_false] at hx
      rcases hx with rfl | rfl | rfl
      · decide
      · exact ⟨hpos, by omega⟩
      · decide) (by simp) (w.heap.size + 1) (by simp) (l ++ tmT ⟨7, s⟩) (by
      rw [show tmT ⟨7, s⟩ = [109, 97, 120, 40] ++ s.data.toList ++ [41] from rfl]
      simp [flatS]))
    clear hpos
    go_enter Tryd.func162, Tryd.ntmps162
    go_wp2_with fail
    refine (HP.out).mono ?_
    rintro e w2 (⟨rfl, a2, hW2, hG2⟩ | ⟨hov, rfl, hM2⟩)
    · have HW2 := Lib.hid hW2; have HG2 := Lib.hid hG2; clear hW2 hG2
      go_wp2_with fail
      go_end0
      exact .inl ⟨rfl, a2, HW2.out, BuGo.pre0 ((Mod.refl _ w).alloc _) HG2.out⟩
    · have HOV := Lib.hid hov; have HM2 := Lib.hid hM2; clear hov hM2
      go_wp2_with fail
      exact ⟨rfl, .inr ⟨HOV.out, rfl, HM2.out⟩⟩
end Go.Proofs.YtgplagdehfhffaaDoor
