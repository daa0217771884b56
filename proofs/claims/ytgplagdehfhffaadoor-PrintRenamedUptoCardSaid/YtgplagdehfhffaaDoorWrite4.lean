/-
  print's writer: literal, rule.
-/
import Derived.Test.YtgplagdehfhffaaDoorWrite3
namespace Go.Proofs.YtgplagdehfhffaaDoor
open Go Go.RowKit Go.Mine
set_option linter.unusedVariables false
set_option maxHeartbeats 4000000
set_option maxRecDepth 100000

theorem len2 (x y : List UInt8) : (x ++ y).length = x.length + y.length := List.length_append
theorem cells_at {w : World} {cs : Array Value} {e : TypeId} (j : Nat) (v : Value) (h : cs[j]? = some v) : (w.alloc (.cells cs e)).cell? ⟨w.heap.size, j, none⟩ = some v := cell_new h
theorem literal_any (li : Lm) (ok : OkLm li) (s : Value) (w0 w : World) (p : Nat) (b : Option Addr) (l : List UInt8) (ht : TsAt w0 s li.atom.terms) (h : Wr w0 w p b l) :
    Calls Tryd.prog 153 #[.pointer (some ⟨p, 0, none⟩), lmV li s] w (WrPost w0 w p b (l ++ lmT li)) := by
  obtain ⟨k, ⟨pr, ts⟩, op, ⟨lk, lt⟩, ⟨rk, rt⟩⟩ := li
  unfold lmV
  simp only at ht ⊢
  have HTS := Lib.hid ht
  obtain ⟨ad, c, rfl, hr⟩ := ht
  clear hr
  have H := Lib.hid h; clear h
  have hm0 : Mod (fun _ => False) w (w.alloc (.cells #[.int .i64 k, .string pr, .slice ad ts.length c, .int .i64 op, .int .i64 lk, .string lt, .int .i64 rk, .string rt] 62)) := (Mod.refl _ w).alloc _
  have HM0 := Lib.hid hm0; clear hm0
  have hc := fun j v => cells_at (w := w) (cs := #[.int .i64 k, .string pr, .slice ad ts.length c, .int .i64 op, .int .i64 lk, .string lt, .int .i64 rk, .string rt]) (e := 62) j v
  rcases ok with ⟨hk, ha⟩ | ⟨hk, ha⟩ | ⟨hk, h1, h4, okl, okr⟩
  · simp only at hk ha
    subst hk
    have e : lmT ⟨1, ⟨pr, ts⟩, op, ⟨lk, lt⟩, ⟨rk, rt⟩⟩ = amT ⟨pr, ts⟩ := by unfold lmT; rw [if_neg (by simp), if_neg (by simp)]
    rw [e]
    have HA := Lib.hid (atom_any ⟨pr, ts⟩ ha _ w0 _ p b l HTS.out (H.out.mod0 HM0.out))
    clear e hc
    go_enter Tryd.func153, Tryd.ntmps153
    go_wp2_with fail
    refine (HA.out).mono ?_
    rintro e w2 (⟨rfl, a2, hW2, hG2⟩ | ⟨hov, rfl, hM2⟩)
    · have HW2 := Lib.hid hW2; have HG2 := Lib.hid hG2; clear hW2 hG2
      go_wp2_with fail
      go_end0
      exact .inl ⟨rfl, a2, HW2.out, BuGo.pre0 HM0.out HG2.out⟩
    · have HOV := Lib.hid hov; have HM2 := Lib.hid hM2; clear hov hM2
      go_wp2_with fail
      exact ⟨rfl, .inr ⟨HOV.out, rfl, HM2.out⟩⟩
  · simp only at hk ha
    subst hk
    have e : lmT ⟨2, ⟨pr, ts⟩, op, ⟨lk, lt⟩, ⟨rk, rt⟩⟩ = 33 :: amT ⟨pr, ts⟩ := by unfold lmT; rw [if_pos rfl]
    have HST : Hid (l ++ lmT ⟨2, ⟨pr, ts⟩, op, ⟨lk, lt⟩, ⟨rk, rt⟩⟩ = l ++ [33] ++ amT ⟨pr, ts⟩) := by unfold Hid; rw [e]; simp
    have HP := Lib.hid (put_one ⟨#[33]⟩ w0 _ p b l (H.out.mod0 HM0.out) (by decide) (w.heap.size + 1) (by simp) _ rfl)
    have d1 := hc 1 _ rfl
    have d2 := hc 2 _ rfl
    clear e hc
    go_enter Tryd.func153, Tryd.ntmps153
    go_wp2_with fail
    refine (HP.out).mono ?_
    rintro e v1 (⟨rfl, a1, hW1, hG1⟩ | ⟨hov, rfl, hM2⟩)
    · have t1 := H.out.keep hG1 d1 (Nat.le_refl _)
      have t2 := H.out.keep hG1 d2 (Nat.le_refl _)
      have HA := Lib.hid (atom_any ⟨pr, ts⟩ ha _ w0 v1 p a1 _ HTS.out hW1)
      have HG1 := Lib.hid hG1; clear hW1 hG1 d1 d2
      go_wp2_with fail
      refine (HA.out).mono ?_
      rintro e w2 (⟨rfl, a2, hW2, hG2⟩ | ⟨hov, rfl, hM2⟩)
      · have HW2 := Lib.hid hW2; have HG2 := Lib.hid hG2; clear hW2 hG2
        go_wp2_with fail
        go_end0
        exact .inl ⟨rfl, a2, by rw [HST.out]; exact HW2.out, BuGo.pre0 HM0.out (HG1.out.trans HG2.out)⟩
      · have HOV := Lib.hid hov; have HM2 := Lib.hid hM2; clear hov hM2
        go_wp2_with fail
        exact ⟨rfl, .inr ⟨by rw [HST.out]; exact HOV.out, rfl, HM2.out⟩⟩
    · skip
      have HOV := Lib.hid hov; have HM2 := Lib.hid hM2; clear hov hM2
      go_wp2_with fail
      exact ⟨rfl, .inr ⟨by have h1 := HOV.out; rw [HST.out, List.length_append]; omega, rfl, HM2.out⟩⟩
  · simp only at hk h1 h4 okl okr
    subst hk
    have HTL := Lib.hid (term_any ⟨lk, lt⟩ okl w0 _ p b l (H.out.mod0 HM0.out))
    unfold tmV at HTL
    by_cases ho1 : op = 1
    · skip
      obtain rfl : op = 1 := by omega
      have io : ∀ w, (Instr.index 219 (.agg #[.string ⟨#[]⟩, .string ⟨#[32, 61, 32]⟩, .string ⟨#[32, 33, 61, 32]⟩, .string ⟨#[32, 60, 32]⟩, .string ⟨#[32, 60, 61, 32]⟩]) (.int .i64 1)).run Tryd.prog w = .ok (.string ⟨#[32, 61, 32]⟩) w := fun _ => by kernel_rfl
      have HST : Hid (l ++ lmT ⟨3, ⟨pr, ts⟩, 1, ⟨lk, lt⟩, ⟨rk, rt⟩⟩ = l ++ tmT ⟨lk, lt⟩ ++ [32, 61, 32] ++ tmT ⟨rk, rt⟩) := by
        have e1 : opT 1 = [32, 61, 32] := rfl
        have e : lmT ⟨3, ⟨pr, ts⟩, 1, ⟨lk, lt⟩, ⟨rk, rt⟩⟩ = tmT ⟨lk, lt⟩ ++ opT 1 ++ tmT ⟨rk, rt⟩ := by
          unfold lmT; rw [if_neg (by simp), if_pos rfl]
        unfold Hid
        rw [e, e1]
        simp only [List.append_assoc]
      go_enter Tryd.func153, Tryd.ntmps153
      go_wp2_with fail
      refine (HTL.out).mono ?_
      rintro e v1 (⟨rfl, a1, hW1, hG1⟩ | ⟨hov, rfl, hM2⟩)
      · have t3 := H.out.keep hG1 (hc 3 _ rfl) (Nat.le_refl _)
        have t6 := H.out.keep hG1 (hc 6 _ rfl) (Nat.le_refl _)
        have t7 := H.out.keep hG1 (hc 7 _ rfl) (Nat.le_refl _)
        have HP := Lib.hid (put_one ⟨#[32, 61, 32]⟩ w0 v1 p a1 _ hW1 (by decide) v1.heap.size rfl _ rfl)
        have HW1 := Lib.hid hW1; have HG1 := Lib.hid hG1; clear hW1 hG1
        go_wp2_with fail
        refine (HP.out).mono ?_
        rintro e v2 (⟨rfl, a2, hW2, hG2⟩ | ⟨hov, rfl, hM2⟩)
        · have hg2 := HG1.out.trans hG2
          have s6 := H.out.keep hg2 (hc 6 _ rfl) (Nat.le_refl _)
          have s7 := H.out.keep hg2 (hc 7 _ rfl) (Nat.le_refl _)
          have HTR := Lib.hid (term_any ⟨rk, rt⟩ okr w0 v2 p a2 _ hW2)
          unfold tmV at HTR
          have HG2 := Lib.hid hg2; clear hW2 hG2 hg2 t6 t7
          go_wp2_with fail
          refine (HTR.out).mono ?_
          rintro e v3 (⟨rfl, a3, hW3, hG3⟩ | ⟨hov, rfl, hM2⟩)
          · have HW3 := Lib.hid hW3; have HG3 := Lib.hid hG3; clear hW3 hG3
            go_wp2_with fail
            go_end0
            exact .inl ⟨rfl, a3, by rw [HST.out]; exact HW3.out, BuGo.pre0 HM0.out (HG2.out.trans HG3.out)⟩
          · skip
            have HOV := Lib.hid hov; have HM2 := Lib.hid hM2; clear hov hM2
            go_wp2_with fail
            exact ⟨rfl, .inr ⟨by rw [HST.out]; exact HOV.out, rfl, HM2.out⟩⟩
        · skip
          have HOV := Lib.hid hov; have HM2 := Lib.hid hM2; clear hov hM2
          go_wp2_with fail
          exact ⟨rfl, .inr ⟨by have h1 := HOV.out; rw [HST.out, List.length_append]; omega, rfl, HM2.out⟩⟩
      · skip
        have HOV := Lib.hid hov; have HM2 := Lib.hid hM2; clear hov hM2
        go_wp2_with fail
        exact ⟨rfl, .inr ⟨by have h1 := HOV.out; rw [HST.out, List.length_append, len2 (l ++ tmT ⟨lk, lt⟩)]; omega, rfl, HM2.out⟩⟩
    by_cases ho2 : op = 2
    · skip
      obtain rfl : op = 2 := by omega
      have io : ∀ w, (Instr.index 219 (.agg #[.string ⟨#[]⟩, .string ⟨#[32, 61, 32]⟩, .string ⟨#[32, 33, 61, 32]⟩, .string ⟨#[32, 60, 32]⟩, .string ⟨#[32, 60, 61, 32]⟩]) (.int .i64 2)).run Tryd.prog w = .ok (.string ⟨#[32, 33, 61, 32]⟩) w := fun _ => by kernel_rfl
      have HST : Hid (l ++ lmT ⟨3, ⟨pr, ts⟩, 2, ⟨lk, lt⟩, ⟨rk, rt⟩⟩ = l ++ tmT ⟨lk, lt⟩ ++ [32, 33, 61, 32] ++ tmT ⟨rk, rt⟩) := by
        have e1 : opT 2 = [32, 33, 61, 32] := rfl
        have e : lmT ⟨3, ⟨pr, ts⟩, 2, ⟨lk, lt⟩, ⟨rk, rt⟩⟩ = tmT ⟨lk, lt⟩ ++ opT 2 ++ tmT ⟨rk, rt⟩ := by
          unfold lmT; rw [if_neg (by simp), if_pos rfl]
        unfold Hid
        rw [e, e1]
        simp only [List.append_assoc]
      go_enter Tryd.func153, Tryd.ntmps153
      go_wp2_with fail
      refine (HTL.out).mono ?_
      rintro e v1 (⟨rfl, a1, hW1, hG1⟩ | ⟨hov, rfl, hM2⟩)
      · have t3 := H.out.keep hG1 (hc 3 _ rfl) (Nat.le_refl _)
        have t6 := H.out.keep hG1 (hc 6 _ rfl) (Nat.le_refl _)
        have t7 := H.out.keep hG1 (hc 7 _ rfl) (Nat.le_refl _)
        have HP := Lib.hid (put_one ⟨#[32, 33, 61, 32]⟩ w0 v1 p a1 _ hW1 (by decide) v1.heap.size rfl _ rfl)
        have HW1 := Lib.hid hW1; have HG1 := Lib.hid hG1; clear hW1 hG1
        go_wp2_with fail
        refine (HP.out).mono ?_
        rintro e v2 (⟨rfl, a2, hW2, hG2⟩ | ⟨hov, rfl, hM2⟩)
        · have hg2 := HG1.out.trans hG2
          have s6 := H.out.keep hg2 (hc 6 _ rfl) (Nat.le_refl _)
          have s7 := H.out.keep hg2 (hc 7 _ rfl) (Nat.le_refl _)
          have HTR := Lib.hid (term_any ⟨rk, rt⟩ okr w0 v2 p a2 _ hW2)
          unfold tmV at HTR
          have HG2 := Lib.hid hg2; clear hW2 hG2 hg2 t6 t7
          go_wp2_with fail
          refine (HTR.out).mono ?_
          rintro e v3 (⟨rfl, a3, hW3, hG3⟩ | ⟨hov, rfl, hM2⟩)
          · have HW3 := Lib.hid hW3; have HG3 := Lib.hid hG3; clear hW3 hG3
            go_wp2_with fail
            go_end0
            exact .inl ⟨rfl, a3, by rw [HST.out]; exact HW3.out, BuGo.pre0 HM0.out (HG2.out.trans HG3.out)⟩
          · skip
            have HOV := Lib.hid hov; have HM2 := Lib.hid hM2; clear hov hM2
            go_wp2_with fail
            exact ⟨rfl, .inr ⟨by rw [HST.out]; exact HOV.out, rfl, HM2.out⟩⟩
        · skip
          have HOV := Lib.hid hov; have HM2 := Lib.hid hM2; clear hov hM2
          go_wp2_with fail
          exact ⟨rfl, .inr ⟨by have h1 := HOV.out; rw [HST.out, List.length_append]; omega, rfl, HM2.out⟩⟩
      · skip
        have HOV := Lib.hid hov; have HM2 := Lib.hid hM2; clear hov hM2
        go_wp2_with fail
        exact ⟨rfl, .inr ⟨by have h1 := HOV.out; rw [HST.out, List.length_append, len2 (l ++ tmT ⟨lk, lt⟩)]; omega, rfl, HM2.out⟩⟩
    by_cases ho3 : op = 3
    · skip
      obtain rfl : op = 3 := by omega
      have io : ∀ w, (Instr.index 219 (.agg #[.string ⟨#[]⟩, .string ⟨#[32, 61, 32]⟩, .string ⟨#[32, 33, 61, 32]⟩, .string ⟨#[32, 60, 32]⟩, .string ⟨#[32, 60, 61, 32]⟩]) (.int .i64 3)).run Tryd.prog w = .ok (.string ⟨#[32, 60, 32]⟩) w := fun _ => by kernel_rfl
      have HST : Hid (l ++ lmT ⟨3, ⟨pr, ts⟩, 3, ⟨lk, lt⟩, ⟨rk, rt⟩⟩ = l ++ tmT ⟨lk, lt⟩ ++ [32, 60, 32] ++ tmT ⟨rk, rt⟩) := by
        have e1 : opT 3 = [32, 60, 32] := rfl
        have e : lmT ⟨3, ⟨pr, ts⟩, 3, ⟨lk, lt⟩, ⟨rk, rt⟩⟩ = tmT ⟨lk, lt⟩ ++ opT 3 ++ tmT ⟨rk, rt⟩ := by
          unfold lmT; rw [if_neg (by simp), if_pos rfl]
        unfold Hid
        rw [e, e1]
        simp only [List.append_assoc]
      go_enter Tryd.func153, Tryd.ntmps153
      go_wp2_with fail
      refine (HTL.out).mono ?_
      rintro e v1 (⟨rfl, a1, hW1, hG1⟩ | ⟨hov, rfl, hM2⟩)
      · have t3 := H.out.keep hG1 (hc 3 _ rfl) (Nat.le_refl _)
        have t6 := H.out.keep hG1 (hc 6 _ rfl) (Nat.le_refl _)
        have t7 := H.out.keep hG1 (hc 7 _ rfl) (Nat.le_refl _)
        have HP := Lib.hid (put_one ⟨#[32, 60, 32]⟩ w0 v1 p a1 _ hW1 (by decide) v1.heap.size rfl _ rfl)
        have HW1 := Lib.hid hW1; have HG1 := Lib.hid hG1; clear hW1 hG1
        go_wp2_with fail
        refine (HP.out).mono ?_
        rintro e v2 (⟨rfl, a2, hW2, hG2⟩ | ⟨hov, rfl, hM2⟩)
        · have hg2 := HG1.out.trans hG2
          have s6 := H.out.keep hg2 (hc 6 _ rfl) (Nat.le_refl _)
          have s7 := H.out.keep hg2 (hc 7 _ rfl) (Nat.le_refl _)
          have HTR := Lib.hid (term_any ⟨rk, rt⟩ okr w0 v2 p a2 _ hW2)
          unfold tmV at HTR
          have HG2 := Lib.hid hg2; clear hW2 hG2 hg2 t6 t7
          go_wp2_with fail
          refine (HTR.out).mono ?_
          rintro e v3 (⟨rfl, a3, hW3, hG3⟩ | ⟨hov, rfl, hM2⟩)
          · have HW3 := Lib.hid hW3; have HG3 := Lib.hid hG3; clear hW3 hG3
            go_wp2_with fail
            go_end0
            exact .inl ⟨rfl, a3, by rw [HST.out]; exact HW3.out, BuGo.pre0 HM0.out (HG2.out.trans HG3.out)⟩
          · skip
            have HOV := Lib.hid hov; have HM2 := Lib.hid hM2; clear hov hM2
            go_wp2_with fail
            exact ⟨rfl, .inr ⟨by rw [HST.out]; exact HOV.out, rfl, HM2.out⟩⟩
        · skip
          have HOV := Lib.hid hov; have HM2 := Lib.hid hM2; clear hov hM2
          go_wp2_with fail
          exact ⟨rfl, .inr ⟨by have h1 := HOV.out; rw [HST.out, List.length_append]; omega, rfl, HM2.out⟩⟩
      · skip
        have HOV := Lib.hid hov; have HM2 := Lib.hid hM2; clear hov hM2
        go_wp2_with fail
        exact ⟨rfl, .inr ⟨by have h1 := HOV.out; rw [HST.out, List.length_append, len2 (l ++ tmT ⟨lk, lt⟩)]; omega, rfl, HM2.out⟩⟩
    · skip
      obtain rfl : op = 4 := by omega
      have io : ∀ w, (Instr.index 219 (.agg #[.string ⟨#[]⟩, .string ⟨#[32, 61, 32]⟩, .string ⟨#[32, 33, 61, 32]⟩, .string ⟨#[32, 60, 32]⟩, .string ⟨#[32, 60, 61, 32]⟩]) (.int .i64 4)).run Tryd.prog w = .ok (.string ⟨#[32, 60, 61, 32]⟩) w := fun _ => by kernel_rfl
      have HST : Hid (l ++ lmT ⟨3, ⟨pr, ts⟩, 4, ⟨lk, lt⟩, ⟨rk, rt⟩⟩ = l ++ tmT ⟨lk, lt⟩ ++ [32, 60, 61, 32] ++ tmT ⟨rk, rt⟩) := by
        have e1 : opT 4 = [32, 60, 61, 32] := rfl
        have e : lmT ⟨3, ⟨pr, ts⟩, 4, ⟨lk, lt⟩, ⟨rk, rt⟩⟩ = tmT ⟨lk, lt⟩ ++ opT 4 ++ tmT ⟨rk, rt⟩ := by
          unfold lmT; rw [if_neg (by simp), if_pos rfl]
        unfold Hid
        rw [e, e1]
        simp only [List.append_assoc]
      go_enter Tryd.func153, Tryd.ntmps153
      go_wp2_with fail
      refine (HTL.out).mono ?_
      rintro e v1 (⟨rfl, a1, hW1, hG1⟩ | ⟨hov, rfl, hM2⟩)
      · have t3 := H.out.keep hG1 (hc 3 _ rfl) (Nat.le_refl _)
        have t6 := H.out.keep hG1 (hc 6 _ rfl) (Nat.le_refl _)
        have t7 := H.out.keep hG1 (hc 7 _ rfl) (Nat.le_refl _)
        have HP := Lib.hid (put_one ⟨#[32, 60, 61, 32]⟩ w0 v1 p a1 _ hW1 (by decide) v1.heap.size rfl _ rfl)
        have HW1 := Lib.hid hW1; have HG1 := Lib.hid hG1; clear hW1 hG1
        go_wp2_with fail
        refine (HP.out).mono ?_
        rintro e v2 (⟨rfl, a2, hW2, hG2⟩ | ⟨hov, rfl, hM2⟩)
        · have hg2 := HG1.out.trans hG2
          have s6 := H.out.keep hg2 (hc 6 _ rfl) (Nat.le_refl _)
          have s7 := H.out.keep hg2 (hc 7 _ rfl) (Nat.le_refl _)
          have HTR := Lib.hid (term_any ⟨rk, rt⟩ okr w0 v2 p a2 _ hW2)
          unfold tmV at HTR
          have HG2 := Lib.hid hg2; clear hW2 hG2 hg2 t6 t7
          go_wp2_with fail
          refine (HTR.out).mono ?_
          rintro e v3 (⟨rfl, a3, hW3, hG3⟩ | ⟨hov, rfl, hM2⟩)
          · have HW3 := Lib.hid hW3; have HG3 := Lib.hid hG3; clear hW3 hG3
            go_wp2_with fail
            go_end0
            exact .inl ⟨rfl, a3, by rw [HST.out]; exact HW3.out, BuGo.pre0 HM0.out (HG2.out.trans HG3.out)⟩
          · skip
            have HOV := Lib.hid hov; have HM2 := Lib.hid hM2; clear hov hM2
            go_wp2_with fail
            exact ⟨rfl, .inr ⟨by rw [HST.out]; exact HOV.out, rfl, HM2.out⟩⟩
        · skip
          have HOV := Lib.hid hov; have HM2 := Lib.hid hM2; clear hov hM2
          go_wp2_with fail
          exact ⟨rfl, .inr ⟨by have h1 := HOV.out; rw [HST.out, List.length_append]; omega, rfl, HM2.out⟩⟩
      · skip
        have HOV := Lib.hid hov; have HM2 := Lib.hid hM2; clear hov hM2
        go_wp2_with fail
        exact ⟨rfl, .inr ⟨by have h1 := HOV.out; rw [HST.out, List.length_append, len2 (l ++ tmT ⟨lk, lt⟩)]; omega, rfl, HM2.out⟩⟩

def rpre (r : Rm) (k : Nat) : List UInt8 := spre (amT r.head) [32, 58, 45, 32] [44, 32] (r.body.map lmT) k
theorem rpre_succ (r : Rm) {k : Nat} (hk : k < r.body.length) : rpre r (k + 1) = rpre r k ++ (if k = 0 then [32, 58, 45, 32] else [44, 32]) ++ lmT r.body[k] := by
  unfold rpre
  rw [spre_succ _ _ _ (by simpa using hk)]
  simp
theorem rpre_le (r : Rm) (k : Nat) : (rpre r k).length ≤ (rmT r).length := by
  have := spre_le (amT r.head) [32, 58, 45, 32] [44, 32] (r.body.map lmT) k
  unfold rpre rmT
  rw [List.length_append]
  omega
theorem rpre_all (r : Rm) : rmT r = rpre r r.body.length ++ [46] := by
  have := spre_all (amT r.head) [32, 58, 45, 32] [44, 32] (r.body.map lmT)
  rw [List.length_map] at this
  unfold rpre rmT
  rw [this]
theorem rule_any (r : Rm) (ok : OkRm r) (s bv : Value) (w0 w : World) (p : Nat) (b : Option Addr) (l : List UInt8) (ht : TsAt w0 s r.head.terms) (hb : LsAt w0 bv r.body) (h : Wr w0 w p b l) :
    Calls Tryd.prog 133 #[.pointer (some ⟨p, 0, none⟩), rmV r s bv] w (WrPost w0 w p b (l ++ rmT r)) := by
  have hfew := ok.few
  have HALL := Lib.hid ok.all
  have HOKA := Lib.hid ok.head
  have H := Lib.hid h; clear h
  have HT := Lib.hid ht
  obtain ⟨ad, c, rfl, hr⟩ := ht
  clear hr
  obtain ⟨bd, bc, xs, rfl, hx, hrx, hxt⟩ := hb
  have HR := Lib.hid hrx; have HX := Lib.hid hx; have HXT := Lib.hid hxt
  clear hrx hx hxt
  have HLE := Lib.hid (rpre_le r)
  have HSU := Lib.hid (fun k (hk : k < r.body.length) => rpre_succ r hk)
  have hz : rpre r 0 = amT r.head := spre_zero _ _ _ _
  have HAL := Lib.hid (rpre_all r)
  generalize rmT r = out at *
  generalize rpre r = pre at *
  obtain ⟨⟨pr, hts⟩, ls⟩ := r
  unfold rmV
  simp only at *
  have HZ := Lib.hid hz; clear hz
  have hc1 : (w.alloc (.cells #[.string pr, .slice ad hts.length c, .slice bd ls.length bc] 40)).cell? ⟨w.heap.size, 2, none⟩ = some (.slice bd ls.length bc) := cell_new rfl
  have hm0 : Mod (fun _ => False) w (w.alloc (.cells #[.string pr, .slice ad hts.length c, .slice bd ls.length bc] 40)) := (Mod.refl _ w).alloc _
  have HP := Lib.hid (atom_any ⟨pr, hts⟩ HOKA.out _ w0 _ p b l HT.out (H.out.mod0 hm0))
  rw [← HZ.out] at HP
  have HM0 := Lib.hid hm0
  clear hm0
  go_enter Tryd.func133, Tryd.ntmps133
  go_wp2_with fail
  refine (HP.out).mono ?_
  rintro e w1 (⟨rfl, a1, hW1, hG1⟩ | ⟨hov, rfl, hM2⟩)
  · have c1 := H.out.keep hG1 hc1 (Nat.le_refl _)
    have HW1 := Lib.hid hW1; have HG1 := Lib.hid hG1; have HC1 := Lib.hid hc1; clear hW1 hG1 hc1 HP
    obtain ⟨W, hW⟩ : ∃ W, W = w.alloc (.cells #[.string pr, .slice ad hts.length c, .slice bd ls.length bc] 40) := ⟨_, rfl⟩
    rw [← hW] at HG1 HM0 HC1
    clear hW
    go_wp2_with fail
    go_loopw [13] (fun iv wr => ∃ (k : Nat) (a' : Option Addr), iv = .int .i64 k ∧ k ≤ ls.length ∧ Hid (Wr w0 wr p a' (l ++ pre k)) ∧ Hid (BuGo W p b wr a')) (fun iv _ => ls.length - (intOf iv).toNat)
    case atStart => exact ⟨0, a1, rfl, Nat.zero_le _, HW1, HG1⟩
    case round =>
      obtain ⟨k, a', rfl, hk, hW, hG⟩ := hrel
      clear HW1 HG1 c1
      by_cases hlt : k < ls.length
      · obtain ⟨sk, hx, hmem⟩ := xs_get HX.out hlt
        obtain ⟨bb, o, rfl, x0, x1, x2, x3, x4, x5, x6, x7⟩ := rd_cell8 (HR.out.mod hW.out.mod (fun _ _ => id)) hx
        have HOK := Lib.hid (HALL.out _ (List.getElem_mem hlt))
        have HTS := Lib.hid (HXT.out _ hmem)
        obtain ⟨sa, sc, hsk, _⟩ := HXT.out _ hmem
        simp only at hsk
        subst hsk
        have hst := HSU.out k hlt
        have HLE2 : Hid ((l ++ pre (k + 1)).length ≤ (l ++ out).length) := by
          have := HLE.out (k + 1)
          unfold Hid
          rw [List.length_append, List.length_append]
          omega
        clear hx hmem
        generalize ls[k] = t at *
        obtain ⟨lk, ⟨lp, lts⟩, lo, ⟨ll1, ll2⟩, ⟨lr1, lr2⟩⟩ := t
        simp only at *
        have hd := fun j v => cells_at (w := wr) (cs := #[.int .i64 lk, .string lp, .slice sa lts.length sc, .int .i64 lo, .int .i64 ll1, .string ll2, .int .i64 lr1, .string lr2]) (e := 62) j v
        have hd0 := hd 0 _ rfl
        have hd1 := hd 1 _ rfl
        have hd2 := hd 2 _ rfl
        have hd3 := hd 3 _ rfl
        have hd4 := hd 4 _ rfl
        have hd5 := hd 5 _ rfl
        have hd6 := hd 6 _ rfl
        have hd7 := hd 7 _ rfl
        clear hd
        by_cases hk0 : k = 0
        · subst hk0
          have HST : Hid (l ++ pre (0 + 1) = l ++ pre 0 ++ [32, 58, 45, 32] ++ lmT ⟨lk, ⟨lp, lts⟩, lo, ⟨ll1, ll2⟩, ⟨lr1, lr2⟩⟩) := by
            unfold Hid
            rw [hst, if_pos rfl]
            simp only [List.append_assoc]
          have HP := Lib.hid (put_one ⟨#[32, 58, 45, 32]⟩ w0 _ p a' _ (hW.out.mod0 ((Mod.refl (fun _ => False) wr).alloc (.cells #[.int .i64 lk, .string lp, .slice sa lts.length sc, .int .i64 lo, .int .i64 ll1, .string ll2, .int .i64 lr1, .string lr2] 62))) (by decide) (wr.heap.size + 1) (by simp) _ rfl)
          clear hst
          rw [show ((0 : Nat) : Int) = 0 from rfl]
          simp only [Nat.zero_mul, Nat.add_zero] at x0 x1 x2 x3 x4 x5 x6 x7
          go_wp2_with fail
          refine (HP.out).mono ?_
          rintro e v1 (⟨rfl, a1, hW1, hG1⟩ | ⟨hov, rfl, hM2⟩)
          · have t0 := hW.out.keep hG1 hd0 (Nat.le_refl _)
            have t1 := hW.out.keep hG1 hd1 (Nat.le_refl _)
            have t2 := hW.out.keep hG1 hd2 (Nat.le_refl _)
            have t3 := hW.out.keep hG1 hd3 (Nat.le_refl _)
            have t4 := hW.out.keep hG1 hd4 (Nat.le_refl _)
            have t5 := hW.out.keep hG1 hd5 (Nat.le_refl _)
            have t6 := hW.out.keep hG1 hd6 (Nat.le_refl _)
            have t7 := hW.out.keep hG1 hd7 (Nat.le_refl _)
            have HW1 := Lib.hid hW1; have HG1 := Lib.hid hG1; clear hW1 hG1
            have HTM := Lib.hid (literal_any ⟨lk, ⟨lp, lts⟩, lo, ⟨ll1, ll2⟩, ⟨lr1, lr2⟩⟩ HOK.out (.slice sa lts.length sc) w0 v1 p a1 _ HTS.out HW1.out)
            unfold lmV at HTM
            go_wp2_with fail
            refine (HTM.out).mono ?_
            rintro e v2 (⟨rfl, a2, hW2, hG2⟩ | ⟨hov, rfl, hM2⟩)
            · have HW2 := Lib.hid hW2; have HG2 := Lib.hid hG2; clear hW2 hG2
              go_wp2_with fail
              go_roundw
              case rel => exact ⟨0 + 1, a2, rfl, hlt, by rw [HST.out]; exact HW2.out, Lib.hid (hG.out.trans (BuGo.pre0 ((Mod.refl _ wr).alloc _) (HG1.out.trans HG2.out)))⟩
              case measure => simp [intOf]; omega
            · skip
              have HOV := Lib.hid hov; have HM2 := Lib.hid hM2; clear hov hM2
              go_wp2_with fail
              exact ⟨rfl, .inr ⟨by have h1 := HOV.out; have h2 := HLE2.out; rw [HST.out] at h2; omega, rfl, HM2.out⟩⟩
          · skip
            have HOV := Lib.hid hov; have HM2 := Lib.hid hM2; clear hov hM2
            go_wp2_with fail
            exact ⟨rfl, .inr ⟨by have h1 := HOV.out; have h2 := HLE2.out; rw [HST.out, List.length_append] at h2; omega, rfl, HM2.out⟩⟩
        · have HST : Hid (l ++ pre (k + 1) = l ++ pre k ++ [44, 32] ++ lmT ⟨lk, ⟨lp, lts⟩, lo, ⟨ll1, ll2⟩, ⟨lr1, lr2⟩⟩) := by
            unfold Hid
            rw [hst, if_neg hk0]
            simp only [List.append_assoc]
          have HP := Lib.hid (put_one ⟨#[44, 32]⟩ w0 _ p a' _ (hW.out.mod0 ((Mod.refl (fun _ => False) wr).alloc (.cells #[.int .i64 lk, .string lp, .slice sa lts.length sc, .int .i64 lo, .int .i64 ll1, .string ll2, .int .i64 lr1, .string lr2] 62))) (by decide) (wr.heap.size + 1) (by simp) _ rfl)
          have hkb : ((k : Int) == 0) = false := by simp; omega
          clear hst hk0
          go_wp2_with fail
          refine (HP.out).mono ?_
          rintro e v1 (⟨rfl, a1, hW1, hG1⟩ | ⟨hov, rfl, hM2⟩)
          · have t0 := hW.out.keep hG1 hd0 (Nat.le_refl _)
            have t1 := hW.out.keep hG1 hd1 (Nat.le_refl _)
            have t2 := hW.out.keep hG1 hd2 (Nat.le_refl _)
            have t3 := hW.out.keep hG1 hd3 (Nat.le_refl _)
            have t4 := hW.out.keep hG1 hd4 (Nat.le_refl _)
            have t5 := hW.out.keep hG1 hd5 (Nat.le_refl _)
            have t6 := hW.out.keep hG1 hd6 (Nat.le_refl _)
            have t7 := hW.out.keep hG1 hd7 (Nat.le_refl _)
            have HW1 := Lib.hid hW1; have HG1 := Lib.hid hG1; clear hW1 hG1
            have HTM := Lib.hid (literal_any ⟨lk, ⟨lp, lts⟩, lo, ⟨ll1, ll2⟩, ⟨lr1, lr2⟩⟩ HOK.out (.slice sa lts.length sc) w0 v1 p a1 _ HTS.out HW1.out)
            unfold lmV at HTM
            go_wp2_with fail
            refine (HTM.out).mono ?_
            rintro e v2 (⟨rfl, a2, hW2, hG2⟩ | ⟨hov, rfl, hM2⟩)
            · have HW2 := Lib.hid hW2; have HG2 := Lib.hid hG2; clear hW2 hG2
              go_wp2_with fail
              go_roundw
              case rel => exact ⟨k + 1, a2, by go_num, hlt, by rw [HST.out]; exact HW2.out, Lib.hid (hG.out.trans (BuGo.pre0 ((Mod.refl _ wr).alloc _) (HG1.out.trans HG2.out)))⟩
              case measure => simp [intOf]; omega
            · skip
              have HOV := Lib.hid hov; have HM2 := Lib.hid hM2; clear hov hM2
              go_wp2_with fail
              exact ⟨rfl, .inr ⟨by have h1 := HOV.out; have h2 := HLE2.out; rw [HST.out] at h2; omega, rfl, HM2.out⟩⟩
          · skip
            have HOV := Lib.hid hov; have HM2 := Lib.hid hM2; clear hov hM2
            go_wp2_with fail
            exact ⟨rfl, .inr ⟨by have h1 := HOV.out; have h2 := HLE2.out; rw [HST.out, List.length_append] at h2; omega, rfl, HM2.out⟩⟩
      · obtain rfl : k = ls.length := by omega
        have HA2 : Hid (l ++ pre ls.length ++ [46] = l ++ out) := by
          have := HAL.out
          unfold Hid
          rw [this, List.append_assoc]
        have HP := Lib.hid (put_one ⟨#[46]⟩ w0 _ p a' _ hW.out (by decide) wr.heap.size rfl _ rfl)
        go_wp2_with fail
        refine (HP.out).mono ?_
        rintro e w2 (⟨rfl, a2, hW2, hG2⟩ | ⟨hov, rfl, hM2⟩)
        · have HW2 := Lib.hid hW2; have HG2 := Lib.hid hG2; clear hW2 hG2
          go_wp2_with fail
          go_end0
          exact .inl ⟨rfl, a2, by rw [← HA2.out]; exact HW2.out, BuGo.pre0 HM0.out (hG.out.trans HG2.out)⟩
        · have HOV := Lib.hid hov; have HM2 := Lib.hid hM2; clear hov hM2
          go_wp2_with fail
          exact ⟨rfl, .inr ⟨by rw [← HA2.out]; exact HOV.out, rfl, HM2.out⟩⟩
  · skip
    have HOV := Lib.hid hov; have HM2 := Lib.hid hM2; clear hov hM2
    go_wp2_with fail
    exact ⟨rfl, .inr ⟨by have h1 := HOV.out; have h2 := HLE.out 0; rw [List.length_append] at h1 ⊢; omega, rfl, HM2.out⟩⟩
end Go.Proofs.YtgplagdehfhffaaDoor
