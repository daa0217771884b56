/-
  The program's reading of a column by differences: walked.
-/
import Derived.Test.YtelfakglaghfoaaGreatColW
import Derived.Test.YtelfakglaghfoaaGreatColH
namespace Go.Proofs.YtelfakglaghfoaaGreat
open Go Go.RowKit Go.Mine
set_option linter.unusedVariables false
set_option maxHeartbeats 4000000
set_option maxRecDepth 100000

theorem rdGoD_nil (m : Nat) (p : Option Nat) : rdGoD m p [] = [] := by cases m <;> simp [rdGoD]
theorem rdGoD_on (m : Nat) (p : Option Nat) {l : List UInt8} (h0 : l ≠ []) (h1 : (getL l).2.2 = 0) (h2 : nextN p (getL l).1 < 2 ^ 32) : rdGoD (m + 1) p l = nextN p (getL l).1 :: rdGoD m (some (nextN p (getL l).1)) (l.drop (getL l).2.1) := by
  rw [rdGoD, if_neg (by rintro (h | h | h); exact h0 h; exact h h1; omega)]
theorem rdGoD_off (m : Nat) (p : Option Nat) {l : List UInt8} (h : l = [] ∨ (getL l).2.2 ≠ 0 ∨ 2 ^ 32 ≤ nextN p (getL l).1) : rdGoD m p l = [] := by
  cases m with
  | zero => rfl
  | succ m => rw [rdGoD, if_pos h]
/-- the last of what is read -/
def lastO (c : List Nat) : Option Nat := c.getLast?
theorem lastO_snoc (c : List Nat) (n : Nat) : lastO (c ++ [n]) = some n := by simp [lastO]
theorem readP2_any (a : Option Addr) (d rows : Nat) (l : List UInt8) (w : World) (hr : Rd w a (bts l)) (hl : l.length < 2 ^ 40) (hnil : a = none → d = 0) (hrows : rows ≤ 65536) :
    Calls Tryz.prog 94 #[.slice a l.length d, .int .i64 rows] w (RPost (rdGoD rows none l) w) := by
  have HN := Lib.hid (newReader_any a d l w hr hl hnil)
  clear hr hnil
  go_enter Tryz.func94, Tryz.ntmps94
  go_wp2_with fail
  refine HN.out.mono ?_
  rintro e w1 ⟨p, ra, rc, rfl, hRD, hp, hm, _⟩
  have HR := Lib.hid hRD; have HP := Lib.hid hp; have HM := Lib.hid hm
  clear hRD hp hm HN
  go_wp2_with fail
  go_loopw [5, 7, 8, 9] (fun cv _ _ _ wr => ∃ (c : List Nat) (at_ : Nat) (oa : Option Addr) (oc : Nat), cv = .slice oa c.length oc ∧ c.length ≤ rows ∧ at_ ≤ l.length ∧ Hid (U32 c) ∧ Hid (rdGoD rows none l = c ++ rdGoD (rows - c.length) (lastO c) (l.drop at_)) ∧ Hid (VS w1 wr p ra rc l at_ 0 oa oc (u32s c))) (fun cv _ _ _ _ => match cv with | .slice _ n _ => rows - n | _ => 0)
  case atStart => exact ⟨[], 0, none, 0, rfl, Nat.zero_le _, Nat.zero_le _, Lib.hid (fun x hx => by cases hx), Lib.hid (by simp [lastO]), Lib.hid (VS.start HR.out)⟩
  case round =>
    obtain ⟨c, at_, oa, oc, rfl, hc, hat, hU, hE, hV⟩ := hrel
    have HL := Lib.hid (rleft_any p ra l.length rc at_ _ _ wr hV.out.rd.heap hat hl)
    rename World => w9
    by_cases hgo : at_ < l.length ∧ c.length < rows
    · obtain ⟨h1, h2⟩ := hgo
      have h0 : 0 < l.length - at_ := by omega
      go_wp2_with fail
      refine HL.out.mono ?_
      rintro e w2 ⟨rfl, hm2⟩
      have HV2 := Lib.hid (hV.out.mod0 hm2)
      clear hm2 hV HL
      have hdl : (l.drop at_).length = l.length - at_ := List.length_drop
      have hne : l.drop at_ ≠ [] := by intro e; rw [e] at hdl; simp at hdl; omega
      obtain ⟨m, hm⟩ : ∃ m, rows - c.length = m + 1 := ⟨rows - c.length - 1, by omega⟩
      have HDL := Lib.hid hdl
      have HMM := Lib.hid hm
      clear hdl
      have HNUM := Lib.hid (rdNum_any p ra rc l at_ 0 w2 HV2.out.rd)
      go_wp2_with fail
      by_cases he : (getL (l.drop at_)).2.2 = 0
      · obtain ⟨hk, hk2, hn64⟩ := getL_ok he
        have HST := Lib.hid (stNum_ok he)
        rw [HST.out] at HNUM
        have HON : Hid (nextN (lastO c) (getL (l.drop at_)).1 < 2 ^ 32 → rdGoD rows none l = (c ++ [nextN (lastO c) (getL (l.drop at_)).1]) ++ rdGoD (rows - (c.length + 1)) (lastO (c ++ [nextN (lastO c) (getL (l.drop at_)).1])) (l.drop (at_ + (getL (l.drop at_)).2.1))) := Lib.hid (fun h32 => by
          rw [hE.out, hm, rdGoD_on m _ hne he h32, show rows - (c.length + 1) = m by omega, List.drop_drop, lastO_snoc]
          simp)
        have HOFF : Hid (2 ^ 32 ≤ nextN (lastO c) (getL (l.drop at_)).1 → rdGoD rows none l = c) := Lib.hid (fun h32 => by
          rw [hE.out, rdGoD_off _ _ (.inr (.inr h32)), List.append_nil])
        clear hE hm hne he HST
        generalize (getL (l.drop at_)).1 = n at *
        generalize (getL (l.drop at_)).2.1 = k at *
        rcases List.eq_nil_or_concat c with hcn | ⟨c', q, hcn⟩
        · have hc0 : ¬ 0 < c.length := by rw [hcn]; simp
          have hx : nextN (lastO c) n = n := by rw [hcn]; rfl
          rw [hx] at HON HOFF
          have hx64 := hn64
          clear hcn hx
          generalize n = x at *
          refine HNUM.out.mono ?_
          rintro e w3 ⟨rfl, hrd3, hm3⟩
          have HV3 := Lib.hid (HV2.out.num hrd3 hm3)
          clear hrd3 hm3 HV2 HNUM
          go_wp2_with fail
          by_cases h32 : x < 2 ^ 32
          · have hdec : decide (x < 2 ^ 32) = true := decide_eq_true h32
            have hmod : x % 2 ^ 32 = x := Nat.mod_eq_of_lt h32
            have HTK := Lib.hid (fun W => taken_any x W hx64)
            rw [hdec, hmod] at HTK
            clear hdec hmod
            refine (HTK.out _).mono ?_
            rintro e w6 ⟨rfl, hw6⟩
            have HV6 : Hid (VS w1 w6 p ra rc l (at_ + k) 0 oa oc (u32s c)) := Lib.hid (hw6 ▸ HV3.out)
            clear hw6
            go_wp2_with fail
            refine (rerr_any p _ _ _ _ w6 HV6.out.rd.heap).mono ?_
            rintro e w7 ⟨rfl, hw7⟩
            obtain rfl : w6 = w7 := hw7
            have hown : Mine.Own w6 45 1 oa c.length oc (u32s c) := by have h1 := HV6.out.own; rwa [u32s_len] at h1
            go_wp2_with (at_builtin; refine wpL_appendN (us := [.int .u32 (x : Nat)]) rfl (.tmp 49) (.tmp 51) 68 rfl tiU32 rfl hown rfl rfl rfl (by show (c.length + 1) * 4 ≤ _; omega) (by show c.length + 1 ≤ _; unfold maxLen; omega) ?_; intro a3 c3 w5 hO3 hG3 _
                         have HV5 : Hid (VS w1 w5 p ra rc l (at_ + k) 0 a3 c3 (u32s (c ++ [x]))) := Lib.hid (by
                           rw [u32s_snoc]
                           exact HV6.out.app hG3 hO3 (by simp)); clear hO3 hG3)
            go_roundw
            case rel => exact ⟨c ++ [x], at_ + k, a3, c3, by simp, by simp; omega, by have := HDL.out; omega, Lib.hid (fun y hy => by
              rcases List.mem_append.1 hy with hy | hy
              · exact hU.out y hy
              · rw [List.mem_singleton] at hy; rw [hy]; exact h32), Lib.hid (by rw [HON.out h32]; simp), HV5⟩
            case measure => show rows - (c.length + 1) < rows - c.length; omega
          · have hdec : decide (x < 2 ^ 32) = false := decide_eq_false h32
            have HTK := Lib.hid (fun W => taken_any x W hx64)
            rw [hdec] at HTK
            clear hdec
            refine (HTK.out _).mono ?_
            rintro e w6 ⟨rfl, hw6⟩
            have HV6 : Hid (VS w1 w6 p ra rc l (at_ + k) 0 oa oc (u32s c)) := Lib.hid (hw6 ▸ HV3.out)
            clear hw6
            go_wp2_with fail
            refine (rerr_any p _ _ _ _ w6 HV6.out.rd.heap).mono ?_
            rintro e w7 ⟨rfl, hw7⟩
            obtain rfl : w6 = w7 := hw7
            go_wp2_with fail
            go_ret
            rw [HOFF.out (Nat.le_of_not_lt h32)]
            exact ⟨oa, oc, rfl, HV6.out.post HM.out HP.out⟩
        · have hc0 : 0 < c.length := by rw [hcn]; simp
          have hlq : lastO c = some q := by rw [hcn]; simp [lastO]
          rw [hlq] at HON HOFF
          have HQ : Hid (c[c.length - 1]'(by omega) = q) := Lib.hid (by subst hcn; simp)
          have hq : q < 2 ^ 32 := hU.out q (by rw [hcn]; simp)
          have hnc := next_cast hq hn64
          have hx64 : nextN (some q) n < 2 ^ 64 := by unfold nextN; simp only; omega
          have HBK := Lib.hid (fun W => backP_any n hn64 W)
          clear hcn hlq
          generalize nextN (some q) n = x at *
          generalize hbk : backN n = bk at *
          clear hbk
          obtain ⟨b, o, rfl, _⟩ := u32_cell (c := c) (i := c.length - 1) HV2.out.own.rd (by omega)
          refine HNUM.out.mono ?_
          rintro e w3 ⟨rfl, hrd3, hm3⟩
          have HV3 := Lib.hid (HV2.out.num hrd3 hm3)
          clear hrd3 hm3 HV2 HNUM
          go_wp2_with fail
          have x0 : w3.cell? ⟨b, o + (c.length - 1), none⟩ = some (.int .u32 (q : Nat)) := by
            obtain ⟨b', o', e, h⟩ := u32_cell (HV3.out.own.rd) (c := c) (i := c.length - 1) (by omega)
            injection e with e
            injection e with e1 e2
            subst e1
            subst e2
            rw [h, HQ.out]
          refine wp_region_ord (fun w' => w'.cell? ⟨b, o + (c.length - 1), none⟩ = some (.int .u32 (q : Nat))) [(0, 0), (0, 1), (0, 2), (0, 3), (0, 4), (1, 5), (0, 6), (0, 7), (2, 8), (0, 9), (0, 10), (0, 11)] (by kernel_rfl) (by kernel_rfl) ?_
          go_wp2_with (first
            | (refine ord_pure rfl rfl rfl (fun K hK => ?_); go_big_quiet_op; refine hK _ ?_; clear hK K)
                                                                | (refine ord_skip rfl rfl ?_; simp only [Act.put, List.setIfInBounds_toArray, List.set_cons_zero, List.set_cons_succ])
                                                                | (refine ord_held rfl rfl rfl (x0) (fun K hK => ?_); apply Exists.intro; refine ⟨fun w' hs => ?_, hK _ ?_⟩; (revert hs; dsimp only; (try simp only [and_imp]); intros; go_simp; rfl); clear hK K)
                                                                | (refine ord_keep rfl rfl (x0) (fun K hK => ?_))
                                                                | (refine ord_drop rfl rfl (fun K hK => ?_))
                                                                | (refine ord_nil ?_))
          refine (HBK.out _).mono ?_
          rintro e w4 ⟨rfl, hw4⟩
          have HV4 : Hid (VS w1 w4 p ra rc l _ _ (some ⟨b, o, none⟩) oc (u32s c)) := Lib.hid (by rw [← hw4]; exact HV3.out.mod0 (Mod.refl _ w3).drew)
          have x4 : w4.cell? ⟨b, o + (c.length - 1), none⟩ = some (.int .u32 (q : Nat)) := by rw [← hw4]; simpa using x0
          refine hK _ _ x4 ?_
          clear hw4 x0 x4 hK K
          go_wp2_with (first
            | (refine ord_pure rfl rfl rfl (fun K hK => ?_); go_big_quiet_op; refine hK _ ?_; clear hK K)
                                                                | (refine ord_skip rfl rfl ?_; simp only [Act.put, List.setIfInBounds_toArray, List.set_cons_zero, List.set_cons_succ])
                                                                | (refine ord_held rfl rfl rfl (trivial) (fun K hK => ?_); apply Exists.intro; refine ⟨fun w' hs => ?_, hK _ ?_⟩; (revert hs; dsimp only; (try simp only [and_imp]); intros; go_simp; rfl); clear hK K)
                                                                | (refine ord_keep rfl rfl (trivial) (fun K hK => ?_))
                                                                | (refine ord_drop rfl rfl (fun K hK => ?_))
                                                                | (refine ord_nil ?_))
          by_cases h32 : x < 2 ^ 32
          · have hdec : decide (x < 2 ^ 32) = true := decide_eq_true h32
            have hmod : x % 2 ^ 32 = x := Nat.mod_eq_of_lt h32
            have HTK := Lib.hid (fun W => taken_any x W hx64)
            rw [hdec, hmod] at HTK
            clear hdec hmod
            refine (HTK.out _).mono ?_
            rintro e w6 ⟨rfl, hw6⟩
            have HV6 : Hid (VS w1 w6 p ra rc l (at_ + k) 0 (some ⟨b, o, none⟩) oc (u32s c)) := Lib.hid (hw6 ▸ HV4.out)
            clear hw6
            go_wp2_with fail
            refine (rerr_any p _ _ _ _ w6 HV6.out.rd.heap).mono ?_
            rintro e w7 ⟨rfl, hw7⟩
            obtain rfl : w6 = w7 := hw7
            have hown : Mine.Own w6 45 1 (some ⟨b, o, none⟩) c.length oc (u32s c) := by have h1 := HV6.out.own; rwa [u32s_len] at h1
            go_wp2_with (at_builtin; refine wpL_appendN (us := [.int .u32 (x : Nat)]) rfl (.tmp 49) (.tmp 51) 68 rfl tiU32 rfl hown rfl rfl rfl (by show (c.length + 1) * 4 ≤ _; omega) (by show c.length + 1 ≤ _; unfold maxLen; omega) ?_; intro a3 c3 w5 hO3 hG3 _
                         have HV5 : Hid (VS w1 w5 p ra rc l (at_ + k) 0 a3 c3 (u32s (c ++ [x]))) := Lib.hid (by
                           rw [u32s_snoc]
                           exact HV6.out.app hG3 hO3 (by simp)); clear hO3 hG3)
            go_roundw
            case rel => exact ⟨c ++ [x], at_ + k, a3, c3, by simp, by simp; omega, by have := HDL.out; omega, Lib.hid (fun y hy => by
              rcases List.mem_append.1 hy with hy | hy
              · exact hU.out y hy
              · rw [List.mem_singleton] at hy; rw [hy]; exact h32), Lib.hid (by rw [HON.out h32]; simp), HV5⟩
            case measure => show rows - (c.length + 1) < rows - c.length; omega
          · have hdec : decide (x < 2 ^ 32) = false := decide_eq_false h32
            have HTK := Lib.hid (fun W => taken_any x W hx64)
            rw [hdec] at HTK
            clear hdec
            refine (HTK.out _).mono ?_
            rintro e w6 ⟨rfl, hw6⟩
            have HV6 : Hid (VS w1 w6 p ra rc l (at_ + k) 0 (some ⟨b, o, none⟩) oc (u32s c)) := Lib.hid (hw6 ▸ HV4.out)
            clear hw6
            go_wp2_with fail
            refine (rerr_any p _ _ _ _ w6 HV6.out.rd.heap).mono ?_
            rintro e w7 ⟨rfl, hw7⟩
            obtain rfl : w6 = w7 := hw7
            go_wp2_with fail
            go_ret
            rw [HOFF.out (Nat.le_of_not_lt h32)]
            exact ⟨(some ⟨b, o, none⟩), oc, rfl, HV6.out.post HM.out HP.out⟩
      · have HST := Lib.hid (stNum_err he)
        rw [HST.out] at HNUM
        have HEND : Hid (rdGoD rows none l = c) := Lib.hid (by rw [hE.out, rdGoD_off _ _ (.inr (.inl he)), List.append_nil])
        clear hE hm hne HST
        generalize (getL (l.drop at_)).2.2 = er at *
        have hne : ((er : Int) != 0) = true := by simp; omega
        rcases List.eq_nil_or_concat c with hcn | ⟨c', q, hcn⟩
        · have hc0 : ¬ 0 < c.length := by rw [hcn]; simp
          clear hcn
          obtain ⟨x, hx0⟩ : ∃ x : Nat, x = 0 := ⟨_, rfl⟩
          have hx64 : x < 2 ^ 64 := by omega
          have HNUM : Hid (Calls Tryz.prog 60 #[.pointer (some ⟨p, 0, none⟩)] w2 fun e w' => e = .returned (.int .u64 x) ∧ RdAt w' p ra rc l at_ er ∧ Mod (fun b => b = p) w2 w') := Lib.hid (by rw [hx0]; exact HNUM.out)
          clear hx0
          refine HNUM.out.mono ?_
          rintro e w3 ⟨rfl, hrd3, hm3⟩
          have HV3 := Lib.hid (HV2.out.num hrd3 hm3)
          clear hrd3 hm3 HV2 HNUM
          go_wp2_with fail
          have HTK := Lib.hid (fun W => taken_any x W hx64)
          generalize hdec : decide (x < 2 ^ 32) = dc at *
          clear hdec
          refine (HTK.out _).mono ?_
          rintro e w6 ⟨rfl, hw6⟩
          have HV6 : Hid (VS w1 w6 p ra rc l at_ er oa oc (u32s c)) := Lib.hid (hw6 ▸ HV3.out)
          clear hw6
          go_wp2_with fail
          refine (rerr_any p _ _ _ _ w6 HV6.out.rd.heap).mono ?_
          rintro e w7 ⟨rfl, hw7⟩
          obtain rfl : w6 = w7 := hw7
          go_wp2_with fail
          go_ret
          rw [HEND.out]
          exact ⟨oa, oc, rfl, HV6.out.post HM.out HP.out⟩
        · have hc0 : 0 < c.length := by rw [hcn]; simp
          have HQ : Hid (c[c.length - 1]'(by omega) = q) := Lib.hid (by subst hcn; simp)
          have hq : q < 2 ^ 32 := hU.out q (by rw [hcn]; simp)
          have hnc := next_cast hq (show (0 : Nat) < 2 ^ 64 by omega)
          have hx64 : nextN (some q) 0 < 2 ^ 64 := by unfold nextN; simp only; omega
          have HBK := Lib.hid (fun W => backP_any 0 (by omega) W)
          clear hcn
          generalize nextN (some q) 0 = x at *
          generalize hbk : backN 0 = bk at *
          clear hbk
          obtain ⟨b, o, rfl, _⟩ := u32_cell (c := c) (i := c.length - 1) HV2.out.own.rd (by omega)
          refine HNUM.out.mono ?_
          rintro e w3 ⟨rfl, hrd3, hm3⟩
          have HV3 := Lib.hid (HV2.out.num hrd3 hm3)
          clear hrd3 hm3 HV2 HNUM
          go_wp2_with fail
          have x0 : w3.cell? ⟨b, o + (c.length - 1), none⟩ = some (.int .u32 (q : Nat)) := by
            obtain ⟨b', o', e, h⟩ := u32_cell (HV3.out.own.rd) (c := c) (i := c.length - 1) (by omega)
            injection e with e
            injection e with e1 e2
            subst e1
            subst e2
            rw [h, HQ.out]
          refine wp_region_ord (fun w' => w'.cell? ⟨b, o + (c.length - 1), none⟩ = some (.int .u32 (q : Nat))) [(0, 0), (0, 1), (0, 2), (0, 3), (0, 4), (1, 5), (0, 6), (0, 7), (2, 8), (0, 9), (0, 10), (0, 11)] (by kernel_rfl) (by kernel_rfl) ?_
          go_wp2_with (first
            | (refine ord_pure rfl rfl rfl (fun K hK => ?_); go_big_quiet_op; refine hK _ ?_; clear hK K)
                                                                | (refine ord_skip rfl rfl ?_; simp only [Act.put, List.setIfInBounds_toArray, List.set_cons_zero, List.set_cons_succ])
                                                                | (refine ord_held rfl rfl rfl (x0) (fun K hK => ?_); apply Exists.intro; refine ⟨fun w' hs => ?_, hK _ ?_⟩; (revert hs; dsimp only; (try simp only [and_imp]); intros; go_simp; rfl); clear hK K)
                                                                | (refine ord_keep rfl rfl (x0) (fun K hK => ?_))
                                                                | (refine ord_drop rfl rfl (fun K hK => ?_))
                                                                | (refine ord_nil ?_))
          refine (HBK.out _).mono ?_
          rintro e w4 ⟨rfl, hw4⟩
          have HV4 : Hid (VS w1 w4 p ra rc l _ _ (some ⟨b, o, none⟩) oc (u32s c)) := Lib.hid (by rw [← hw4]; exact HV3.out.mod0 (Mod.refl _ w3).drew)
          have x4 : w4.cell? ⟨b, o + (c.length - 1), none⟩ = some (.int .u32 (q : Nat)) := by rw [← hw4]; simpa using x0
          refine hK _ _ x4 ?_
          clear hw4 x0 x4 hK K
          go_wp2_with (first
            | (refine ord_pure rfl rfl rfl (fun K hK => ?_); go_big_quiet_op; refine hK _ ?_; clear hK K)
                                                                | (refine ord_skip rfl rfl ?_; simp only [Act.put, List.setIfInBounds_toArray, List.set_cons_zero, List.set_cons_succ])
                                                                | (refine ord_held rfl rfl rfl (trivial) (fun K hK => ?_); apply Exists.intro; refine ⟨fun w' hs => ?_, hK _ ?_⟩; (revert hs; dsimp only; (try simp only [and_imp]); intros; go_simp; rfl); clear hK K)
                                                                | (refine ord_keep rfl rfl (trivial) (fun K hK => ?_))
                                                                | (refine ord_drop rfl rfl (fun K hK => ?_))
                                                                | (refine ord_nil ?_))
          have HTK := Lib.hid (fun W => taken_any x W hx64)
          generalize hdec : decide (x < 2 ^ 32) = dc at *
          clear hdec
          refine (HTK.out _).mono ?_
          rintro e w6 ⟨rfl, hw6⟩
          have HV6 : Hid (VS w1 w6 p ra rc l at_ er (some ⟨b, o, none⟩) oc (u32s c)) := Lib.hid (hw6 ▸ HV4.out)
          clear hw6
          go_wp2_with fail
          refine (rerr_any p _ _ _ _ w6 HV6.out.rd.heap).mono ?_
          rintro e w7 ⟨rfl, hw7⟩
          obtain rfl : w6 = w7 := hw7
          go_wp2_with fail
          go_ret
          rw [HEND.out]
          exact ⟨(some ⟨b, o, none⟩), oc, rfl, HV6.out.post HM.out HP.out⟩
    · have HEND : Hid (rdGoD rows none l = c) := Lib.hid (by
        rw [hE.out, show rdGoD (rows - c.length) (lastO c) (l.drop at_) = [] from ?_, List.append_nil]
        by_cases h1 : at_ < l.length
        · have h2 : rows - c.length = 0 := by omega
          rw [h2]; rfl
        · rw [List.drop_eq_nil_of_le (by omega), rdGoD_nil])
      clear hE
      by_cases h1 : at_ < l.length
      · have h0 : 0 < l.length - at_ := by omega
        have h2 : ¬ c.length < rows := fun h => hgo ⟨h1, h⟩
        clear hgo
        go_wp2_with fail
        refine HL.out.mono ?_
        rintro e w2 ⟨rfl, hm2⟩
        have HV2 := Lib.hid (hV.out.mod0 hm2)
        clear hm2 hV HL
        go_wp2_with fail
        go_ret
        rw [HEND.out]
        exact ⟨oa, oc, rfl, HV2.out.post HM.out HP.out⟩
      · have h0 : ¬ 0 < l.length - at_ := by omega
        clear hgo
        go_wp2_with fail
        refine HL.out.mono ?_
        rintro e w2 ⟨rfl, hm2⟩
        have HV2 := Lib.hid (hV.out.mod0 hm2)
        clear hm2 hV HL
        go_wp2_with fail
        go_ret
        rw [HEND.out]
        exact ⟨oa, oc, rfl, HV2.out.post HM.out HP.out⟩
end Go.Proofs.YtelfakglaghfoaaGreat
