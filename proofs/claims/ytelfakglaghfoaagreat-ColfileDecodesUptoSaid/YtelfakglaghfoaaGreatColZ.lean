/-
  The program's reading of a column by runs: walked.
-/
import Derived.Test.YtelfakglaghfoaaGreatColX
import Derived.Test.YtelfakglaghfoaaGreatColY
namespace Go.Proofs.YtelfakglaghfoaaGreat
open Go Go.RowKit Go.Mine
set_option linter.unusedVariables false
set_option maxHeartbeats 4000000
set_option maxRecDepth 100000

theorem rrGo_nil (f m : Nat) : rrGo f m [] = [] := by cases f <;> simp [rrGo]
theorem stNum_bad (l : List UInt8) (at_ : Nat) {f : Nat} (h : f ≠ 0) : stNum l at_ f = (0, at_, f) := by rw [stNum, if_pos h]
/-- where a run stands -/
theorem rrGo_on (f m : Nat) {l : List UInt8} {x k1 n k2 : Nat} (h0 : l ≠ []) (h1 : getL l = (x, k1, 0)) (h2 : getL (l.drop k1) = (n, k2, 0)) (hx : x < 2 ^ 32) (hn : n ≤ m) :
    rrGo (f + 1) m l = List.replicate n x ++ rrGo f (m - n) (l.drop (k1 + k2)) := by
  rw [rrGo, h1]
  simp only [h2]
  rw [if_neg (by rintro (h | h | h | h | h); exact h0 h; exact h rfl; exact h rfl; omega; omega), List.drop_drop]
theorem rrGo_off (f m : Nat) {l : List UInt8} (h : (getL l).2.2 ≠ 0 ∨ (getL (l.drop (getL l).2.1)).2.2 ≠ 0 ∨ 2 ^ 32 ≤ (getL l).1 ∨ m < (getL (l.drop (getL l).2.1)).1) : rrGo f m l = [] := by
  cases f with
  | zero => rfl
  | succ f => rw [rrGo, if_pos (.inr h)]
theorem readP3_any (a : Option Addr) (d rows : Nat) (l : List UInt8) (w : World) (hr : Rd w a (bts l)) (hl : l.length < 2 ^ 40) (hnil : a = none → d = 0) (hrows : rows ≤ 65536) :
    Calls Tryz.prog 98 #[.slice a l.length d, .int .i64 rows] w (RPost (rrGo l.length rows l) w) := by
  have HN := Lib.hid (newReader_any a d l w hr hl hnil)
  clear hr hnil
  go_enter Tryz.func98, Tryz.ntmps98
  go_wp2_with fail
  refine HN.out.mono ?_
  rintro e w1 ⟨p, ra, rc, rfl, hRD, hp, hm, _⟩
  have HR := Lib.hid hRD; have HP := Lib.hid hp; have HM := Lib.hid hm
  clear hRD hp hm HN
  go_wp2_with fail
  go_loopw [5, 7, 8, 9] (fun cv _ _ _ wr => ∃ (c : List Nat) (at_ f : Nat) (oa : Option Addr) (oc : Nat), cv = .slice oa c.length oc ∧ c.length ≤ rows ∧ at_ ≤ l.length ∧ l.length - at_ ≤ f ∧ Hid (rrGo l.length rows l = c ++ rrGo f (rows - c.length) (l.drop at_)) ∧ Hid (VS w1 wr p ra rc l at_ 0 oa oc (u32s c))) (fun _ _ _ _ W => match W.cell? ⟨p, 1, none⟩ with | some (.int _ x) => l.length - x.toNat | _ => 0)
  case atStart => exact ⟨[], 0, l.length, none, 0, rfl, Nat.zero_le _, Nat.zero_le _, by omega, Lib.hid (by simp), Lib.hid (VS.start HR.out)⟩
  case round =>
    obtain ⟨c, at_, f, oa, oc, rfl, hc, hat, hf, hE, hV⟩ := hrel
    have HL := Lib.hid (rleft_any p ra l.length rc at_ _ _ wr hV.out.rd.heap hat hl)
    have hmea : wr.cell? ⟨p, 1, none⟩ = some (.int .i64 at_) := cell_at hV.out.rd.heap rfl
    have HMEA := Lib.hid hmea
    clear hmea
    rename World => w9
    by_cases h1 : at_ < l.length
    · have h0 : 0 < l.length - at_ := by omega
      go_wp2_with fail
      refine HL.out.mono ?_
      rintro e w2 ⟨rfl, hm2⟩
      have HV2 := Lib.hid (hV.out.mod0 hm2)
      clear hm2 hV HL
      have hdl : (l.drop at_).length = l.length - at_ := List.length_drop
      have hne : l.drop at_ ≠ [] := by intro e; rw [e] at hdl; simp at hdl; omega
      obtain ⟨f', rfl⟩ : ∃ f', f = f' + 1 := ⟨f - 1, by omega⟩
      have HDL := Lib.hid hdl
      have HN1 := Lib.hid (rdNum_any p ra rc l at_ 0 w2 HV2.out.rd)
      obtain ⟨M, hM⟩ : ∃ M, M = rows - c.length := ⟨_, rfl⟩
      rw [← hM] at hE
      have hMrows : M ≤ 65536 := by omega
      have hrc : (rows : Int) - (c.length : Int) = (M : Int) := by omega
      have HMM := Lib.hid hM
      clear hM hdl
      obtain ⟨x, k1, e1, hg1⟩ : ∃ x k1 e1, getL (l.drop at_) = (x, k1, e1) := ⟨_, _, _, rfl⟩
      by_cases he1 : e1 = 0
      · subst he1
        have hok1 := getL_ok (l := l.drop at_) (by rw [hg1])
        rw [hg1] at hok1
        obtain ⟨hk1, hk2, hx64⟩ := hok1
        simp only at hk1 hk2 hx64
        rw [stNum_ok (by rw [hg1]), hg1] at HN1
        obtain ⟨n, k2, e2, hg2⟩ : ∃ n k2 e2, getL ((l.drop at_).drop k1) = (n, k2, e2) := ⟨_, _, _, rfl⟩
        have HN2 := Lib.hid (fun W h => rdNum_any p ra rc l (at_ + k1) 0 W h)
        have hg2' : getL (l.drop (at_ + k1)) = (n, k2, e2) := by rw [← List.drop_drop]; exact hg2
        by_cases he2 : e2 = 0
        · subst he2
          have hok2 := getL_ok (l := (l.drop at_).drop k1) (by rw [hg2])
          rw [hg2, List.length_drop] at hok2
          obtain ⟨hk3, hk4, hn64⟩ := hok2
          simp only at hk3 hk4 hn64
          rw [stNum_ok (by rw [hg2']), hg2'] at HN2
          by_cases hx32 : x < 2 ^ 32
          · have HTK := Lib.hid (fun W => taken_any x W hx64)
            rw [decide_eq_true hx32, Nat.mod_eq_of_lt hx32] at HTK
            by_cases hn : n ≤ M
            · have HON := Lib.hid (rrGo_on f' M hne hg1 hg2 hx32 hn)
              rw [List.drop_drop] at HON
              have HB4 : Hid (k1 + k2 ≤ l.length - at_) := Lib.hid (by have := HDL.out; omega)
              have HB3 := Lib.hid hk3; have HB1 := Lib.hid hk1
              have hn6 : n ≤ 65536 := by omega
              have hnm : ¬ M < n := by omega
              clear hg1 hg2 hg2' hne hk2 hk4 hx64 hn64 hk1 hk3 hn
              go_wp2_with fail
              refine HN1.out.mono ?_
              rintro e w3 ⟨rfl, hrd3, hm3⟩
              have HV3 := Lib.hid (HV2.out.num hrd3 hm3)
              clear hrd3 hm3
              go_wp2_with fail
              refine (HTK.out _).mono ?_
              rintro e w4 ⟨rfl, hw4⟩
              obtain rfl : w3 = w4 := hw4
              go_wp2_with fail
              refine (HN2.out _ HV3.out.rd).mono ?_
              rintro e w5 ⟨rfl, hrd5, hm5⟩
              have HV5 := Lib.hid (HV3.out.num hrd5 hm5)
              clear hrd5 hm5
              go_wp2_with fail
              refine (rerr_any p _ _ _ _ w5 HV5.out.rd.heap).mono ?_
              rintro e w6 ⟨rfl, hw6⟩
              obtain rfl : w5 = w6 := hw6
              go_wp2_with fail
              refine (repeat_any _ 1 x n _ (Rd.new w5 (.int .u32 (x : Nat)) 45) hn6).mono ?_
              rintro e w7 ⟨a7, c7, rfl, hO7⟩
              have HV7 := Lib.hid (HV5.out.mod0 (((Mod.refl (fun _ => False) w5).alloc _).trans hO7.md))
              have HO7 := Lib.hid hO7.own.rd
              clear hO7
              rw [List.length_replicate] at *
              have hown : Mine.Own w7 45 1 oa c.length oc (u32s c) := by have h1 := HV7.out.own; rwa [u32s_len] at h1
              go_wp2_with (at_builtin; refine wpL_append rfl (.tmp 39) (.tmp 44) 68 68 rfl tiU32 rfl hown rfl (Src.ofRd tiU32.ht n c7 HO7.out (by simp) (by simpa using u32s_one _)) (by omega) (by unfold maxLen; omega) ?_; intro a3 c3 w8 hO3 hG3 _
                           have HV8 : Hid (VS w1 w8 p ra rc l (at_ + k1 + k2) 0 a3 c3 (u32s (c ++ List.replicate n x))) := Lib.hid (by
                             have e : u32s (c ++ List.replicate n x) = u32s c ++ u32s (List.replicate n x) := by simp [u32s]
                             rw [e]
                             exact HV7.out.app hG3 hO3 (by simp)); clear hO3 hG3)
              go_roundw
              case rel => exact ⟨c ++ List.replicate n x, at_ + k1 + k2, f', a3, c3, by simp, by simp; have := HMM.out; omega, by have := HB4.out; omega, by have := HB1.out; omega, Lib.hid (by
                rw [hE.out, HON.out, List.length_append, List.length_replicate, List.append_assoc, show rows - (c.length + n) = M - n by have := HMM.out; omega, show at_ + (k1 + k2) = at_ + k1 + k2 by omega]), HV8⟩
              case measure =>
                rw [HMEA.out, show w8.cell? ⟨p, 1, none⟩ = some (.int .i64 (at_ + k1 + k2 : Nat)) from cell_at HV8.out.rd.heap rfl]
                have h3 := HB1.out
                have h4 := HB4.out
                show l.length - ((at_ + k1 + k2 : Nat) : Int).toNat < l.length - ((at_ : Nat) : Int).toNat
                omega
            · have HEND : Hid (rrGo l.length rows l = c) := Lib.hid (by
                rw [hE.out, rrGo_off _ _ (.inr (.inr (.inr (by rw [hg1, hg2]; show M < n; omega)))), List.append_nil])
              have hnm : M < n := by omega
              clear hg1 hg2 hg2' hne hk2 hk4 hx64 hn64 hk1 hk3 hn hE
              go_wp2_with fail
              refine HN1.out.mono ?_
              rintro e w3 ⟨rfl, hrd3, hm3⟩
              have HV3 := Lib.hid (HV2.out.num hrd3 hm3)
              clear hrd3 hm3
              go_wp2_with fail
              refine (HTK.out _).mono ?_
              rintro e w4 ⟨rfl, hw4⟩
              obtain rfl : w3 = w4 := hw4
              go_wp2_with fail
              refine (HN2.out _ HV3.out.rd).mono ?_
              rintro e w5 ⟨rfl, hrd5, hm5⟩
              have HV5 := Lib.hid (HV3.out.num hrd5 hm5)
              clear hrd5 hm5
              go_wp2_with fail
              refine (rerr_any p _ _ _ _ w5 HV5.out.rd.heap).mono ?_
              rintro e w6 ⟨rfl, hw6⟩
              obtain rfl : w5 = w6 := hw6
              go_wp2_with fail
              go_ret
              rw [HEND.out]
              exact ⟨oa, oc, rfl, HV5.out.post HM.out HP.out⟩
          · have HTK := Lib.hid (fun W => taken_any x W hx64)
            rw [decide_eq_false hx32] at HTK
            have HEND : Hid (rrGo l.length rows l = c) := Lib.hid (by
              rw [hE.out, rrGo_off _ _ (.inr (.inr (.inl (by rw [hg1]; show 2 ^ 32 ≤ x; omega)))), List.append_nil])
            clear hg1 hg2 hg2' hne hk2 hk4 hx64 hn64 hk1 hk3 hE
            go_wp2_with fail
            refine HN1.out.mono ?_
            rintro e w3 ⟨rfl, hrd3, hm3⟩
            have HV3 := Lib.hid (HV2.out.num hrd3 hm3)
            clear hrd3 hm3
            go_wp2_with fail
            refine (HTK.out _).mono ?_
            rintro e w4 ⟨rfl, hw4⟩
            obtain rfl : w3 = w4 := hw4
            go_wp2_with fail
            refine (HN2.out _ HV3.out.rd).mono ?_
            rintro e w5 ⟨rfl, hrd5, hm5⟩
            have HV5 := Lib.hid (HV3.out.num hrd5 hm5)
            clear hrd5 hm5
            go_wp2_with fail
            refine (rerr_any p _ _ _ _ w5 HV5.out.rd.heap).mono ?_
            rintro e w6 ⟨rfl, hw6⟩
            obtain rfl : w5 = w6 := hw6
            go_wp2_with fail
            go_ret
            rw [HEND.out]
            exact ⟨oa, oc, rfl, HV5.out.post HM.out HP.out⟩
        · have HEND : Hid (rrGo l.length rows l = c) := Lib.hid (by
            rw [hE.out, rrGo_off _ _ (.inr (.inl (by rw [hg1, hg2]; exact he2))), List.append_nil])
          rw [stNum_err (by rw [hg2']; exact he2), hg2'] at HN2
          have hne2 : ((e2 : Int) != 0) = true := by simp; omega
          have HTK := Lib.hid (fun W => taken_any x W hx64)
          generalize decide (x < 2 ^ 32) = dc at *
          clear hg1 hg2 hg2' hne hk2 hx64 hk1 hE
          go_wp2_with fail
          refine HN1.out.mono ?_
          rintro e w3 ⟨rfl, hrd3, hm3⟩
          have HV3 := Lib.hid (HV2.out.num hrd3 hm3)
          clear hrd3 hm3
          go_wp2_with fail
          refine (HTK.out _).mono ?_
          rintro e w4 ⟨rfl, hw4⟩
          obtain rfl : w3 = w4 := hw4
          go_wp2_with fail
          refine (HN2.out _ HV3.out.rd).mono ?_
          rintro e w5 ⟨rfl, hrd5, hm5⟩
          have HV5 := Lib.hid (HV3.out.num hrd5 hm5)
          clear hrd5 hm5
          go_wp2_with fail
          refine (rerr_any p _ _ _ _ w5 HV5.out.rd.heap).mono ?_
          rintro e w6 ⟨rfl, hw6⟩
          obtain rfl : w5 = w6 := hw6
          go_wp2_with fail
          go_ret
          rw [HEND.out]
          exact ⟨oa, oc, rfl, HV5.out.post HM.out HP.out⟩
      · have HEND : Hid (rrGo l.length rows l = c) := Lib.hid (by
          rw [hE.out, rrGo_off _ _ (.inl (by rw [hg1]; exact he1)), List.append_nil])
        rw [stNum_err (by rw [hg1]; exact he1), hg1] at HN1
        have HN2 := Lib.hid (fun W h => rdNum_any p ra rc l at_ e1 W h)
        rw [stNum_bad l at_ he1] at HN2
        have hne1 : ((e1 : Int) != 0) = true := by simp; omega
        have HTK := Lib.hid (fun W => taken_any 0 W (by omega))
        clear hg1 hne hE
        go_wp2_with fail
        refine HN1.out.mono ?_
        rintro e w3 ⟨rfl, hrd3, hm3⟩
        have HV3 := Lib.hid (HV2.out.num hrd3 hm3)
        clear hrd3 hm3
        go_wp2_with fail
        refine (HTK.out _).mono ?_
        rintro e w4 ⟨rfl, hw4⟩
        obtain rfl : w3 = w4 := hw4
        go_wp2_with fail
        refine (HN2.out _ HV3.out.rd).mono ?_
        rintro e w5 ⟨rfl, hrd5, hm5⟩
        have HV5 := Lib.hid (HV3.out.num hrd5 hm5)
        clear hrd5 hm5
        go_wp2_with fail
        refine (rerr_any p _ _ _ _ w5 HV5.out.rd.heap).mono ?_
        rintro e w6 ⟨rfl, hw6⟩
        obtain rfl : w5 = w6 := hw6
        go_wp2_with fail
        go_ret
        rw [HEND.out]
        exact ⟨oa, oc, rfl, HV5.out.post HM.out HP.out⟩
    · have HEND : Hid (rrGo l.length rows l = c) := Lib.hid (by
        rw [hE.out, List.drop_eq_nil_of_le (by omega), rrGo_nil, List.append_nil])
      clear hE
      have h0 : ¬ 0 < l.length - at_ := by omega
      go_wp2_with fail
      refine HL.out.mono ?_
      rintro e w2 ⟨rfl, hm2⟩
      have HV2 := Lib.hid (hV.out.mod0 hm2)
      clear hm2 hV HL
      go_wp2_with fail
      go_ret
      rw [HEND.out]
      exact ⟨oa, oc, rfl, HV2.out.post HM.out HP.out⟩
end Go.Proofs.YtelfakglaghfoaaGreat
