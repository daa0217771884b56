/-
  Literals, rules, programs that may be: package syntax's walks.
-/
import Derived.Test.YtidgpcjnfkhjoaaDoorMay
import Derived.Deep.DeepCutAuto
namespace Go.Proofs.YtidgpcjnfkhjoaaDoor
open Go Go.RowKit Go.Mine
set_option linter.unusedVariables false
set_option maxHeartbeats 4000000
set_option maxRecDepth 100000

theorem tm_eql (a b : Int) (s t : ByteArray) (w : World) : (binOp .eql 76 (.agg #[.int .i64 a, .string s]) (.agg #[.int .i64 b, .string t])).run Tryd.prog w = .ok (.bool (a == b && s.toList == t.toList)) w := by
  have u3 := Tryd.underlying3
  have hS : Tryd.prog.underlying 76 = some (.struct (Tryd.prog.fieldsOf 76)) := by kernel_rfl
  have hp : Tryd.prog.stoodInHeld 76 = false := by kernel_rfl
  rw [run_eql_struct, show (10000 : Nat) = 9999 + 1 from rfl, run_equalIn_agg w 9999 76 _ _ hS hp]
  simp only [Program.fieldsOf, Tryd.underlying76]
  go_simp
  by_cases h1 : a = b <;> by_cases h2 : s.toList = t.toList <;> simp [h1, h2]
def zeroT (k : Int) (s : ByteArray) : Bool := k == 0 && s.toList == []
theorem tm_zero (a : Int) (s : ByteArray) (w : World) : (binOp .eql 76 (.agg #[.int .i64 a, .string s]) (.agg #[.int .i64 0, .string ⟨#[]⟩])).run Tryd.prog w = .ok (.bool (zeroT a s)) w := by
  rw [tm_eql]
  unfold zeroT
  have : (⟨#[]⟩ : ByteArray).toList = [] := by rw [ByteArray.toList_eq]
  rw [this]
theorem zeroT_iff {k : Int} {s : ByteArray} : zeroT k s = true ↔ k = 0 ∧ s = emptyB := by
  unfold zeroT emptyB
  simp only [Bool.and_eq_true, beq_iff_eq]
  constructor
  · rintro ⟨h1, h2⟩
    refine ⟨h1, ?_⟩
    rw [ByteArray.toList_eq] at h2
    apply ByteArray.ext
    apply Array.ext'
    exact h2
  · rintro ⟨h1, rfl⟩
    exact ⟨h1, by rw [ByteArray.toList_eq]⟩
/-- a literal by Booleans -/
theorem mayLm_b (k : Int) (a : Am) (op : Int) (l r : Tm) (nb bb : Bool) (hn : nb = true ↔ noneL ⟨k, a, op, l, r⟩) (hb : bb = true ↔ bareL ⟨k, a, op, l, r⟩) :
    mayLm ⟨k, a, op, l, r⟩ = if (k = 1 ∨ k = 2) ∧ bb = true then mayAm false a else if k ≠ 3 ∨ nb = false ∨ op < 1 ∨ 4 < op then 80
      else if 4 ≤ l.kind then 80 else if mayTm l ≠ 0 then mayTm l else if 4 ≤ r.kind then 80 else mayTm r := by
  have h2 : (nb = false) ↔ ¬ noneL ⟨k, a, op, l, r⟩ := by rw [← hn]; simp
  unfold mayLm
  simp only [hb, h2]
theorem mayLit_any (l : Lm) (s : Value) (w : World) (hs : SmallLm l) (ht : TsAt w s l.atom.terms) :
    Calls Tryd.prog 97 #[lmV l s] w fun e w' => e = .returned (.int .i64 (mayLm l)) ∧ Mod (fun _ => False) w w' := by
  obtain ⟨k, ⟨p, ts⟩, op, ⟨lk, lt⟩, ⟨rk, rt⟩⟩ := l
  obtain ⟨ha, hls, hrs⟩ := hs
  unfold lmV
  simp only at ha hls hrs ht ⊢
  have HA := Lib.hid (fun w (m : Mod (fun _ => False) _ w) => mayAtom_any false ⟨p, ts⟩ s w ha (ht.mod0 m))
  have HL := Lib.hid (fun w => mayTerm_any ⟨lk, lt⟩ w hls)
  have HR := Lib.hid (fun w => mayTerm_any ⟨rk, rt⟩ w hrs)
  have tz := tm_zero lk lt
  have tzr := tm_zero rk rt
  obtain ⟨ad, c, rfl, hr⟩ := ht
  clear hr
  obtain ⟨nb, hnb⟩ : ∃ nb : Bool, nb = (p.toList.isEmpty && decide (ts.length = 0)) := ⟨_, rfl⟩
  have hn : nb = true ↔ noneL ⟨k, ⟨p, ts⟩, op, ⟨lk, lt⟩, ⟨rk, rt⟩⟩ := by
    rw [hnb]
    unfold noneL emptyB
    simp only [Bool.and_eq_true, decide_eq_true_eq, List.isEmpty_iff, List.length_eq_zero_iff]
    have : p.toList = [] ↔ p = ⟨#[]⟩ := by
      constructor
      · intro h
        rw [ByteArray.toList_eq] at h
        apply ByteArray.ext
        apply Array.ext'
        exact h
      · rintro rfl
        rw [ByteArray.toList_eq]
    rw [this]
  obtain ⟨bb, hbb⟩ : ∃ bb : Bool, bb = (op == 0 && (zeroT lk lt && zeroT rk rt)) := ⟨_, rfl⟩
  have hb : bb = true ↔ bareL ⟨k, ⟨p, ts⟩, op, ⟨lk, lt⟩, ⟨rk, rt⟩⟩ := by
    rw [hbb]
    unfold bareL
    simp only [Bool.and_eq_true, beq_iff_eq, zeroT_iff]
  have HV := mayLm_b k ⟨p, ts⟩ op ⟨lk, lt⟩ ⟨rk, rt⟩ nb bb hn hb
  clear hn hb
  generalize mayLm ⟨k, ⟨p, ts⟩, op, ⟨lk, lt⟩, ⟨rk, rt⟩⟩ = v at *
  have HVV := Lib.hid HV; clear HV
  have HNB := Lib.hid hnb
  have HBB := Lib.hid hbb
  generalize zeroT lk lt = zl at *
  generalize zeroT rk rt = zr at *
  clear hnb hbb
  go_enter Tryd.func97, Tryd.ntmps97
  go_upto_region 1 with fail
  go_cut [3] (fun s3 wx => s3 = .bool nb ∧ wx = w.alloc (.cells #[.int .i64 k, .string p, .slice ad ts.length c, .int .i64 op, .int .i64 lk, .string lt, .int .i64 rk, .string rt] 78))
  case first =>
    by_cases hp : p.toList = []
    · go_wp2_with fail
      go_meet
      case rel => exact ⟨congrArg Value.bool (by rw [HNB.out, hp, Bool.eq_iff_iff]; simp), rfl⟩
    · have hpb : p.toList.isEmpty = false := by
        cases h : p.toList with
        | nil => exact absurd h hp
        | cons => rfl
      go_wp2_with fail
      go_meet
      case rel => exact ⟨congrArg Value.bool (by rw [HNB.out, hpb]; rfl), rfl⟩
  case rest =>
    obtain ⟨rfl, rfl⟩ := hcut
    go_upto_region 2 with fail
    go_cut [4] (fun s4 wx => s4 = .bool bb ∧ wx = w.alloc (.cells #[.int .i64 k, .string p, .slice ad ts.length c, .int .i64 op, .int .i64 lk, .string lt, .int .i64 rk, .string rt] 78))
    case first =>
      by_cases ho : op = 0
      · subst ho
        cases zl with
        | false =>
          go_wp2_with fail
          go_meet
          case rel => exact ⟨congrArg Value.bool (by rw [HBB.out]; rfl), rfl⟩
        | true =>
          go_wp2_with fail
          go_meet
          case rel => exact ⟨congrArg Value.bool (by rw [HBB.out]; rfl), rfl⟩
      · have hob : (op == 0) = false := by simpa using ho
        go_wp2_with fail
        go_meet
        case rel => exact ⟨congrArg Value.bool (by rw [HBB.out, hob]; rfl), rfl⟩
    case rest =>
      obtain ⟨rfl, rfl⟩ := hcut
      have hM0 : Mod (fun _ => False) w (w.alloc (.cells #[.int .i64 k, .string p, .slice ad ts.length c, .int .i64 op, .int .i64 lk, .string lt, .int .i64 rk, .string rt] 78)) := (Mod.refl _ w).alloc _
      have HA2 := Lib.hid (HA.out _ hM0)
      have HM0 := Lib.hid hM0
      clear HA hM0 HNB HBB tz tzr
      simp only at HA2
      by_cases hA : (k = 1 ∨ k = 2) ∧ bb = true
      · have hv := HVV.out
        rw [if_pos hA] at hv
        obtain ⟨hk, rfl⟩ := hA
        clear HVV
        rw [← hv] at HA2
        clear hv
        rcases hk with rfl | rfl
        all_goals
          go_wp2_with (first
            | (go_at_call 96; refine HA2.out.mono ?_; rintro e w' ⟨rfl, hM2⟩; have HM2 := Lib.hid hM2; clear hM2))
          go_ret
          exact ⟨rfl, HM0.out.trans HM2.out⟩
      · have HV2 : Hid (v = if k ≠ 3 ∨ nb = false ∨ op < 1 ∨ 4 < op then 80 else if 4 ≤ lk then 80 else if mayTm ⟨lk, lt⟩ ≠ 0 then mayTm ⟨lk, lt⟩ else if 4 ≤ rk then 80 else mayTm ⟨rk, rt⟩) := by
          have := HVV.out; rwa [if_neg hA] at this
        clear HVV HA2
        by_cases hk3 : k = 3
        · subst hk3
          clear hA
          by_cases hB : nb = false ∨ op < 1 ∨ 4 < op
          · obtain rfl : v = 80 := by have := HV2.out; rwa [if_pos (.inr hB)] at this
            clear HV2
            by_cases hnb : nb = false
            · subst hnb
              clear hB
              go_wp2_with fail
              go_ret
              exact ⟨rfl, HM0.out⟩
            · obtain rfl : nb = true := by simpa using hnb
              have ho : op < 1 ∨ 4 < op := by
                rcases hB with h | h
                · exact absurd h hnb
                · exact h
              clear hB hnb
              rcases ho with ho | ho
              all_goals
                go_wp2_with fail
                go_ret
                exact ⟨rfl, HM0.out⟩
          · obtain rfl : nb = true := by
              cases nb with
              | false => exact absurd (.inl rfl) hB
              | true => rfl
            have ho1 : 1 ≤ op := by
              by_cases h : op < 1
              · exact absurd (.inr (.inl h)) hB
              · omega
            have ho4 : op ≤ 4 := by
              by_cases h : 4 < op
              · exact absurd (.inr (.inr h)) hB
              · omega
            have HV3 : Hid (v = if 4 ≤ lk then 80 else if mayTm ⟨lk, lt⟩ ≠ 0 then mayTm ⟨lk, lt⟩ else if 4 ≤ rk then 80 else mayTm ⟨rk, rt⟩) := by
              have := HV2.out; rwa [if_neg (by rintro (h | h); exact h rfl; exact hB h)] at this
            clear HV2 hB
            unfold tmV at HL HR
            simp only at HL HR
            generalize mayTm ⟨lk, lt⟩ = ml at *
            generalize mayTm ⟨rk, rt⟩ = mr at *
            have i0 : ∀ w, (Instr.index 200 (.agg #[.int .i64 lk, .string lt, .int .i64 rk, .string rt]) (.int .i64 0)).run Tryd.prog w = .ok (.agg #[.int .i64 lk, .string lt]) w := fun _ => by kernel_rfl
            have i1 : ∀ w, (Instr.index 200 (.agg #[.int .i64 lk, .string lt, .int .i64 rk, .string rt]) (.int .i64 1)).run Tryd.prog w = .ok (.agg #[.int .i64 rk, .string rt]) w := fun _ => by kernel_rfl
            go_wp2_with fail
            go_loopw [72] (fun iv wr => ∃ n : Nat, iv = .int .i64 n ∧ n ≤ 2 ∧ Hid (1 ≤ n → lk < 4 ∧ ml = 0) ∧ Hid (2 ≤ n → rk < 4 ∧ mr = 0) ∧ Hid (Mod (fun _ => False) w wr)) (fun iv _ => 2 - (intOf iv).toNat)
            case atStart => exact ⟨0, rfl, by omega, Lib.hid (fun h => by omega), Lib.hid (fun h => by omega), HM0⟩
            case round =>
              obtain ⟨n, rfl, hn, h1, h2, hM⟩ := hrel
              by_cases hn0 : n = 0
              · subst hn0
                rw [show ((0 : Nat) : Int) = 0 from rfl]
                by_cases h4 : 4 ≤ lk
                · obtain rfl : v = 80 := by have := HV3.out; rwa [if_pos h4] at this
                  clear HV3 h1 h2
                  go_wp2_with fail
                  go_ret
                  exact ⟨rfl, hM.out.alloc _⟩
                · by_cases hm : ml = 0
                  · have h1' : Hid (1 ≤ 0 + 1 → lk < 4 ∧ ml = 0) := fun _ => ⟨by omega, hm⟩
                    have HR2 := Lib.hid (show ml = 0 from hm)
                    subst hm
                    clear HV3
                    go_wp2_with (first
                      | (go_at_call 150; refine (HL.out _).mono ?_; rintro e w' ⟨rfl, hM2⟩; have HM2 := Lib.hid hM2; clear hM2))
                    go_roundw
                    case rel => exact ⟨1, rfl, by omega, h1', Lib.hid (fun h => by omega), Lib.hid ((hM.out.alloc _).trans HM2.out)⟩
                    case measure => simp [intOf]
                  · have HVV : Hid (ml = v) := by have := HV3.out; rw [if_neg h4, if_pos hm] at this; exact this.symm
                    have hmb : (ml != 0) = true := by simpa using hm
                    clear HV3 hm h1 h2
                    go_wp2_with (first
                      | (go_at_call 150; refine (HL.out _).mono ?_; rintro e w' ⟨rfl, hM2⟩; have HM2 := Lib.hid hM2; clear hM2))
                    go_ret
                    exact ⟨ret_i HVV.out, (hM.out.alloc _).trans HM2.out⟩
              · by_cases hn1 : n = 1
                · subst hn1
                  rw [show ((1 : Nat) : Int) = 1 from rfl]
                  obtain ⟨hl4, hml⟩ := h1.out (Nat.le_refl _)
                  by_cases h4 : 4 ≤ rk
                  · obtain rfl : v = 80 := by have := HV3.out; rwa [if_neg (by omega), if_neg (by simpa using hml), if_pos h4] at this
                    clear HV3 h1 h2 hml
                    go_wp2_with fail
                    go_ret
                    exact ⟨rfl, hM.out.alloc _⟩
                  · have HVV : Hid (mr = v) := by have := HV3.out; rw [if_neg (by omega), if_neg (by simpa using hml), if_neg h4] at this; exact this.symm
                    have H1 := h1
                    clear HV3 hml h1
                    by_cases hm : mr = 0
                    · have h2' : Hid (2 ≤ 2 → rk < 4 ∧ mr = 0) := fun _ => ⟨by omega, hm⟩
                      subst hm
                      go_wp2_with (first
                        | (go_at_call 150; refine (HR.out _).mono ?_; rintro e w' ⟨rfl, hM2⟩; have HM2 := Lib.hid hM2; clear hM2))
                      go_roundw
                      case rel => exact ⟨2, rfl, by omega, Lib.hid (fun _ => H1.out (Nat.le_refl _)), h2', Lib.hid ((hM.out.alloc _).trans HM2.out)⟩
                      case measure => simp [intOf]
                    · have hmb : (mr != 0) = true := by simpa using hm
                      clear hm h2
                      go_wp2_with (first
                        | (go_at_call 150; refine (HR.out _).mono ?_; rintro e w' ⟨rfl, hM2⟩; have HM2 := Lib.hid hM2; clear hM2))
                      go_ret
                      exact ⟨ret_i HVV.out, (hM.out.alloc _).trans HM2.out⟩
                · obtain rfl : n = 2 := by omega
                  rw [show ((2 : Nat) : Int) = 2 from rfl]
                  obtain ⟨hl4, hml⟩ := h1.out (by omega)
                  obtain ⟨hr4, hmr⟩ := h2.out (by omega)
                  have HVV : Hid (0 = v) := by have := HV3.out; rw [if_neg (by omega), if_neg (by simpa using hml), if_neg (by omega), hmr] at this; exact this.symm
                  clear HV3 hml hmr h1 h2
                  go_wp2_with fail
                  go_ret
                  exact ⟨ret_i HVV.out, hM.out⟩
        · obtain rfl : v = 80 := by have := HV2.out; rwa [if_pos (.inl hk3)] at this
          have b3 : (k != 3) = true := by simpa using hk3
          clear HV2
          by_cases hk : k = 1 ∨ k = 2
          · obtain rfl : bb = false := by
              cases bb with
              | false => rfl
              | true => exact absurd ⟨hk, rfl⟩ hA
            clear hA
            rcases hk with rfl | rfl
            all_goals
              go_wp2_with fail
              go_ret
              exact ⟨rfl, HM0.out⟩
          · have b1 : (k == 1) = false := by simpa using fun h => hk (.inl h)
            have b2 : (k == 2) = false := by simpa using fun h => hk (.inr h)
            clear hA hk hk3
            go_wp2_with fail
            go_ret
            exact ⟨rfl, HM0.out⟩
end Go.Proofs.YtidgpcjnfkhjoaaDoor
