/-
  The document's Tidy, walked.
-/
import Derived.Test.YteecbbnpgmceiaaGreatDoorTidF
import Derived.Test.YteecbbnpgmceiaaGreatDoorRefPrint2
import Derived.Test.YteecbbnpgmceiaaGreatDoorRefNorm
namespace Go.Proofs.YteecbbnpgmceiaaGreatDoor
open Go Go.RowKit Go.Mine
set_option linter.unusedVariables false
set_option maxHeartbeats 4000000
set_option maxRecDepth 100000

theorem tiTx : TI Tryz.prog 93 9 1 16 := TI.mk' (z := .string ByteArray.empty) (by kernel_rfl) (by kernel_rfl) rfl (by omega)
def txC (xs : List Wv) : List Value := xs.map fun x => .string x.1.1
@[simp] theorem txC_length (xs : List Wv) : (txC xs).length = xs.length := by simp [txC]
theorem txC_one (xs : List Wv) : ∀ u ∈ txC xs, u.oneCell' = true := by
  intro u hu
  obtain ⟨x, _, rfl⟩ := List.mem_map.1 hu
  rfl
def rwC (xs : List Wv) : List Value := rmsC (xs.map rV)
theorem rwC_length (xs : List Wv) : (rwC xs).length = xs.length * 3 := by unfold rwC; rw [rmsC_length, List.length_map]
theorem rwC_one (xs : List Wv) : ∀ u ∈ rwC xs, u.oneCell' = true := by
  intro u hu
  unfold rwC rmsC at hu
  obtain ⟨x, hx, hu⟩ := List.mem_flatMap.1 hu
  obtain ⟨y, _, rfl⟩ := List.mem_map.1 hx
  unfold rmC rV sS at hu
  simp only [List.mem_cons, List.not_mem_nil, or_false] at hu
  rcases hu with rfl | rfl | rfl <;> rfl
theorem rwC_app (l m : List Wv) : rwC (l ++ m) = rwC l ++ rwC m := by unfold rwC; rw [List.map_append, rmsC_append]
theorem rwC_td (xs : List Wv) (i : Nat) : (rwC xs).take (i * 3) = rwC (xs.take i) ∧ (rwC xs).drop (i * 3) = rwC (xs.drop i) := by
  induction xs generalizing i with
  | nil => simp [rwC, rmsC]
  | cons x xs ih =>
    cases i with
    | zero => simp [rwC, rmsC]
    | succ i =>
      have e : rwC (x :: xs) = rwC [x] ++ rwC xs := by rw [← rwC_app]; rfl
      have hl : (rwC [x]).length = 3 := by rw [rwC_length]; rfl
      rw [e, List.take_succ_cons, List.drop_succ_cons, show (i + 1) * 3 = (rwC [x]).length + i * 3 by rw [hl]; omega, List.take_length_add_append, List.drop_length_add_append, (ih i).1, (ih i).2]
      exact ⟨by rw [← rwC_app]; rfl, rfl⟩
theorem txC_td (xs : List Wv) (i : Nat) : (txC xs).take i = txC (xs.take i) ∧ (txC xs).drop i = txC (xs.drop i) := by
  unfold txC
  rw [List.map_take, List.map_drop]; exact ⟨rfl, rfl⟩
theorem lbT_first {xs : List Wn} {s : ByteArray} {k : Nat} (hk : k ≤ xs.length) (h1 : ∀ i (hi : i < xs.length), i < k → tb xs[i].1 < tb s) (h2 : ∀ hi : k < xs.length, ¬ tb xs[k].1 < tb s) : k = lbT xs s := by
  have hl := lbT_le s xs
  rcases Nat.lt_trichotomy k (lbT xs s) with e | e | e
  · exact absurd (lbT_lt s xs k (by omega) e) (h2 (by omega))
  · exact e
  · exact absurd (h1 (lbT xs s) (by omega) e) (lbT_stop s xs (by omega))
theorem own_room' {w : World} {e : TypeId} {k : Nat} {a : Option Addr} {n c : Nat} {xs : List Value} (h : Mine.Own w e k a n c xs) : n ≤ c := by
  rcases h.2 with ⟨_, h1, h2⟩ | ⟨_, _, _, _, h1, _⟩
  · omega
  · exact h1
theorem refTidy_any (rs : List Rm) (v0 : Value) (w : World) (hs : SmallPm rs) (hr : RsAt w v0 rs) :
    Calls Tryz.prog 9 #[.agg #[v0]] w fun e w' => ∃ v, e = .returned (.tuple #[.agg #[v], .int .i64 (tidE (tidyL rs))]) ∧ RsG w' w.heap.size v (tidR (tidyL rs)) ∧ Mod (fun _ => False) w w' := by
  have HMay := Lib.hid (fun wx (m : Mod (fun _ => False) w wx) => RefMay_any rs v0 wx hs (hr.mod0 m))
  obtain ⟨ad, c, xv, rfl, hx, hrx, hxt⟩ := hr
  have HX := Lib.hid hx; have HR := Lib.hid hrx; have HXT := Lib.hid hxt; have HSM := Lib.hid hs
  have hlen := hs.1
  clear hx hrx hxt hs
  obtain ⟨w0, hw0⟩ : ∃ v, v = ((w.alloc (.cells #[.slice ad rs.length c] 24)).alloc (.cells #[.slice none 0 0] 24)).alloc (.cells #[.slice none 0 0] 24) := ⟨_, rfl⟩
  have hm0 : Mod (fun _ => False) w w0 := by rw [hw0]; exact (((Mod.refl _ w).alloc _).alloc _).alloc _
  have hz0 : w0.heap.size = w.heap.size + 3 := by rw [hw0]; simp
  have m12 : Mod (fun _ => False) ((w.alloc (.cells #[.slice ad rs.length c] 24)).alloc (.cells #[.slice none 0 0] 24)) w0 := by rw [hw0]; exact (Mod.refl _ _).alloc _
  have hbA : w0.heap[w.heap.size]? = some (.cells #[.slice ad rs.length c] 24 (0, 0)) := m12.at (heap_two1 w _ _) id
  have hbR : w0.heap[w.heap.size + 1]? = some (.cells #[.slice none 0 0] 24 (0, 0)) := m12.at (heap_two2 w _ _) id
  have hbO : w0.heap[w.heap.size + 1 + 1]? = some (.cells #[.slice none 0 0] 24 (0, 0)) := by
    rw [hw0]
    have := heap_alloc_new ((w.alloc (.cells #[.slice ad rs.length c] 24)).alloc (.cells #[.slice none 0 0] 24)) (.cells #[.slice none 0 0] 24)
    rw [World.size_alloc, World.size_alloc] at this
    exact this
  have hc1 := HMay.out _ hm0
  have HBA := Lib.hid hbA; have HBR := Lib.hid hbR; have HBO := Lib.hid hbO; have HM0 := Lib.hid hm0; have HZ0 := Lib.hid hz0; have HC1 := Lib.hid hc1
  have HW0 := Lib.hid hw0
  have cA0 := cell_at (j := 0) hbA rfl
  rw [hw0] at cA0
  clear hm0 hbA hbR hbO hz0 hc1 HMay m12 hw0
  go_enter Tryz.func9, Tryz.ntmps9
  go_wp2_with fail
  rw [← HW0.out]
  clear cA0 HW0
  refine HC1.out.mono ?_
  rintro e w1 ⟨rfl, hM1⟩
  have HM1 := Lib.hid hM1
  clear HC1
  by_cases hmay : mayPm rs = 0
  · have HMY := Lib.hid hmay
    rw [hmay]
    have HAL := Lib.hid (fun k (hk : k < rs.length) => (mayRs_each HMY.out).2 rs[k] (List.getElem_mem hk))
    have HLN := Lib.hid (mayRs_each HMY.out).1
    have HTG : Hid (tidyL rs = tidyGo [] rs) := by unfold Hid tidyL; rw [if_neg (by rw [HMY.out]; decide)]
    have HB1 := Lib.hid (hM1.at HBO.out id)
    have HM1' : Hid (Mod (fun i => i = w.heap.size + 1 + 1) w0 w1) := Lib.hid (hM1.mono (fun _ _ f => f.elim))
    clear hM1 hmay
    go_wp2_with fail
    go_loopw [6, 7, 8, 9, 10, 11, 12, 13, 14] (fun tv iv _ _ _ _ _ _ _ wr => ∃ (k : Nat) (xs : List Wv) (ta : Option Addr) (tc : Nat) (ra : Option Addr) (rc : Nat), tv = .slice ta xs.length tc ∧ iv = .int .i64 k ∧ k ≤ rs.length ∧ Hid (tidyGo [] (rs.take k) = .ok (tx xs)) ∧ Hid (Mine.Own wr 9 1 ta xs.length tc (txC xs)) ∧ Hid (Mine.Own wr 46 3 ra xs.length rc (rwC xs)) ∧ Hid (wr.heap[w.heap.size + 1 + 1]? = some (.cells #[.slice ra xs.length rc] 24 (0, 0))) ∧
      Hid (∀ x ∈ xs, RmG wr (fun b => w0.heap.size ≤ b) x.2.1 x.2.2 x.1.2 ∧ One x) ∧ Hid (Mod (fun i => i = w.heap.size + 1 + 1) w0 wr) ∧ Hid ((∀ b, blk ta = some b → w0.heap.size ≤ b) ∧ ∀ b, blk ra = some b → w0.heap.size ≤ b)) (fun _ iv _ _ _ _ _ _ _ _ => rs.length - (intOf iv).toNat)
    case atStart => exact ⟨0, [], none, 0, none, 0, rfl, rfl, Nat.zero_le _, Lib.hid rfl, Lib.hid (Mine.Own.nil _ _ _), Lib.hid (Mine.Own.nil _ _ _), HB1, Lib.hid (fun x hx => by cases hx), HM1', Lib.hid ⟨fun b hb => by simp at hb, fun b hb => by simp at hb⟩⟩
    case round =>
      obtain ⟨k, xs, ta, tc, ra, rc, rfl, rfl, hk, hgo, hto, hro, hbo, hrm, hM, hab⟩ := hrel
      have cA := cell_at (j := 0) (hM.out.at HBA.out (by omega)) rfl
      by_cases hlt : k < rs.length
      · have mIn : Mod (fun i => w.heap.size ≤ i) w wr := (HM0.out.mono (fun _ _ f => f.elim)).step hM.out (fun i hi e => by omega)
        have mI0 : Mod (fun _ => False) w wr := mIn.mono (fun i hi e => by omega)
        obtain ⟨⟨sk, bk⟩, hxk, hmem⟩ := xs_get HX.out hlt
        obtain ⟨b, o, rfl, x0, x1, x2⟩ := rd_cellR (HR.out.mod mI0 (fun _ _ => id)) hxk
        have hmk := HAL.out k hlt
        obtain ⟨f1, _⟩ := normal_law hmk (few_nm hmk)
        obtain ⟨st1, st2⟩ := tidy_step hlt hgo.out
        have HNM : Hid (∀ W, Mod (fun _ => False) wr W → Calls Tryz.prog 44 #[rmV rs[k] sk bk] W fun e w' => ∃ s' b', e = .returned (.tuple #[rmV (nmRm rs[k]) s' b', .int .i64 0]) ∧ RmF w' W.heap.size s' b' (nmRm rs[k]) ∧ Mod (fun _ => False) W w') := fun W m => by
          have h := refNormal_any rs[k] sk bk W (HSM.out.2 _ (List.getElem_mem hlt)) ((HXT.out _ hmem).1.mod0 (mI0.trans m)) ((HXT.out _ hmem).2.mod0 (mI0.trans m))
          unfold NormRes nmR0 at h
          rw [if_pos hmk, hmk] at h
          exact h
        have HRU : Hid (∀ W s' b', TsAt W s' (nmRm rs[k]).head.terms → LsAt W b' (nmRm rs[k]).body → Calls Tryz.prog 46 #[rmV (nmRm rs[k]) s' b'] W fun e w' => e = .returned (.string ⟨(rmT (nmRm rs[k])).toArray⟩) ∧ Mod (fun _ => False) W w') := fun W s' b' h1 h2 => refRule_any (nmRm rs[k]) (okRm f1) s' b' W h1 h2
        have HFI : Hid (∀ W, Calls Tryz.prog 45 #[.string ⟨(rmT (nmRm rs[k])).toArray⟩] W fun e w' => e = .returned (.tuple #[.string ⟨(fitT (rmT (nmRm rs[k]))).1.toArray⟩, .int .i64 (fitT (rmT (nmRm rs[k]))).2]) ∧ W = w') := fun W => fit_any ⟨(rmT (nmRm rs[k])).toArray⟩ W (by show (rmT (nmRm rs[k])).length < _; have := rmT_len (okRm f1); omega)
        have hsl : (∃ a n c, sk = .slice a n c) ∧ ∃ a n c, bk = .slice a n c := by
          obtain ⟨⟨sa, sc, e1, _⟩, ba, bc, _, e2, _⟩ := HXT.out _ hmem
          exact ⟨⟨_, _, _, e1⟩, _, _, _, e2⟩
        have HST1 := Lib.hid st1; have HST2 := Lib.hid st2
        unfold txW at HST2
        have MI0 := Lib.hid mI0
        clear st1 st2 f1 hmk hxk hmem mIn mI0
        generalize nmRm rs[k] = N at *
        unfold rmV at HNM HRU
        generalize rs[k].head.pred = pk at *
        obtain ⟨⟨ka, kn, kc, rfl⟩, la, ln, lc, rfl⟩ := hsl
        go_wp2_with fail
        refine (HNM.out _ (Mod.refl _ wr)).mono ?_
        rintro e w3 ⟨s1, b1, rfl, hF, hM3⟩
        have hF0 : RmG w3 (fun x => wr.heap.size ≤ x) s1 b1 N := hF
        have HF := Lib.hid hF0
        have m4 : Mod (fun _ => False) w3 (w3.alloc (.cells #[.string N.head.pred, s1, b1] 46)) := (Mod.refl _ w3).alloc _
        have HRC := Lib.hid (HRU.out _ s1 b1 (hF0.1.at.mod0 m4) (hF0.2.at.mod0 m4))
        have HB4 := Lib.hid (heap_alloc_new w3 (.cells #[.string N.head.pred, s1, b1] 46))
        have HON := Lib.hid (hF0.one ⟨(rmT N).toArray⟩)
        have HM4 := Lib.hid (hM3.trans m4)
        have HMa := Lib.hid m4
        obtain ⟨⟨na, nc, e1, _⟩, nb, nd, _, e2, _⟩ := hF0
        subst e1 e2
        clear hF m4 hM3 HNM HRU x0 x1 x2 cA
        go_wp2_with fail
        refine HRC.out.mono ?_
        rintro e w4 ⟨rfl, hM5⟩
        have HM5 := Lib.hid (HM4.out.trans hM5)
        have HM34 := Lib.hid (HMa.out.trans hM5)
        have hb4 := hM5.at HB4.out id
        have HB5 := Lib.hid hb4
        have y0 := cell_at (j := 0) hb4 rfl; have y1 := cell_at (j := 1) hb4 rfl; have y2 := cell_at (j := 2) hb4 rfl
        have cO := cell_at (j := 0) (HM5.out.at hbo.out id) rfl
        clear hb4 HRC HM4 HB4 HMa hM5
        go_wp2_with fail
        refine (HFI.out _).mono ?_
        rintro e w4' ⟨rfl, rfl⟩
        by_cases htl : 65536 < (rmT N).length
        · have hft : fitT (rmT N) = ([], 3) := by unfold fitT; rw [if_pos htl]
          have hx1 := (hM.out.step HM5.out (fun _ _ f => f.elim)).at HBR.out (by omega)
          have cR := cell_at (j := 0) hx1 rfl
          have fR := frozen_at (j := 0) hx1
          have HTE := Lib.hid (HTG.out.trans (HST1.out htl))
          have HX1 := Lib.hid hx1
          rw [hft]
          clear hx1 hft htl y0 y1 y2
          go_wp2_with fail
          have h2 := heap_setCell_at (j := 0) (.slice none 0 0) HX1.out
          have c2 := cell_at (j := 0) (u := .slice none 0 0) h2 rfl
          refine bodyPost_ret (v := .tuple #[.agg #[.slice none 0 0], .int .i64 3]) (by simp [results, Tryz.results9, go_sem, c2]) rfl ⟨.slice none 0 0, by rw [HTE.out]; rfl, by rw [HTE.out]; exact RsG.nil _ _, ?_⟩
          refine (MI0.out.trans HM5.out).setCell (fun h => ?_) _
          have : w.heap.size + 1 < w.heap.size := h
          omega
        · have hft : fitT (rmT N) = (rmT N, 0) := by unfold fitT; rw [if_neg htl]
          have HGO := Lib.hid (HST2.out htl)
          rw [hft]
          clear hft htl
          obtain ⟨S, hS⟩ : ∃ S : ByteArray, S = ⟨(rmT N).toArray⟩ := ⟨_, rfl⟩
          rw [← hS] at HGO HON ⊢
          clear hS
          simp only []
          have HT4 : Hid (Mine.Own w4 9 1 ta xs.length tc (txC xs)) := Lib.hid (hto.out.mod HM5.out (fun _ _ => id))
          have HR4 : Hid (Mine.Own w4 46 3 ra xs.length rc (rwC xs)) := Lib.hid (hro.out.mod HM5.out (fun _ _ => id))
          have HBO4 := Lib.hid (HM5.out.at hbo.out id)
          have hxl : xs.length ≤ 2 ^ 20 := by
            have h1 := tidyGo_len hgo.out
            have h2 := HLN.out
            rw [tx_len, List.length_take] at h1
            simp only [List.length_nil] at h1
            omega
          have HUQ := Lib.hid (fun k (h1 : k ≤ (tx xs).length) => lbT_first (s := S) (k := k) h1)
          have HTI := Lib.hid (hasT_iff (xs := tx xs) (s := S))
          have HT0 := Lib.hid (hasT_out (xs := tx xs) (s := S))
          have HOlt : Hid (w.heap.size + 1 + 1 < w4.heap.size) := (Array.getElem?_eq_some_iff.1 HBO4.out).1
          have HRM4 : Hid (∀ x ∈ xs, RmG w4 (fun b => w0.heap.size ≤ b) x.2.1 x.2.2 x.1.2 ∧ One x) := Lib.hid (fun x hx => ⟨(hrm.out x hx).1.step HM5.out (fun _ _ _ => id) (fun _ _ g => g), (hrm.out x hx).2⟩)
          have HNW4 : Hid (RmG w4 (fun b => w0.heap.size ≤ b) (.slice na N.head.terms.length nc) (.slice nb N.body.length nd) N) := Lib.hid (HF.out.step HM34.out (fun _ _ _ => id) (fun _ _ g => Nat.le_trans hM.out.size g))
          have HMW4 : Hid (Mod (fun i => i = w.heap.size + 1 + 1) w0 w4) := Lib.hid (hM.out.step HM5.out (fun _ _ f => f.elim))
          clear y0 y1 y2 cO hto hro hbo hrm HF HM34 HM5 hM MI0
          go_wp2_with fail
          go_loopw [12] (fun av w' => ∃ i : Nat, av = .int .i64 i ∧ i ≤ xs.length ∧ Hid (∀ j (hj : j < xs.length), j < i → tb xs[j].1.1 < tb S) ∧ Hid (w4 = w')) (fun av _ => xs.length - (intOf av).toNat)
          case atStart => exact ⟨0, rfl, Nat.zero_le _, Lib.hid (fun j _ h => absurd h (Nat.not_lt_zero _)), Lib.hid rfl⟩
          case round =>
            obtain ⟨i, rfl, hi, hless, hw4⟩ := hrel
            obtain rfl := hw4.out
            by_cases hin : i < xs.length
            · obtain ⟨g, rfl⟩ := HT4.out.atHead (by omega)
              have cT : w4.cell? ⟨g, i, none⟩ = some (.string xs[i].1.1) := by
                obtain ⟨g', o', e', hc⟩ := HT4.out.rd i (.string xs[i].1.1) (by unfold txC; rw [List.getElem?_map, List.getElem?_eq_getElem hin]; rfl)
                cases e'
                rw [Nat.zero_add] at hc
                exact hc
              by_cases hl : tb xs[i].1.1 < tb S
              · have hl1 := (lssT xs[i].1.1 S).trans (decide_eq_true hl)
                have HL2 : Hid (∀ j (hj : j < xs.length), j < i + 1 → tb xs[j].1.1 < tb S) := fun j hj h => by
                  rcases Nat.lt_or_ge j i with e | e
                  · exact hless.out j hj e
                  · obtain rfl : j = i := by omega
                    exact hl
                clear hl
                generalize xs[i].1.1 = xt at *
                go_wp2_with fail
                go_roundw
                case rel => exact ⟨i + 1, by go_num, hin, HL2, Lib.hid trivial⟩
                case measure => simp [intOf]; omega
              · have hl1 := (lssT xs[i].1.1 S).trans (decide_eq_false hl)
                have hL : i = lbT (tx xs) S := HUQ.out i (by simpa using hi) (fun j hj e => by rw [tx_get]; exact hless.out j (by simpa using hj) e) (fun hj => by rw [tx_get]; exact hl)
                have hq : hasT (tx xs) S = decide (xs[i].1.1 = S) := by
                  have h := HTI.out (by rw [← hL, tx_len]; exact hin)
                  rw [h]
                  congr 1
                  simp only [← hL, tx_get]
                have HL := Lib.hid hL
                have HQ := Lib.hid hq
                clear hL hq hl HUQ HTI HT0 hless
                by_cases heq : xs[i].1.1 = S
                · have hbe : (xs[i].1.1.toList == S.toList) = true := by rw [heq]; exact beq_self_eq_true _
                  have HQT : Hid (hasT (tx xs) S = true) := Lib.hid (HQ.out.trans (decide_eq_true heq))
                  clear heq HQ
                  generalize xs[i].1.1 = xt at *
                  go_wp2_with fail
                  exact ⟨⟨k + 1, xs, some ⟨g, 0, none⟩, tc, ra, rc, rfl, rfl, hlt, Lib.hid (by have h := HGO.out; unfold insT at h; rw [if_pos HQT.out] at h; exact h), HT4, HR4, HBO4, HRM4, HMW4, hab⟩, by simp [intOf]; omega⟩
                · have hbe : (xs[i].1.1.toList == S.toList) = false := beq_eq_false_iff_ne.2 (fun e => heq (tb_inj (by rw [ByteArray.toList_eq, ByteArray.toList_eq] at e; exact e)))
                  have HQF : Hid (hasT (tx xs) S = false) := Lib.hid (HQ.out.trans (decide_eq_false heq))
                  clear heq HQ
                  generalize xs[i].1.1 = xt at *
                  have hrt := own_room' HT4.out; have hrr := own_room' HR4.out
                  have hsA : ∀ W : World, (Instr.slice 93 (.slice (some (⟨g, 0, none⟩ : Addr)) xs.length tc) none (some (.int .i64 (i))) none).run Tryz.prog W = .ok (.slice (some (⟨g, 0, none⟩ : Addr)) (i) tc) W := hi_slice tiTx (some (⟨g, 0, none⟩ : Addr)) xs.length tc (i) (by omega)
                  have hsB : ∀ W : World, (Instr.slice 93 (.slice (some (⟨g, 0, none⟩ : Addr)) xs.length tc) (some (.int .i64 (i))) none none).run Tryz.prog W = .ok (.slice (subA (some (⟨g, 0, none⟩ : Addr)) tc (i) 1) (xs.length - (i)) (tc - (i))) W := fun W => by
                    have h := run_slice_lo' tiTx (some (⟨g, 0, none⟩ : Addr)) xs.length tc ((i : Nat) : Int) (by omega) (by omega) W
                    rw [show (((i : Nat) : Int)).toNat = i from Int.toNat_natCast _] at h
                    exact h
                  have hsC : ∀ W : World, (Instr.slice 22 (.slice ra xs.length rc) none (some (.int .i64 (i))) none).run Tryz.prog W = .ok (.slice ra (i) rc) W := hi_slice tiR ra xs.length rc (i) (by omega)
                  have hsD : ∀ W : World, (Instr.slice 22 (.slice ra xs.length rc) (some (.int .i64 (i))) none none).run Tryz.prog W = .ok (.slice (subA ra rc (i) 3) (xs.length - (i)) (rc - (i))) W := fun W => by
                    have h := run_slice_lo' tiR ra xs.length rc ((i : Nat) : Int) (by omega) (by omega) W
                    rw [show (((i : Nat) : Int)).toNat = i from Int.toNat_natCast _] at h
                    exact h
                  have HTB : Hid (∀ b, blk (some (⟨g, 0, none⟩ : Addr)) = some b → b < w4.heap.size) := HT4.out.lt
                  have HRB : Hid (∀ b, blk ra = some b → b < w4.heap.size) := HR4.out.lt
                  have HLT : Hid ((txC xs).length = xs.length) := txC_length xs
                  have HLR : Hid ((rwC xs).length = xs.length * 3) := rwC_length xs
                  have HT1 := Lib.hid (txC_one xs); have HR1 := Lib.hid (rwC_one xs)
                  have HTT := Lib.hid HT4.out.rd; have HRR := Lib.hid HR4.out.rd
                  have hl0 : i ≤ xs.length := by omega
                  go_wp2_with (first
                    | (at_builtin; refine wpL_append0 (m := i) (news := (txC xs).take (i)) rfl (.tmp 73) (.tmp 76) 93 93 rfl tiTx rfl rfl (Src.ofRd tiTx.ht (i) tc (HTT.out.take (i)) (by rw [List.length_take, HLT.out]; omega) (fun u hu => HT1.out u (List.mem_of_mem_take hu))) (by omega) (by unfold maxLen; omega) ?_; intro l1 c1 v1 hO1 hM1 hF1 _
                       have HO1 := Lib.hid hO1
                       have HK1 : Hid (Mod (fun j => w4.heap.size ≤ j) w4 v1) := Lib.hid (hM1.mono (fun _ _ f => f.elim))
                       have HF1 := Lib.hid hF1
                       have HTT1 := Lib.hid (HTT.out.mod hM1 (fun _ _ => id))
                       clear hO1 hM1 hF1)
                    | (at_builtin; refine wpL_appendN (us := [.string S]) rfl (.tmp 78) (.tmp 80) 93 rfl tiTx rfl HO1.out rfl rfl rfl (by omega) (by unfold maxLen; omega) ?_; intro l2 c2 v2 hO2 hG2 _
                       have HO2 := Lib.hid hO2
                       have HK2 : Hid (Mod (fun j => w4.heap.size ≤ j) w4 v2) := Lib.hid (HK1.out.step hG2.mod (fun j _ e => HF1.out j e))
                       have HF2 : Hid (∀ b, blk l2 = some b → w4.heap.size ≤ b) := fun b hb => by
                         rcases hG2.pos with e | ⟨g, e, hg⟩
                         · exact HF1.out b (by rw [← e]; exact hb)
                         · have h1 := HK1.out.size
                           rw [e] at hb; cases hb; omega
                       have HTT2 := Lib.hid (HTT.out.mod HK2.out (fun b hb h => by have := HTB.out b hb; omega))
                       clear hO2 hG2)
                    | (at_builtin; refine wpL_append (m := xs.length - (i)) (news := (txC xs).drop ((i) * 1)) rfl (.tmp 82) (.tmp 85) 93 93 rfl tiTx rfl HO2.out rfl (Src.ofRd tiTx.ht (xs.length - (i)) (tc - (i)) (subA_rd HTT2.out (fun h => by rw [HLT.out]; omega)) (by rw [List.length_drop, HLT.out]; omega) (fun u hu => HT1.out u (List.mem_of_mem_drop hu))) (by omega) (by unfold maxLen; omega) ?_; intro l3 c3 v3 hO3 hG3 _
                       have HO3 := Lib.hid hO3
                       have HK3 : Hid (Mod (fun j => w4.heap.size ≤ j) w4 v3) := Lib.hid (HK2.out.step hG3.mod (fun j _ e => HF2.out j e))
                       have HF3 : Hid (∀ b, blk l3 = some b → w4.heap.size ≤ b) := fun b hb => by
                         rcases hG3.pos with e | ⟨g, e, hg⟩
                         · exact HF2.out b (by rw [← e]; exact hb)
                         · have h1 := HK2.out.size
                           rw [e] at hb; cases hb; omega
                       have HRR3 := Lib.hid (HRR.out.mod HK3.out (fun b hb h => by have := HRB.out b hb; omega))
                       have cO3 := cell_at (j := 0) (HK3.out.at HBO4.out (by have := HOlt.out; omega)) rfl
                       clear hO3 hG3)
                    | (at_builtin; refine wpL_append0 (m := i) (news := (rwC xs).take ((i) * 3)) rfl (.tmp 88) (.tmp 92) 22 22 rfl tiR rfl rfl (Src.ofRd tiR.ht (i) rc (HRR3.out.take ((i) * 3)) (by rw [List.length_take, HLR.out]; omega) (fun u hu => HR1.out u (List.mem_of_mem_take hu))) (by omega) (by unfold maxLen; omega) ?_; intro r1 d1 v4 hO4 hM4 hF4 _
                       have HO4 := Lib.hid hO4
                       have HK4 : Hid (Mod (fun j => w4.heap.size ≤ j) w4 v4) := Lib.hid (HK3.out.step hM4 (fun _ _ f => f.elim))
                       have HL4 := Lib.hid (HO3.out.mod hM4 (fun _ _ => id))
                       have HF4 : Hid (∀ b, blk r1 = some b → w4.heap.size ≤ b) := fun b hb => Nat.le_trans HK3.out.size (hF4 b hb)
                       have HF4' : Hid (∀ b, blk r1 = some b → ¬ blk l3 = some b) := fun b hb h => by
                         have h1 := hF4 b hb
                         have h2 := HO3.out.lt b h
                         omega
                       have hb5 := HK4.out.at HB5.out (by have := (Array.getElem?_eq_some_iff.1 HB5.out).1; omega)
                       have y0 := cell_at (j := 0) hb5 rfl; have y1 := cell_at (j := 1) hb5 rfl; have y2 := cell_at (j := 2) hb5 rfl
                       clear hO4 hM4 hF4 cO3 hb5)
                    | (at_builtin; refine wpL_appendN (us := [_, _, _]) rfl (.tmp 94) (.tmp 96) 22 rfl tiR rfl HO4.out rfl rfl rfl (by omega) (by unfold maxLen; omega) ?_; intro r2 d2 v5 hO5 hG5 _
                       have HO5 := Lib.hid hO5
                       have HK5 : Hid (Mod (fun j => w4.heap.size ≤ j) w4 v5) := Lib.hid (HK4.out.step hG5.mod (fun j _ e => HF4.out j e))
                       have HL5 := Lib.hid (HL4.out.mod hG5.mod (fun b hb e => HF4'.out b e hb))
                       have HF5 : Hid (∀ b, blk r2 = some b → w4.heap.size ≤ b ∧ ¬ blk l3 = some b) := fun b hb => by
                         rcases hG5.pos with e | ⟨g, e, hg⟩
                         · rw [e] at hb; exact ⟨HF4.out b hb, HF4'.out b hb⟩
                         · have h1 := HK4.out.size
                           rw [e] at hb; cases hb
                           exact ⟨by omega, fun h => by have h2 := HL4.out.lt _ h; omega⟩
                       have HRR5 := Lib.hid (HRR.out.mod HK5.out (fun b hb h => by have := HRB.out b hb; omega))
                       have cO5 := cell_at (j := 0) (HK5.out.at HBO4.out (by have := HOlt.out; omega)) rfl
                       clear hO5 hG5 y0 y1 y2)
                    | (at_builtin; refine wpL_append (m := xs.length - (i)) (news := (rwC xs).drop ((i) * 3)) rfl (.tmp 98) (.tmp 102) 22 22 rfl tiR rfl HO5.out rfl (Src.ofRd tiR.ht (xs.length - (i)) (rc - (i)) (subA_rd HRR5.out (fun h => by rw [HLR.out]; omega)) (by rw [List.length_drop, HLR.out]; omega) (fun u hu => HR1.out u (List.mem_of_mem_drop hu))) (by omega) (by unfold maxLen; omega) ?_; intro r3 d3 v6 hO6 hG6 _
                       have HO6 := Lib.hid hO6
                       have HK6 : Hid (Mod (fun j => w4.heap.size ≤ j) w4 v6) := Lib.hid (HK5.out.step hG6.mod (fun j _ e => (HF5.out j e).1))
                       have HL6 := Lib.hid (HL5.out.mod hG6.mod (fun b hb e => (HF5.out b e).2 hb))
                       have HF6 : Hid (∀ b, blk r3 = some b → w4.heap.size ≤ b) := fun b hb => by
                         rcases hG6.pos with e | ⟨g, e, hg⟩
                         · exact (HF5.out b (by rw [← e]; exact hb)).1
                         · have h1 := HK5.out.size
                           rw [e] at hb; cases hb; omega
                       have hb6 := HK6.out.at HBO4.out (by have := HOlt.out; omega)
                       have HB6 := Lib.hid hb6
                       have cO6 := cell_at (j := 0) hb6 rfl
                       have fO6 := frozen_at (j := 0) hb6
                       clear hO6 hG6 hb6 cO5))
                  have hIV : insV xs ((S, N), .slice na N.head.terms.length nc, .slice nb N.body.length nd) = xs.take (i) ++ ((S, N), .slice na N.head.terms.length nc, .slice nb N.body.length nd) :: xs.drop (i) := by
                    unfold insV
                    simp only
                    rw [HQF.out, ← HL.out]; rfl
                  have hlen2 : (insV xs ((S, N), .slice na N.head.terms.length nc, .slice nb N.body.length nd)).length = i + 1 + (xs.length - (i)) := by
                    rw [hIV, List.length_append, List.length_cons, List.length_take, List.length_drop]; omega
                  have htc2 : (txC xs).take (i) ++ [.string S] ++ (txC xs).drop ((i) * 1) = txC (insV xs ((S, N), .slice na N.head.terms.length nc, .slice nb N.body.length nd)) := by
                    rw [hIV, Nat.mul_one, (txC_td xs (i)).1, (txC_td xs (i)).2]
                    unfold txC
                    rw [List.map_append, List.map_cons, List.append_assoc]; rfl
                  have hrc2 : (rwC xs).take ((i) * 3) ++ [.string N.head.pred, .slice na N.head.terms.length nc, .slice nb N.body.length nd] ++ (rwC xs).drop ((i) * 3) = rwC (insV xs ((S, N), .slice na N.head.terms.length nc, .slice nb N.body.length nd)) := by
                    rw [hIV, (rwC_td xs (i)).1, (rwC_td xs (i)).2, rwC_app, List.append_assoc]; rfl
                  have hTX := tx_ins xs ((S, N), .slice na N.head.terms.length nc, .slice nb N.body.length nd)
                  have hmem := fun x (hx : x ∈ insV xs ((S, N), .slice na N.head.terms.length nc, .slice nb N.body.length nd)) => insV_mem hx
                  have hO6 := HL6.out
                  have hR6 := HO6.out
                  rw [htc2] at hO6
                  rw [hrc2] at hR6
                  rw [← hlen2] at hO6 hR6 ⊢
                  generalize insV xs ((S, N), .slice na N.head.terms.length nc, .slice nb N.body.length nd) = ys at *
                  have mO : Mod (fun j => j = w.heap.size + 1 + 1) v6 (v6.setCell ⟨w.heap.size + 1 + 1, 0, none⟩ (.slice r3 ys.length d3)) := (Mod.refl (fun j => j = w.heap.size + 1 + 1) v6).setCell (p := ⟨w.heap.size + 1 + 1, 0, none⟩) (fun _ => rfl) _
                  have hOl := HOlt.out; have hz0 := HZ0.out; have hw04 := HMW4.out.size
                  have hst : ∀ s b r, RmG w4 (fun b => w0.heap.size ≤ b) s b r → RmG (v6.setCell ⟨w.heap.size + 1 + 1, 0, none⟩ (.slice r3 ys.length d3)) (fun b => w0.heap.size ≤ b) s b r := fun s b r g =>
                    (RmG.step (G' := fun b => w0.heap.size ≤ b) g HK6.out (fun b hb _ e => by omega) (fun _ _ g => g)).step mO (fun b _ g e => by omega) (fun _ _ g => g)
                  refine ⟨⟨k + 1, ys, l3, c3, r3, d3, rfl, rfl, hlt, Lib.hid (by rw [hTX]; exact HGO.out), Lib.hid (hO6.mod mO (fun b hb e => by have := HF3.out b hb; omega)), Lib.hid (hR6.mod mO (fun b hb e => by have := HF6.out b hb; omega)), Lib.hid (heap_setCell_at (j := 0) (.slice r3 ys.length d3) HB6.out), Lib.hid (fun x hx => ?_), Lib.hid ((HMW4.out.step HK6.out (fun j hj e => by omega)).step mO (fun j hj e => e)), Lib.hid ⟨fun b hb => Nat.le_trans hw04 (HF3.out b hb), fun b hb => Nat.le_trans hw04 (HF6.out b hb)⟩⟩, by simp [intOf]; omega⟩
                  rcases hmem x hx with rfl | hx
                  · exact ⟨hst _ _ _ HNW4.out, HON.out⟩
                  · exact ⟨hst _ _ _ (HRM4.out x hx).1, (HRM4.out x hx).2⟩
            · have hL : i = lbT (tx xs) S := HUQ.out i (by simpa using hi) (fun j hj e => by rw [tx_get]; exact hless.out j (by simpa using hj) e) (fun hj => absurd hj (by simpa using hin))
              have HL := Lib.hid hL
              have HQF : Hid (hasT (tx xs) S = false) := Lib.hid (HT0.out (by rw [← hL, tx_len]; exact hin))
              clear hL HUQ HTI HT0 hless
              have hrt := own_room' HT4.out; have hrr := own_room' HR4.out
              have hsA : ∀ W : World, (Instr.slice 93 (.slice ta xs.length tc) none (some (.int .i64 (i))) none).run Tryz.prog W = .ok (.slice ta (i) tc) W := hi_slice tiTx ta xs.length tc (i) (by omega)
              have hsB : ∀ W : World, (Instr.slice 93 (.slice ta xs.length tc) (some (.int .i64 (i))) none none).run Tryz.prog W = .ok (.slice (subA ta tc (i) 1) (xs.length - (i)) (tc - (i))) W := fun W => by
                have h := run_slice_lo' tiTx ta xs.length tc ((i : Nat) : Int) (by omega) (by omega) W
                rw [show (((i : Nat) : Int)).toNat = i from Int.toNat_natCast _] at h
                exact h
              have hsC : ∀ W : World, (Instr.slice 22 (.slice ra xs.length rc) none (some (.int .i64 (i))) none).run Tryz.prog W = .ok (.slice ra (i) rc) W := hi_slice tiR ra xs.length rc (i) (by omega)
              have hsD : ∀ W : World, (Instr.slice 22 (.slice ra xs.length rc) (some (.int .i64 (i))) none none).run Tryz.prog W = .ok (.slice (subA ra rc (i) 3) (xs.length - (i)) (rc - (i))) W := fun W => by
                have h := run_slice_lo' tiR ra xs.length rc ((i : Nat) : Int) (by omega) (by omega) W
                rw [show (((i : Nat) : Int)).toNat = i from Int.toNat_natCast _] at h
                exact h
              have HTB : Hid (∀ b, blk ta = some b → b < w4.heap.size) := HT4.out.lt
              have HRB : Hid (∀ b, blk ra = some b → b < w4.heap.size) := HR4.out.lt
              have HLT : Hid ((txC xs).length = xs.length) := txC_length xs
              have HLR : Hid ((rwC xs).length = xs.length * 3) := rwC_length xs
              have HT1 := Lib.hid (txC_one xs); have HR1 := Lib.hid (rwC_one xs)
              have HTT := Lib.hid HT4.out.rd; have HRR := Lib.hid HR4.out.rd
              have hl0 : i ≤ xs.length := by omega
              go_wp2_with (first
                | (at_builtin; refine wpL_append0 (m := i) (news := (txC xs).take (i)) rfl (.tmp 73) (.tmp 76) 93 93 rfl tiTx rfl rfl (Src.ofRd tiTx.ht (i) tc (HTT.out.take (i)) (by rw [List.length_take, HLT.out]; omega) (fun u hu => HT1.out u (List.mem_of_mem_take hu))) (by omega) (by unfold maxLen; omega) ?_; intro l1 c1 v1 hO1 hM1 hF1 _
                   have HO1 := Lib.hid hO1
                   have HK1 : Hid (Mod (fun j => w4.heap.size ≤ j) w4 v1) := Lib.hid (hM1.mono (fun _ _ f => f.elim))
                   have HF1 := Lib.hid hF1
                   have HTT1 := Lib.hid (HTT.out.mod hM1 (fun _ _ => id))
                   clear hO1 hM1 hF1)
                | (at_builtin; refine wpL_appendN (us := [.string S]) rfl (.tmp 78) (.tmp 80) 93 rfl tiTx rfl HO1.out rfl rfl rfl (by omega) (by unfold maxLen; omega) ?_; intro l2 c2 v2 hO2 hG2 _
                   have HO2 := Lib.hid hO2
                   have HK2 : Hid (Mod (fun j => w4.heap.size ≤ j) w4 v2) := Lib.hid (HK1.out.step hG2.mod (fun j _ e => HF1.out j e))
                   have HF2 : Hid (∀ b, blk l2 = some b → w4.heap.size ≤ b) := fun b hb => by
                     rcases hG2.pos with e | ⟨g, e, hg⟩
                     · exact HF1.out b (by rw [← e]; exact hb)
                     · have h1 := HK1.out.size
                       rw [e] at hb; cases hb; omega
                   have HTT2 := Lib.hid (HTT.out.mod HK2.out (fun b hb h => by have := HTB.out b hb; omega))
                   clear hO2 hG2)
                | (at_builtin; refine wpL_append (m := xs.length - (i)) (news := (txC xs).drop ((i) * 1)) rfl (.tmp 82) (.tmp 85) 93 93 rfl tiTx rfl HO2.out rfl (Src.ofRd tiTx.ht (xs.length - (i)) (tc - (i)) (subA_rd HTT2.out (fun h => by rw [HLT.out]; omega)) (by rw [List.length_drop, HLT.out]; omega) (fun u hu => HT1.out u (List.mem_of_mem_drop hu))) (by omega) (by unfold maxLen; omega) ?_; intro l3 c3 v3 hO3 hG3 _
                   have HO3 := Lib.hid hO3
                   have HK3 : Hid (Mod (fun j => w4.heap.size ≤ j) w4 v3) := Lib.hid (HK2.out.step hG3.mod (fun j _ e => HF2.out j e))
                   have HF3 : Hid (∀ b, blk l3 = some b → w4.heap.size ≤ b) := fun b hb => by
                     rcases hG3.pos with e | ⟨g, e, hg⟩
                     · exact HF2.out b (by rw [← e]; exact hb)
                     · have h1 := HK2.out.size
                       rw [e] at hb; cases hb; omega
                   have HRR3 := Lib.hid (HRR.out.mod HK3.out (fun b hb h => by have := HRB.out b hb; omega))
                   have cO3 := cell_at (j := 0) (HK3.out.at HBO4.out (by have := HOlt.out; omega)) rfl
                   clear hO3 hG3)
                | (at_builtin; refine wpL_append0 (m := i) (news := (rwC xs).take ((i) * 3)) rfl (.tmp 88) (.tmp 92) 22 22 rfl tiR rfl rfl (Src.ofRd tiR.ht (i) rc (HRR3.out.take ((i) * 3)) (by rw [List.length_take, HLR.out]; omega) (fun u hu => HR1.out u (List.mem_of_mem_take hu))) (by omega) (by unfold maxLen; omega) ?_; intro r1 d1 v4 hO4 hM4 hF4 _
                   have HO4 := Lib.hid hO4
                   have HK4 : Hid (Mod (fun j => w4.heap.size ≤ j) w4 v4) := Lib.hid (HK3.out.step hM4 (fun _ _ f => f.elim))
                   have HL4 := Lib.hid (HO3.out.mod hM4 (fun _ _ => id))
                   have HF4 : Hid (∀ b, blk r1 = some b → w4.heap.size ≤ b) := fun b hb => Nat.le_trans HK3.out.size (hF4 b hb)
                   have HF4' : Hid (∀ b, blk r1 = some b → ¬ blk l3 = some b) := fun b hb h => by
                     have h1 := hF4 b hb
                     have h2 := HO3.out.lt b h
                     omega
                   have hb5 := HK4.out.at HB5.out (by have := (Array.getElem?_eq_some_iff.1 HB5.out).1; omega)
                   have y0 := cell_at (j := 0) hb5 rfl; have y1 := cell_at (j := 1) hb5 rfl; have y2 := cell_at (j := 2) hb5 rfl
                   clear hO4 hM4 hF4 cO3 hb5)
                | (at_builtin; refine wpL_appendN (us := [_, _, _]) rfl (.tmp 94) (.tmp 96) 22 rfl tiR rfl HO4.out rfl rfl rfl (by omega) (by unfold maxLen; omega) ?_; intro r2 d2 v5 hO5 hG5 _
                   have HO5 := Lib.hid hO5
                   have HK5 : Hid (Mod (fun j => w4.heap.size ≤ j) w4 v5) := Lib.hid (HK4.out.step hG5.mod (fun j _ e => HF4.out j e))
                   have HL5 := Lib.hid (HL4.out.mod hG5.mod (fun b hb e => HF4'.out b e hb))
                   have HF5 : Hid (∀ b, blk r2 = some b → w4.heap.size ≤ b ∧ ¬ blk l3 = some b) := fun b hb => by
                     rcases hG5.pos with e | ⟨g, e, hg⟩
                     · rw [e] at hb; exact ⟨HF4.out b hb, HF4'.out b hb⟩
                     · have h1 := HK4.out.size
                       rw [e] at hb; cases hb
                       exact ⟨by omega, fun h => by have h2 := HL4.out.lt _ h; omega⟩
                   have HRR5 := Lib.hid (HRR.out.mod HK5.out (fun b hb h => by have := HRB.out b hb; omega))
                   have cO5 := cell_at (j := 0) (HK5.out.at HBO4.out (by have := HOlt.out; omega)) rfl
                   clear hO5 hG5 y0 y1 y2)
                | (at_builtin; refine wpL_append (m := xs.length - (i)) (news := (rwC xs).drop ((i) * 3)) rfl (.tmp 98) (.tmp 102) 22 22 rfl tiR rfl HO5.out rfl (Src.ofRd tiR.ht (xs.length - (i)) (rc - (i)) (subA_rd HRR5.out (fun h => by rw [HLR.out]; omega)) (by rw [List.length_drop, HLR.out]; omega) (fun u hu => HR1.out u (List.mem_of_mem_drop hu))) (by omega) (by unfold maxLen; omega) ?_; intro r3 d3 v6 hO6 hG6 _
                   have HO6 := Lib.hid hO6
                   have HK6 : Hid (Mod (fun j => w4.heap.size ≤ j) w4 v6) := Lib.hid (HK5.out.step hG6.mod (fun j _ e => (HF5.out j e).1))
                   have HL6 := Lib.hid (HL5.out.mod hG6.mod (fun b hb e => (HF5.out b e).2 hb))
                   have HF6 : Hid (∀ b, blk r3 = some b → w4.heap.size ≤ b) := fun b hb => by
                     rcases hG6.pos with e | ⟨g, e, hg⟩
                     · exact (HF5.out b (by rw [← e]; exact hb)).1
                     · have h1 := HK5.out.size
                       rw [e] at hb; cases hb; omega
                   have hb6 := HK6.out.at HBO4.out (by have := HOlt.out; omega)
                   have HB6 := Lib.hid hb6
                   have cO6 := cell_at (j := 0) hb6 rfl
                   have fO6 := frozen_at (j := 0) hb6
                   clear hO6 hG6 hb6 cO5))
              have hIV : insV xs ((S, N), .slice na N.head.terms.length nc, .slice nb N.body.length nd) = xs.take (i) ++ ((S, N), .slice na N.head.terms.length nc, .slice nb N.body.length nd) :: xs.drop (i) := by
                unfold insV
                simp only
                rw [HQF.out, ← HL.out]; rfl
              have hlen2 : (insV xs ((S, N), .slice na N.head.terms.length nc, .slice nb N.body.length nd)).length = i + 1 + (xs.length - (i)) := by
                rw [hIV, List.length_append, List.length_cons, List.length_take, List.length_drop]; omega
              have htc2 : (txC xs).take (i) ++ [.string S] ++ (txC xs).drop ((i) * 1) = txC (insV xs ((S, N), .slice na N.head.terms.length nc, .slice nb N.body.length nd)) := by
                rw [hIV, Nat.mul_one, (txC_td xs (i)).1, (txC_td xs (i)).2]
                unfold txC
                rw [List.map_append, List.map_cons, List.append_assoc]; rfl
              have hrc2 : (rwC xs).take ((i) * 3) ++ [.string N.head.pred, .slice na N.head.terms.length nc, .slice nb N.body.length nd] ++ (rwC xs).drop ((i) * 3) = rwC (insV xs ((S, N), .slice na N.head.terms.length nc, .slice nb N.body.length nd)) := by
                rw [hIV, (rwC_td xs (i)).1, (rwC_td xs (i)).2, rwC_app, List.append_assoc]; rfl
              have hTX := tx_ins xs ((S, N), .slice na N.head.terms.length nc, .slice nb N.body.length nd)
              have hmem := fun x (hx : x ∈ insV xs ((S, N), .slice na N.head.terms.length nc, .slice nb N.body.length nd)) => insV_mem hx
              have hO6 := HL6.out
              have hR6 := HO6.out
              rw [htc2] at hO6
              rw [hrc2] at hR6
              rw [← hlen2] at hO6 hR6 ⊢
              generalize insV xs ((S, N), .slice na N.head.terms.length nc, .slice nb N.body.length nd) = ys at *
              have mO : Mod (fun j => j = w.heap.size + 1 + 1) v6 (v6.setCell ⟨w.heap.size + 1 + 1, 0, none⟩ (.slice r3 ys.length d3)) := (Mod.refl (fun j => j = w.heap.size + 1 + 1) v6).setCell (p := ⟨w.heap.size + 1 + 1, 0, none⟩) (fun _ => rfl) _
              have hOl := HOlt.out; have hz0 := HZ0.out; have hw04 := HMW4.out.size
              have hst : ∀ s b r, RmG w4 (fun b => w0.heap.size ≤ b) s b r → RmG (v6.setCell ⟨w.heap.size + 1 + 1, 0, none⟩ (.slice r3 ys.length d3)) (fun b => w0.heap.size ≤ b) s b r := fun s b r g =>
                (RmG.step (G' := fun b => w0.heap.size ≤ b) g HK6.out (fun b hb _ e => by omega) (fun _ _ g => g)).step mO (fun b _ g e => by omega) (fun _ _ g => g)
              refine ⟨⟨k + 1, ys, l3, c3, r3, d3, rfl, rfl, hlt, Lib.hid (by rw [hTX]; exact HGO.out), Lib.hid (hO6.mod mO (fun b hb e => by have := HF3.out b hb; omega)), Lib.hid (hR6.mod mO (fun b hb e => by have := HF6.out b hb; omega)), Lib.hid (heap_setCell_at (j := 0) (.slice r3 ys.length d3) HB6.out), Lib.hid (fun x hx => ?_), Lib.hid ((HMW4.out.step HK6.out (fun j hj e => by omega)).step mO (fun j hj e => e)), Lib.hid ⟨fun b hb => Nat.le_trans hw04 (HF3.out b hb), fun b hb => Nat.le_trans hw04 (HF6.out b hb)⟩⟩, by simp [intOf]; omega⟩
              rcases hmem x hx with rfl | hx
              · exact ⟨hst _ _ _ HNW4.out, HON.out⟩
              · exact ⟨hst _ _ _ (HRM4.out x hx).1, (HRM4.out x hx).2⟩
      · obtain rfl : k = rs.length := by omega
        have HTL : Hid (tidyL rs = .ok (tx xs)) := by
          have h1 := hgo.out
          rw [List.take_length] at h1
          exact Lib.hid (HTG.out.trans h1)
        have hx1 := hM.out.at HBR.out (by omega)
        have cR := cell_at (j := 0) hx1 rfl
        have fR := frozen_at (j := 0) hx1
        have cO := cell_at (j := 0) hbo.out rfl
        have HX1 := Lib.hid hx1
        clear hx1
        go_wp2_with fail
        have h2 := heap_setCell_at (j := 0) (.slice ra xs.length rc) HX1.out
        have c2 := cell_at (j := 0) (u := .slice ra xs.length rc) h2 rfl
        have hz0 := HZ0.out
        have mR : Mod (fun j => j = w.heap.size + 1) wr (wr.setCell ⟨w.heap.size + 1, 0, none⟩ (.slice ra xs.length rc)) := (Mod.refl (fun j => j = w.heap.size + 1) wr).setCell (p := ⟨w.heap.size + 1, 0, none⟩) (fun _ => rfl) _
        refine bodyPost_ret (v := .tuple #[.agg #[.slice ra xs.length rc], .int .i64 0]) (by simp [results, Tryz.results9, go_sem, c2]) rfl ⟨.slice ra xs.length rc, by rw [HTL.out]; rfl, ?_, ?_⟩
        · rw [HTL.out]
          have el : tidR (.ok (tx xs)) = xs.map (·.1.2) := by
            show (tx xs).map (·.2) = _
            unfold tx; rw [List.map_map]; rfl
          rw [el]
          refine ⟨ra, rc, xs.map rV, by rw [List.length_map], by rw [List.map_map]; rfl, (hro.out.rd.mod mR (fun b hb e => by have := hab.out.2 b hb; omega)), fun b hb => by have := hab.out.2 b hb; omega, fun x hx => ?_⟩
          obtain ⟨y, hy, rfl⟩ := List.mem_map.1 hx
          obtain ⟨h7, ⟨ya, yn, yc, e1⟩, za, zn, zc, e2⟩ := hrm.out y hy
          have h8 := RmG.step (G' := fun b => w.heap.size ≤ b) h7 mR (fun b _ g e => by omega) (fun b _ g => by omega)
          unfold rV sS
          rw [e1, e2] at h8 ⊢
          exact h8
        · exact ((HM0.out.mono (T := fun j => w.heap.size ≤ j) (fun _ _ f => f.elim)).step hM.out (fun i hi e => by omega)).step mR (fun i hi e => by omega) |>.mono (fun i hi e => by omega)
  · have hb : ((mayPm rs) != 0) = true := by simpa using hmay
    have hx1 := hM1.at HBR.out id
    have cR := cell_at (j := 0) hx1 rfl
    have fR := frozen_at (j := 0) hx1
    have cO := cell_at (j := 0) (hM1.at HBO.out id) rfl
    have hTE : tidyL rs = .error (mayPm rs) := by unfold tidyL; rw [if_pos hmay]
    have HTE := Lib.hid hTE
    have HX1 := Lib.hid hx1
    clear hmay hM1 hTE hx1
    generalize mayPm rs = mv at *
    go_wp2_with fail
    have h2 := heap_setCell_at (j := 0) (.slice none 0 0) HX1.out
    have c2 := cell_at (j := 0) (u := .slice none 0 0) h2 rfl
    refine bodyPost_ret (v := .tuple #[.agg #[.slice none 0 0], .int .i64 mv]) (by simp [results, Tryz.results9, go_sem, c2]) rfl ⟨.slice none 0 0, by rw [HTE.out]; rfl, by rw [HTE.out]; exact RsG.nil _ _, ?_⟩
    refine (HM0.out.trans HM1.out).setCell (fun h => ?_) _
    have : w.heap.size + 1 < w.heap.size := h
    omega
end Go.Proofs.YteecbbnpgmceiaaGreatDoor
