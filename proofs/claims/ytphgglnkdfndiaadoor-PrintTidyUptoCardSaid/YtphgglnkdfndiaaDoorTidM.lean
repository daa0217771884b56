/-
  among: a rule that is alike to one of them is among them.
-/
import Derived.Test.YtphgglnkdfndiaaDoorTidF
import Derived.Test.YtphgglnkdfndiaaDoorRenW4
import Derived.Test.YtphgglnkdfndiaaDoorAlike
namespace Go.Proofs.YtphgglnkdfndiaaDoor
open Go Go.RowKit Go.Mine
set_option linter.unusedVariables false
set_option maxHeartbeats 4000000
set_option maxRecDepth 100000

theorem among_any (ps : List Rm) (v0 : Value) (r : Rm) (s b : Value) (w : World) (hp : RsAt w v0 ps) (hps : SmallPm ps) (ht : TsAt w s r.head.terms) (hl : LsAt w b r.body) (hrs : SmallRm r) (hpw : Pow w) (hex : ∃ p ∈ ps, Al p r) :
    Calls Tryd.prog 14 #[.agg #[v0], rmV r s b] w fun e w' => e = .returned (.bool true) ∧ Mod (fun _ => False) w w' := by
  obtain ⟨ad, c, xv, rfl, hx, hrx, hxt⟩ := hp
  have HX := Lib.hid hx; have HR := Lib.hid hrx; have HXT := Lib.hid hxt; have HSM := Lib.hid hps; have HPW := Lib.hid hpw
  have HT := Lib.hid ht; have HL := Lib.hid hl; have HRS := Lib.hid hrs; have HEX := Lib.hid hex
  have hlen := hps.1
  obtain ⟨sa, sc, rfl, _⟩ := ht
  obtain ⟨ba, bc, _, rfl, _⟩ := hl
  clear hx hrx hxt hps hpw hrs hex
  have hm0 : Mod (fun _ => False) w ((w.alloc (.cells #[.slice ad ps.length c] 24)).alloc (.cells #[.string r.head.pred, .slice sa r.head.terms.length sc, .slice ba r.body.length bc] 38)) := ((Mod.refl _ w).alloc _).alloc _
  have hbA := heap_two1 w (.cells #[.slice ad ps.length c] 24) (.cells #[.string r.head.pred, .slice sa r.head.terms.length sc, .slice ba r.body.length bc] 38)
  have hbR := heap_two2 w (.cells #[.slice ad ps.length c] 24) (.cells #[.string r.head.pred, .slice sa r.head.terms.length sc, .slice ba r.body.length bc] 38)
  have HBA := Lib.hid hbA; have HBR := Lib.hid hbR; have HM0 := Lib.hid hm0
  clear hm0 hbA hbR
  unfold rmV
  go_enter Tryd.func14, Tryd.ntmps14
  go_wp2_with fail
  generalize ((w.alloc (.cells #[.slice ad ps.length c] 24)).alloc (.cells #[.string r.head.pred, .slice sa r.head.terms.length sc, .slice ba r.body.length bc] 38)) = w0 at *
  go_loopw [5] (fun iv wr => ∃ k : Nat, iv = .int .i64 k ∧ k ≤ ps.length ∧ Hid (∀ j (hj : j < ps.length), j < k → ¬ Al ps[j] r) ∧ Hid (Mod (fun _ => False) w0 wr)) (fun iv _ => ps.length - (intOf iv).toNat)
  case atStart => exact ⟨0, rfl, Nat.zero_le _, Lib.hid (fun j _ h => absurd h (Nat.not_lt_zero _)), Lib.hid (Mod.refl _ _)⟩
  case round =>
    obtain ⟨k, rfl, hk, hno, hM⟩ := hrel
    have hbA := hM.out.at HBA.out id
    have hbR := hM.out.at HBR.out id
    have cA := cell_at (j := 0) hbA rfl
    have r0 := cell_at (j := 0) hbR rfl; have r1 := cell_at (j := 1) hbR rfl; have r2 := cell_at (j := 2) hbR rfl
    clear hbA hbR
    by_cases hlt : k < ps.length
    · have HMW : Hid (Mod (fun _ => False) w wr) := Lib.hid (HM0.out.trans hM.out)
      obtain ⟨⟨sk, bk⟩, hxk, hmem⟩ := xs_get HX.out hlt
      obtain ⟨bb, o, rfl, x0, x1, x2⟩ := rd_cellR (HR.out.mod HMW.out (fun _ _ => id)) hxk
      have hsm := HSM.out.2 _ (List.getElem_mem hlt)
      have HO1 := Lib.hid (fun W (m : Mod (fun _ => False) wr W) => own9 ps[k] sk bk W ((HXT.out _ hmem).1.mod0 (HMW.out.trans m)) ((HXT.out _ hmem).2.mod0 (HMW.out.trans m)) hsm)
      have HO2 := Lib.hid (fun W (m : Mod (fun _ => False) wr W) => own9 r _ _ W (HT.out.mod0 (HMW.out.trans m)) (HL.out.mod0 (HMW.out.trans m)) HRS.out)
      have HAL := Lib.hid (fun W s1 b1 s2 b2 (h1 : TsAt W s1 ps[k].head.terms) (h2 : LsAt W b1 ps[k].body) (h3 : TsAt W s2 r.head.terms) (h4 : LsAt W b2 r.body) (m : Mod (fun _ => False) wr W) => Alike_any ps[k] r s1 b1 s2 b2 W hsm HRS.out h1 h2 h3 h4 (HPW.out.mod0 (HMW.out.trans m)))
      have HNX : Hid (¬ Al ps[k] r → ∀ j (hj : j < ps.length), j < k + 1 → ¬ Al ps[j] r) := fun h j hj hjk => by
        rcases Nat.lt_or_ge j k with e | e
        · exact hno.out j hj e
        · obtain rfl : j = k := by omega
          exact h
      have hsl : (∃ a n c, sk = .slice a n c) ∧ ∃ a n c, bk = .slice a n c := by
        obtain ⟨⟨a1, c1, e1, _⟩, a2, c2, _, e2, _⟩ := HXT.out _ hmem
        exact ⟨⟨_, _, _, e1⟩, _, _, _, e2⟩
      obtain ⟨⟨ka, kn, kc, rfl⟩, la, ln, lc, rfl⟩ := hsl
      unfold rmV at HO1 HO2 HAL
      clear hxk hmem hsm
      generalize ps[k] = q at *
      go_wp2_with fail
      refine wp_region_ord (fun w' => w'.cell? ⟨w.heap.size, 0, none⟩ = some (.slice (some ⟨bb, o, none⟩) ps.length c) ∧ (w'.cell? ⟨bb, o + k * 3, none⟩ = some (.string q.head.pred) ∧ w'.cell? ⟨bb, o + k * 3 + 1, none⟩ = some (.slice ka kn kc) ∧ w'.cell? ⟨bb, o + k * 3 + 2, none⟩ = some (.slice la ln lc)) ∧ (w'.cell? ⟨w.heap.size + 1, 0, none⟩ = some (.string r.head.pred) ∧ w'.cell? ⟨w.heap.size + 1, 1, none⟩ = some (.slice sa r.head.terms.length sc) ∧ w'.cell? ⟨w.heap.size + 1, 2, none⟩ = some (.slice ba r.body.length bc))) [(0, 0), (1, 1), (0, 2), (0, 3), (1, 4), (1, 6), (2, 5), (3, 7), (3, 8)] (by kernel_rfl) (by kernel_rfl) ?_
      go_wp2_with (first
        | (refine ord_pure rfl rfl rfl (fun K hK => ?_); go_big_quiet_op; refine hK _ ?_; clear hK K)
                                                                | (refine ord_skip rfl rfl ?_; simp only [Act.put, List.setIfInBounds_toArray, List.set_cons_zero, List.set_cons_succ])
                                                                | (refine ord_held rfl rfl rfl (⟨cA, ⟨x0, x1, x2⟩, ⟨r0, r1, r2⟩⟩) (fun K hK => ?_); apply Exists.intro; refine ⟨fun w' hs => ?_, hK _ ?_⟩; (revert hs; dsimp only; (try simp only [and_imp]); intros; go_simp; rfl); clear hK K)
                                                                | (refine ord_keep rfl rfl (⟨cA, ⟨x0, x1, x2⟩, ⟨r0, r1, r2⟩⟩) (fun K hK => ?_))
                                                                | (refine ord_drop rfl rfl (fun K hK => ?_))
                                                                | (refine ord_nil ?_))
      refine (HO1.out _ (Mod.refl _ wr).drew).mono ?_
      rintro e w3 ⟨gh, ch, gb, cb, rfl, hT3, hL3, hM3⟩
      have m3 : Mod (fun _ => False) wr w3 := (Mod.refl _ wr).drew.trans hM3
      have HT3 := Lib.hid hT3; have HL3 := Lib.hid hL3; have HM3 := Lib.hid m3
      have cA := m3.cell cA id; have x0 := m3.cell x0 id; have x1 := m3.cell x1 id; have x2 := m3.cell x2 id
      have r0 := m3.cell r0 id; have r1 := m3.cell r1 id; have r2 := m3.cell r2 id
      refine hK _ _ ⟨cA, ⟨x0, x1, x2⟩, ⟨r0, r1, r2⟩⟩ ?_; clear hK K
      clear hT3 hL3 hM3 m3 HO1
      go_wp2_with (first
        | (refine ord_pure rfl rfl rfl (fun K hK => ?_); go_big_quiet_op; refine hK _ ?_; clear hK K)
                                                                | (refine ord_skip rfl rfl ?_; simp only [Act.put, List.setIfInBounds_toArray, List.set_cons_zero, List.set_cons_succ])
                                                                | (refine ord_held rfl rfl rfl (⟨cA, ⟨x0, x1, x2⟩, ⟨r0, r1, r2⟩⟩) (fun K hK => ?_); apply Exists.intro; refine ⟨fun w' hs => ?_, hK _ ?_⟩; (revert hs; dsimp only; (try simp only [and_imp]); intros; go_simp; rfl); clear hK K)
                                                                | (refine ord_keep rfl rfl (⟨cA, ⟨x0, x1, x2⟩, ⟨r0, r1, r2⟩⟩) (fun K hK => ?_))
                                                                | (refine ord_drop rfl rfl (fun K hK => ?_))
                                                                | (refine ord_nil ?_))
      refine (HO2.out _ HM3.out).mono ?_
      rintro e w4 ⟨gh2, ch2, gb2, cb2, rfl, hT4, hL4, hM4⟩
      have HT4 := Lib.hid hT4; have HL4 := Lib.hid hL4; have HM4 := Lib.hid hM4
      clear hT4 hL4 hM4 HO2 cA x0 x1 x2 r0 r1 r2
      go_wp2_with (first
        | (refine ord_pure rfl rfl rfl (fun K hK => ?_); go_big_quiet_op; refine hK _ ?_; clear hK K)
                                                                | (refine ord_skip rfl rfl ?_; simp only [Act.put, List.setIfInBounds_toArray, List.set_cons_zero, List.set_cons_succ])
                                                                | (refine ord_held rfl rfl rfl (trivial) (fun K hK => ?_); apply Exists.intro; refine ⟨fun w' hs => ?_, hK _ ?_⟩; (revert hs; dsimp only; (try simp only [and_imp]); intros; go_simp; rfl); clear hK K)
                                                                | (refine ord_keep rfl rfl (trivial) (fun K hK => ?_))
                                                                | (refine ord_drop rfl rfl (fun K hK => ?_))
                                                                | (refine ord_nil ?_))
      refine (HAL.out w4 _ _ _ _ (HT3.out.mod0 HM4.out) (HL3.out.mod0 HM4.out) HT4.out HL4.out (HM3.out.trans HM4.out)).mono ?_
      rintro e w5 ⟨t, rfl, hal, hM5⟩
      have HM5 := Lib.hid (HM3.out.trans (HM4.out.trans hM5))
      have HAL2 := Lib.hid hal
      clear hal hM5 HAL
      cases t with
      | true =>
        go_wp2_with (first
          | (refine ord_pure rfl rfl rfl (fun K hK => ?_); go_big_quiet_op; refine hK _ ?_; clear hK K)
                                                                | (refine ord_skip rfl rfl ?_; simp only [Act.put, List.setIfInBounds_toArray, List.set_cons_zero, List.set_cons_succ])
                                                                | (refine ord_held rfl rfl rfl (trivial) (fun K hK => ?_); apply Exists.intro; refine ⟨fun w' hs => ?_, hK _ ?_⟩; (revert hs; dsimp only; (try simp only [and_imp]); intros; go_simp; rfl); clear hK K)
                                                                | (refine ord_keep rfl rfl (trivial) (fun K hK => ?_))
                                                                | (refine ord_drop rfl rfl (fun K hK => ?_))
                                                                | (refine ord_nil ?_))
        go_ret
        exact ⟨rfl, HMW.out.trans HM5.out⟩
      | false =>
        have HNA := Lib.hid (HNX.out (fun h => by have := HAL2.out.2 h; cases this))
        go_wp2_with (first
          | (refine ord_pure rfl rfl rfl (fun K hK => ?_); go_big_quiet_op; refine hK _ ?_; clear hK K)
                                                                | (refine ord_skip rfl rfl ?_; simp only [Act.put, List.setIfInBounds_toArray, List.set_cons_zero, List.set_cons_succ])
                                                                | (refine ord_held rfl rfl rfl (trivial) (fun K hK => ?_); apply Exists.intro; refine ⟨fun w' hs => ?_, hK _ ?_⟩; (revert hs; dsimp only; (try simp only [and_imp]); intros; go_simp; rfl); clear hK K)
                                                                | (refine ord_keep rfl rfl (trivial) (fun K hK => ?_))
                                                                | (refine ord_drop rfl rfl (fun K hK => ?_))
                                                                | (refine ord_nil ?_))
        go_roundw
        case rel => exact ⟨k + 1, by go_num, hlt, HNA, Lib.hid (hM.out.trans HM5.out)⟩
        case measure => simp [intOf]; omega
    · exfalso
      obtain ⟨p, hp, ha⟩ := HEX.out
      obtain ⟨j, hj, rfl⟩ := List.mem_iff_getElem.1 hp
      exact hno.out j hj (by omega) ha
end Go.Proofs.YtphgglnkdfndiaaDoor
