/-
  print.renamer.term walked.
-/
import Derived.Test.YtgplagdehfhffaaDoorNames
import Derived.Test.YtgplagdehfhffaaDoorOrd
namespace Go.Proofs.YtgplagdehfhffaaDoor
open Go Go.RowKit Go.Mine
set_option linter.unusedVariables false
set_option maxHeartbeats 8000000
set_option maxRecDepth 100000

theorem nmV_old {ns : List ByteArray} {x : ByteArray} (h : place x ns < ns.length) : (⟨(nmV ns x).toArray⟩ : ByteArray) = vN (place x ns + 1) := by
  unfold nmV
  rw [if_pos h]
theorem nmV_new {ns : List ByteArray} {x : ByteArray} (h : ¬ place x ns < ns.length) : (⟨(nmV ns x).toArray⟩ : ByteArray) = ⟨#[]⟩ := by
  unfold nmV
  rw [if_neg h]
theorem vN_ne (n : Nat) : (vN n).toList.isEmpty = false := by
  rw [ByteArray.toList_eq]
  rfl
theorem vN_size (n : Nat) : (vN n).size ≤ n + 2 := by
  have := decDigits_le n
  show (86 :: Lib.decDigits n).length ≤ _
  simp
  omega
/-- the last stores: a new text, and what is answered -/
theorem put3 {w3 : World} {p : Nat} {ty : TypeId} {k : Int} {V : ByteArray} {x y : Value} (hq : w3.heap[p + 1]? = some (.cells #[x, y] ty (0, 0))) :
    Mod (fun k => k = p ∨ k = p + 1) w3 (((w3.setCell ⟨p, 1, none⟩ (.string V)).setCell ⟨p + 1, 0, none⟩ (.int .i64 k)).setCell ⟨p + 1, 1, none⟩ (.string V)) ∧
    (((w3.setCell ⟨p, 1, none⟩ (.string V)).setCell ⟨p + 1, 0, none⟩ (.int .i64 k)).setCell ⟨p + 1, 1, none⟩ (.string V)).cell? ⟨p + 1, 0, none⟩ = some (.int .i64 k) ∧
    (((w3.setCell ⟨p, 1, none⟩ (.string V)).setCell ⟨p + 1, 0, none⟩ (.int .i64 k)).setCell ⟨p + 1, 1, none⟩ (.string V)).cell? ⟨p + 1, 1, none⟩ = some (.string V) := by
  have hb2 := heap_setCell_at (j := 1) (.string V) (heap_setCell_at (j := 0) (.int .i64 k) (((Mod.refl (fun k => k = p) w3).setCell (p := ⟨p, 1, none⟩) (fun _ => rfl) (.string V)).at hq (by omega)))
  exact ⟨(((Mod.refl (fun k => k = p ∨ k = p + 1) w3).setCell (p := ⟨p, 1, none⟩) (fun _ => .inl rfl) _).setCell (p := ⟨p + 1, 0, none⟩) (fun _ => .inr rfl) _).setCell (p := ⟨p + 1, 1, none⟩) (fun _ => .inr rfl) _,
    cell_at (j := 0) (u := .int .i64 k) hb2 rfl, cell_at (j := 1) (u := .string V) hb2 rfl⟩
theorem MapIs.drew {w : World} {B : Nat} {ns : List ByteArray} (h : MapIs w B ns) : MapIs w.drew B ns := h.mod (Mod.refl (fun _ => False) w).drew id
theorem MapIs.drew_len {w : World} {B : Nat} {ns : List ByteArray} (h : MapIs w B ns) : (Builtin.len_ #[134] 3 #[.map (some B)]).run Tryd.prog w.drew = .ok (.int .i64 ns.length) w.drew := h.drew.len _
theorem rnterm_any (t : Tm) (ns : List ByteArray) (B : Nat) (w : World) (h1 : 1 ≤ t.kind) (h7 : t.kind ≤ 7) (hs : t.text.size < 2 ^ 30) (hn : ns.length < 2 ^ 30) (hm : MapIs w B ns) (hp : Pow w) (hB : B ≠ 3) :
    Calls Tryd.prog 83 #[.map (some B), tmV t] w fun e w' => e = .returned (tmV (nmTm ns t).1) ∧ MapIs w' B (nmTm ns t).2 ∧ Mod (fun b => b = B) w w' := by
  obtain ⟨tk, tx⟩ := t
  simp only at h1 h7 hs
  have hb0 : ((w.alloc (.cells #[.int .i64 tk, .string tx] 60)).alloc (.cells #[.int .i64 0, .string ⟨#[]⟩] 60)).heap[w.heap.size]? = some (.cells #[.int .i64 tk, .string tx] 60 (0, 0)) := by
    show ((w.heap.push _).push _)[w.heap.size]? = _
    simp [Array.getElem?_push]
  have hm0 : Mod (fun _ => False) w ((w.alloc (.cells #[.int .i64 tk, .string tx] 60)).alloc (.cells #[.int .i64 0, .string ⟨#[]⟩] 60)) := ((Mod.refl _ w).alloc _).alloc _
  have hBl := hm.lt
  have hm1 := hm.mod hm0 id
  have hp1 := hp.mod0 hm0
  by_cases hk : asIs tk
  · have hnt : nmTm ns ⟨tk, tx⟩ = (⟨tk, tx⟩, ns) := by unfold nmTm; rw [if_pos hk]
    rw [hnt]
    have HMw := Lib.hid hm
    clear hm1 hm0 hb0 hm hp hp1 hnt
    unfold tmV
    simp only
    have hcase : tk = 2 ∨ tk = 3 ∨ tk = 4 := hk
    clear hk
    rcases hcase with rfl | rfl | rfl
    all_goals
      go_enter Tryd.func83, Tryd.ntmps83
      go_wp2_with fail
      refine bodyPost_ret (v := .agg #[.int .i64 _, .string tx]) (by simp [results, Tryd.results83, go_sem]) rfl
        ⟨rfl, HMw.out.mod (((Mod.refl (fun _ => False) w).alloc _).alloc _) id, (((Mod.refl (fun _ => False) w).alloc _).alloc _).mono (fun _ _ h => h.elim)⟩
  · have hnt : nmTm ns ⟨tk, tx⟩ = (⟨tk, vN (place tx (more ns tx) + 1)⟩, more ns tx) := by unfold nmTm; rw [if_neg hk]
    rw [hnt]
    by_cases hold : place tx ns < ns.length
    · rw [more_old hold]
      have hl1 := hm1.look tx (by unfold maxLen; omega)
      rw [nmV_old hold] at hl1
      have hve := vN_ne (place tx ns + 1)
      have HMw := Lib.hid hm
      clear hm1 hm0 hb0 hm hp hp1 hnt hold
      generalize vN (place tx ns + 1) = V at *
      unfold tmV
      simp only
      have hcase : tk = 1 ∨ tk = 5 ∨ tk = 6 ∨ tk = 7 := by unfold asIs at hk; omega
      clear hk
      rcases hcase with rfl | rfl | rfl | rfl
      all_goals
        go_enter Tryd.func83, Tryd.ntmps83
        go_wp2_with fail
        refine bodyPost_ret (v := .agg #[.int .i64 _, .string V]) (by simp [results, Tryd.results83, go_sem]) rfl
          ⟨rfl, HMw.out.mod (((Mod.refl (fun _ => False) w).alloc _).alloc _) id, (((Mod.refl (fun _ => False) w).alloc _).alloc _).mono (fun _ _ h => h.elim)⟩
    · have hpl : place tx ns = ns.length := by
        by_cases hmm : tx ∈ ns
        · exact absurd (place_lt hmm) hold
        · exact place_out hmm
      obtain ⟨hmo, hpm⟩ := more_new hpl
      rw [hmo, hpm]
      have hl1 := hm1.look tx (by unfold maxLen; omega)
      rw [nmV_new hold] at hl1
      have hle := decDigits_le (ns.length + 1)
      have HV := Lib.hid (vN_cat (ns.length + 1))
      have HPUT : Hid (∀ wx, MapIs wx B ns → ∃ w', (Instr.mapUpdate 134 (.map (some B)) (.string tx) (.string (⟨#[86]⟩ ++ ⟨(Lib.decDigits (ns.length + 1)).toArray⟩))).run Tryd.prog wx = .ok () w' ∧ MapIs w' B (ns ++ [tx]) ∧ Mod (fun b => b = B) wx w') := fun wx hx => by
        rw [vN_cat]
        exact hx.put tx (by unfold maxLen; omega) (by unfold maxLen; omega) hold (by have := vN_size (ns.length + 1); unfold maxLen; omega)
      have HLK : Hid (∀ wx, MapIs wx B (ns ++ [tx]) → (Instr.lookup 134 (.map (some B)) (.string tx) false).run Tryd.prog wx = .ok (.string (⟨#[86]⟩ ++ ⟨(Lib.decDigits (ns.length + 1)).toArray⟩)) wx) := fun wx hx => by
        have := hx.look tx (by unfold maxLen; omega)
        rw [nmV_old (by rw [hpm]; simp), hpm, ← vN_cat] at this
        exact this
      have HIT : Hid (∀ wx, Pow wx → Calls Tryd.prog 135 #[.int .i64 ((ns.length : Int) + 1)] wx fun e w' => e = .returned (.string ⟨(Lib.decDigits (ns.length + 1)).toArray⟩) ∧ Mod (fun _ => False) wx w') := fun wx hx => itoa_any (ns.length + 1) wx (by omega) hx
      have HM1 := Lib.hid hm1; have HM0 := Lib.hid hm0; have HP1 := Lib.hid hp1
      have c1 := cell_at (j := 1) hb0 rfl
      have hlen1 := hm1.len 3
      generalize Lib.decDigits (ns.length + 1) = D at *
      have hno : ¬ 9223372036854775807 < 1 + D.length := by omega
      obtain ⟨w0, hw0⟩ : ∃ w0, w0 = ((w.alloc (.cells #[.int .i64 tk, .string tx] 60)).alloc (.cells #[.int .i64 0, .string ⟨#[]⟩] 60)) := ⟨_, rfl⟩
      have HB0 := Lib.hid hb0
      have hb1 : ((w.alloc (.cells #[.int .i64 tk, .string tx] 60)).alloc (.cells #[.int .i64 0, .string ⟨#[]⟩] 60)).heap[w.heap.size + 1]? = some (.cells #[.int .i64 0, .string ⟨#[]⟩] 60 (0, 0)) := by
        have := heap_alloc_new (w.alloc (.cells #[.int .i64 tk, .string tx] 60)) (.cells #[.int .i64 0, .string ⟨#[]⟩] 60)
        simpa using this
      have HB1 := Lib.hid hb1
      rw [← hw0] at HB0 HB1 HM0 HM1 HP1 c1 hlen1
      have HW0 := Lib.hid hw0
      clear hb1 hm1 hm0 hb0 hm hp hp1 hnt hold hpl hmo hpm hw0
      unfold tmV
      simp only
      have hcase : tk = 1 ∨ tk = 5 ∨ tk = 6 ∨ tk = 7 := by unfold asIs at hk; omega
      clear hk
      rcases hcase with rfl | rfl | rfl | rfl
      all_goals
        go_enter Tryd.func83, Tryd.ntmps83
        go_wp2_with fail
        rw [← HW0.out]
        refine wp_region_ord (fun w' => w'.cell? ⟨w.heap.size, 1, none⟩ = some (.string tx) ∧ (Builtin.len_ #[134] 3 #[.map (some B)]).run Tryd.prog w' = .ok (.int .i64 ns.length) w') [(0, 0), (0, 1), (1, 2), (0, 3), (1, 4), (0, 5), (2, 6), (0, 7), (3, 8)] (by kernel_rfl) (by kernel_rfl) ?_
        go_wp2_with (first
          | (refine ord_pure rfl rfl rfl (fun K hK => ?_); go_big_quiet_op; refine hK _ ?_; clear hK K)
                        | (refine ord_skip rfl rfl ?_; simp only [Act.put, List.setIfInBounds_toArray, List.set_cons_zero, List.set_cons_succ])
                        | (refine ord_held rfl rfl rfl (⟨by simpa using c1, HM1.out.drew_len⟩) (fun K hK => ?_); apply Exists.intro; refine ⟨fun w' hs => ?_, hK _ ?_⟩; (revert hs; dsimp only; (try simp only [and_imp]); intros; go_simp; rfl); clear hK K)
                        | (refine ord_keep rfl rfl (⟨by simpa using c1, HM1.out.drew_len⟩) (fun K hK => ?_))
                        | (refine ord_drop rfl rfl (fun K hK => ?_))
                        | (refine ord_nil ?_))
        refine (HIT.out _ (HP1.out.mod0 (Mod.refl (fun _ => False) w0).drew)).mono ?_
        rintro e w2 ⟨rfl, hM2⟩
        have hM02 : Mod (fun _ => False) w0 w2 := ((Mod.refl (fun _ => False) w0).drew).trans hM2
        have hm2 := HM1.out.mod hM02 id
        obtain ⟨w3, hput, hm3, hM3⟩ := HPUT.out w2 hm2
        refine hK _ _ ⟨hM02.cell c1 id, hm2.len _⟩ ?_; clear hK K
        have q0 := hM3.at (hM02.at HB0.out id) (by omega)
        have q1 := hM3.at (hM02.at HB1.out id) (by omega)
        have HMM := Lib.hid ((HM0.out.trans hM02).mono (T := fun b => b = B) (fun _ _ h => h.elim)); have HM3 := Lib.hid hM3; have HMP := Lib.hid hm3
        have hlk := HLK.out w3 hm3
        have t0 := cell_at (j := 0) q0 rfl
        have t1 := cell_at (j := 1) q0 rfl
        have ft : w3.frozen? ⟨w.heap.size, 1, none⟩ = false := frozen_at q0
        have r0 := cell_at (j := 0) q1 rfl
        have r1 := cell_at (j := 1) q1 rfl
        have g0 : w3.frozen? ⟨w.heap.size + 1, 0, none⟩ = false := frozen_at q1
        have g1 : w3.frozen? ⟨w.heap.size + 1, 1, none⟩ = false := frozen_at q1
        have Q1 := Lib.hid q1
        clear q0 q1 hM2 hM02 hm2 hM3 hm3 c1 hlen1
        go_wp2_with (first
          | (refine ord_pure rfl rfl rfl (fun K hK => ?_); go_big_quiet_op; refine hK _ ?_; clear hK K)
                        | (refine ord_skip rfl rfl ?_; simp only [Act.put, List.setIfInBounds_toArray, List.set_cons_zero, List.set_cons_succ])
                        | (refine ord_held rfl rfl rfl (trivial) (fun K hK => ?_); apply Exists.intro; refine ⟨fun w' hs => ?_, hK _ ?_⟩; (revert hs; dsimp only; (try simp only [and_imp]); intros; go_simp; rfl); clear hK K)
                        | (refine ord_keep rfl rfl (trivial) (fun K hK => ?_))
                        | (refine ord_drop rfl rfl (fun K hK => ?_))
                        | (refine ord_nil ?_))
        clear t0 t1 ft r0 r1 g0 g1 hlk
        have z0 := fun k V => (put3 (k := k) (V := V) Q1.out).2.1
        have z1 := fun k V => (put3 (k := k) (V := V) Q1.out).2.2
        refine bodyPost_ret (v := .agg #[.int .i64 _, .string (⟨#[86]⟩ ++ ⟨D.toArray⟩)]) (by simp [results, Tryd.results83, go_sem, z0, z1]; rfl) rfl
          ⟨by rw [HV.out], HMP.out.mod (put3 Q1.out).1 (by omega), ((HMM.out.trans HM3.out).step (put3 Q1.out).1 (fun i hi e => by omega))⟩
end Go.Proofs.YtgplagdehfhffaaDoor
