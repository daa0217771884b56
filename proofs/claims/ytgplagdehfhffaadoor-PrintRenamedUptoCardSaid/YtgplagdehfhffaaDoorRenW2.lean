/-
  PrintRenamed's renamedAtom, walked.
-/
import Derived.Test.YtgplagdehfhffaaDoorRenW1
import Derived.Test.YtgplagdehfhffaaDoorOwn3
import Derived.Test.YtgplagdehfhffaaDoorAtomN
namespace Go.Proofs.YtgplagdehfhffaaDoor
open Go Go.RowKit Go.Mine
set_option linter.unusedVariables false
set_option maxHeartbeats 8000000
set_option maxRecDepth 100000

theorem renamedAtom_go (p : ByteArray) (ts : List Tm) (s : Value) (w : World) (ht : TsAt w s ts) (hn : ts.length < 2 ^ 30) (hk : ∀ t ∈ ts, t.text.size < 2 ^ 30) :
    Calls Tryd.prog 89 #[.agg #[.string p, s]] w fun e w' => ∃ g c, e = .returned (.agg #[.string p, .slice (some ⟨g, 0, none⟩) ts.length c]) ∧ OwnT w' g c (ts.map (rnG nameB)) ∧ w.heap.size ≤ g ∧ Mod (fun _ => False) w w' := by
  have hb0 : ((w.alloc (.cells #[.string p, s] 37)).alloc (.cells #[.string ⟨#[]⟩, .slice none 0 0] 37)).heap[w.heap.size]? = some (.cells #[.string p, s] 37 (0, 0)) := heap_two1 w _ _
  have hb1 : ((w.alloc (.cells #[.string p, s] 37)).alloc (.cells #[.string ⟨#[]⟩, .slice none 0 0] 37)).heap[w.heap.size + 1]? = some (.cells #[.string ⟨#[]⟩, .slice none 0 0] 37 (0, 0)) := heap_two2 w _ _
  have hm1 : Mod (fun _ => False) w ((w.alloc (.cells #[.string p, s] 37)).alloc (.cells #[.string ⟨#[]⟩, .slice none 0 0] 37)) := ((Mod.refl _ w).alloc _).alloc _
  have hz1 : ((w.alloc (.cells #[.string p, s] 37)).alloc (.cells #[.string ⟨#[]⟩, .slice none 0 0] 37)).heap.size = w.heap.size + 2 := by simp
  have HC := Lib.hid (ownAtom_any p ts s _ (ht.mod0 hm1) hn)
  have HH := Lib.hid (And.intro hb0 (And.intro hb1 (And.intro hm1 hz1)))
  have HK := Lib.hid hk
  obtain ⟨sa, sc, rfl, _⟩ := ht
  clear hb0 hb1 hm1 hz1 hk
  go_enter Tryd.func89, Tryd.ntmps89
  go_wp2_with fail
  obtain ⟨w1, hw1⟩ : ∃ w1, w1 = ((w.alloc (.cells #[.string p, .slice sa ts.length sc] 37)).alloc (.cells #[.string ⟨#[]⟩, .slice none 0 0] 37)) := ⟨_, rfl⟩
  rw [← hw1] at HC HH ⊢
  clear hw1
  obtain ⟨hb0, hb1, hm1, hz1⟩ := HH.out
  refine HC.out.mono ?_
  rintro e w2 ⟨g, c, rfl, hO, hg, hM2⟩
  have k0 := hM2.at hb0 id
  have k1 := hM2.at hb1 id
  have c0 := cell_at (j := 0) k0 rfl
  have c1 := cell_at (j := 1) k0 rfl
  have f0 : w2.frozen? ⟨w.heap.size, 0, none⟩ = false := frozen_at k0
  have f1 : w2.frozen? ⟨w.heap.size, 1, none⟩ = false := frozen_at k0
  have hms : Mod (fun b => b = w.heap.size) w2 ((w2.setCell ⟨w.heap.size, 0, none⟩ (.string p)).setCell ⟨w.heap.size, 1, none⟩ (.slice (some ⟨g, 0, none⟩) ts.length c)) := ((Mod.refl (fun b => b = w.heap.size) w2).setCell (p := ⟨w.heap.size, 0, none⟩) (fun _ => rfl) _).setCell (p := ⟨w.heap.size, 1, none⟩) (fun _ => rfl) _
  have hq0 : ((w2.setCell ⟨w.heap.size, 0, none⟩ (.string p)).setCell ⟨w.heap.size, 1, none⟩ (.slice (some ⟨g, 0, none⟩) ts.length c)).heap[w.heap.size]? = some (.cells #[.string p, .slice (some ⟨g, 0, none⟩) ts.length c] 37 (0, 0)) := heap_setCell_at (j := 1) (.slice (some ⟨g, 0, none⟩) ts.length c) (heap_setCell_at (j := 0) (.string p) k0)
  have HG : Hid (w.heap.size + 2 ≤ g) := by rw [← hz1]; exact hg
  have hgw := HG.out
  have hL := hO.lt
  have hz2 : w.heap.size + 2 ≤ ((w2.setCell ⟨w.heap.size, 0, none⟩ (.string p)).setCell ⟨w.heap.size, 1, none⟩ (.slice (some ⟨g, 0, none⟩) ts.length c)).heap.size := by have := hM2.size; simp; omega
  have HQ0 := Lib.hid hq0
  have HQ1 := Lib.hid (hms.at k1 (by omega))
  have HO0 := Lib.hid (hO.mod hms (by omega))
  have HMM := Lib.hid ((hm1.trans hM2).step hms (fun i hi e => by omega))
  have HZ2 := Lib.hid hz2
  clear hms hq0 k0 k1 hO hM2 hg hm1 hz1 hb0 hb1 HC HH hL hz2 hgw
  go_wp2_with fail
  obtain ⟨w3, hw3⟩ : ∃ w3, w3 = (w2.setCell ⟨w.heap.size, 0, none⟩ (.string p)).setCell ⟨w.heap.size, 1, none⟩ (.slice (some ⟨g, 0, none⟩) ts.length c) := ⟨_, rfl⟩
  rw [← hw3] at HQ0 HQ1 HO0 HMM HZ2 ⊢
  clear hw3 c0 c1 f0 f1
  go_loopw [3] (fun iv wr => ∃ k : Nat, iv = .int .i64 k ∧ k ≤ ts.length ∧ Hid (Mine.Own wr 60 2 (some ⟨g, 0, none⟩) (ts.length + 1) c (tmsC (((ts.take k).map (rnG nameB) ++ ts.drop k) ++ [tM]))) ∧
      Hid (Mod (fun b => b = g) w3 wr)) (fun iv _ => ts.length - (intOf iv).toNat)
  case atStart => exact ⟨0, rfl, Nat.zero_le _, Lib.hid HO0.out, Lib.hid (Mod.refl _ _)⟩
  case round =>
    obtain ⟨k, rfl, hk, hO, hM⟩ := hrel
    have hgw := HG.out
    have q0 := hM.out.at HQ0.out (by omega)
    have q1 := hM.out.at HQ1.out (by omega)
    have c0 := cell_at (j := 0) q0 rfl
    have c1 := cell_at (j := 1) q0 rfl
    have Q0 := Lib.hid q0; have Q1 := Lib.hid q1
    clear q0 q1
    by_cases hlt : k < ts.length
    · have h1 : ((ts.take k).map (rnG nameB)).length = k := by rw [List.length_map, List.length_take]; omega
      have hlen : (((ts.take k).map (rnG nameB) ++ ts.drop k) ++ [tM]).length = ts.length + 1 := by
        rw [List.length_append, List.length_append, h1, List.length_drop]; simp; omega
      have hget : (((ts.take k).map (rnG nameB) ++ ts.drop k) ++ [tM])[k]? = some ts[k] := by
        rw [List.append_assoc, List.getElem?_append_right (by omega), h1, Nat.sub_self, List.drop_eq_getElem_cons hlt]
        rfl
      obtain ⟨hg0, hg1⟩ := tmsC_get hget
      obtain ⟨b, o, hbe, x0⟩ := hO.out.rd _ _ hg0
      cases hbe
      obtain ⟨b, o, hbe, x1⟩ := hO.out.rd _ _ hg1
      cases hbe
      rw [Nat.zero_add] at x0 x1
      have hset : (((ts.take k).map (rnG nameB) ++ ts.drop k) ++ [tM]).set k (rnG nameB ts[k]) = ((ts.take (k + 1)).map (rnG nameB) ++ ts.drop (k + 1)) ++ [tM] := by
        rw [List.append_assoc, List.set_append_right _ _ (by omega), h1, Nat.sub_self, List.drop_eq_getElem_cons hlt, List.cons_append, List.set_cons_zero, List.take_succ_eq_append_getElem hlt, List.map_append, List.append_assoc, List.append_assoc]
        rfl
      have HT1 := Lib.hid (fun w => rnG_go ts[k] w (HK.out _ (List.getElem_mem hlt)))
      unfold tmV at HT1
      have HSET := Lib.hid hset
      have HTL := Lib.hid hlen
      clear hg0 hg1 hset hget hlen h1
      obtain ⟨⟨t1k, t1⟩, ht1⟩ : ∃ t1, t1 = rnG nameB ts[k] := ⟨_, rfl⟩
      rw [← ht1] at HT1 HSET
      clear ht1
      generalize ts[k] = t at *
      have X0 := Lib.hid x0; have X1 := Lib.hid x1; have C1 := Lib.hid c1
      go_wp2_with fail
      refine wp_region_ord (fun w' => w'.cell? ⟨w.heap.size, 1, none⟩ = some (.slice (some ⟨g, 0, none⟩) ts.length c) ∧ w'.cell? ⟨g, k * 2, none⟩ = some (.int .i64 t.kind) ∧ w'.cell? ⟨g, k * 2 + 1, none⟩ = some (.string t.text)) [(0, 0), (1, 1), (0, 2), (0, 3), (1, 4), (0, 5), (0, 6), (1, 7), (2, 8), (0, 9), (3, 10)] (by kernel_rfl) (by kernel_rfl) ?_
      go_wp2_with (first
        | (refine ord_pure rfl rfl rfl (fun K hK => ?_); go_big_quiet_op; refine hK _ ?_; clear hK K)
                        | (refine ord_skip rfl rfl ?_; simp only [Act.put, List.setIfInBounds_toArray, List.set_cons_zero, List.set_cons_succ])
                        | (refine ord_held rfl rfl rfl (⟨C1.out, X0.out, X1.out⟩) (fun K hK => ?_); apply Exists.intro; refine ⟨fun w' hs => ?_, hK _ ?_⟩; (revert hs; dsimp only; (try simp only [and_imp]); intros; go_simp; rfl); clear hK K)
                        | (refine ord_keep rfl rfl (⟨C1.out, X0.out, X1.out⟩) (fun K hK => ?_))
                        | (refine ord_drop rfl rfl (fun K hK => ?_))
                        | (refine ord_nil ?_))
      refine (HT1.out _).mono ?_
      rintro e w5 ⟨rfl, hM5⟩
      have hMr : Mod (fun _ => False) wr w5 := ((Mod.refl (fun _ => False) wr).drew).trans hM5
      have hO5 := hO.out.mod hMr (fun _ _ => id)
      have y0 := hMr.cell x0 id
      have y1 := hMr.cell x1 id
      have g0 := hO5.frozen (o := k * 2) (b := g) rfl
      have g1 := hO5.frozen (o := k * 2 + 1) (b := g) rfl
      refine hK _ _ ⟨hMr.cell C1.out id, y0, y1⟩ ?_; clear hK K
      have HMR := Lib.hid hMr; have HO5 := Lib.hid hO5
      clear hMr hO5 hM5 x0 x1
      go_wp2_with (first
        | (refine ord_pure rfl rfl rfl (fun K hK => ?_); go_big_quiet_op; refine hK _ ?_; clear hK K)
                        | (refine ord_skip rfl rfl ?_; simp only [Act.put, List.setIfInBounds_toArray, List.set_cons_zero, List.set_cons_succ])
                        | (refine ord_held rfl rfl rfl (trivial) (fun K hK => ?_); apply Exists.intro; refine ⟨fun w' hs => ?_, hK _ ?_⟩; (revert hs; dsimp only; (try simp only [and_imp]); intros; go_simp; rfl); clear hK K)
                        | (refine ord_keep rfl rfl (trivial) (fun K hK => ?_))
                        | (refine ord_drop rfl rfl (fun K hK => ?_))
                        | (refine ord_nil ?_))
      have hms : Mod (fun b => b = g) w5 ((w5.setCell ⟨g, k * 2, none⟩ (.int .i64 t1k)).setCell ⟨g, k * 2 + 1, none⟩ (.string t1)) := ((Mod.refl (fun b => b = g) w5).setCell (p := ⟨g, k * 2, none⟩) (fun _ => rfl) _).setCell (p := ⟨g, k * 2 + 1, none⟩) (fun _ => rfl) _
      have hOs := (HO5.out.store (k * 2) (.int .i64 t1k)).store (k * 2 + 1) (.string t1)
      have htt := tms_set _ k ⟨t1k, t1⟩ (by rw [HTL.out]; exact Nat.lt_succ_of_lt hlt)
      simp only at htt
      rw [htt, HSET.out] at hOs
      have H1 := Lib.hid hOs
      have H3 : Hid (Mod (fun b => b = g) w3 ((w5.setCell ⟨g, k * 2, none⟩ (.int .i64 t1k)).setCell ⟨g, k * 2 + 1, none⟩ (.string t1))) := (hM.out.step HMR.out (fun i _ e => e.elim)).step hms (fun i _ e => e)
      clear hOs htt hms y0 y1 g0 g1
      go_roundw
      case rel => exact ⟨k + 1, by go_num, hlt, H1, H3⟩
      case measure => simp [intOf]; omega
    · obtain rfl : k = ts.length := by omega
      rw [List.take_length, List.drop_length, List.append_nil] at hO
      have r0 := cell_at (j := 0) Q1.out rfl
      have r1 := cell_at (j := 1) Q1.out rfl
      have g0 : wr.frozen? ⟨w.heap.size + 1, 0, none⟩ = false := frozen_at Q1.out
      have g1 : wr.frozen? ⟨w.heap.size + 1, 1, none⟩ = false := frozen_at Q1.out
      go_wp2_with fail
      have hms : Mod (fun b => b = w.heap.size + 1) wr ((wr.setCell ⟨w.heap.size + 1, 0, none⟩ (.string p)).setCell ⟨w.heap.size + 1, 1, none⟩ (.slice (some ⟨g, 0, none⟩) ts.length c)) := ((Mod.refl (fun b => b = w.heap.size + 1) wr).setCell (p := ⟨w.heap.size + 1, 0, none⟩) (fun _ => rfl) _).setCell (p := ⟨w.heap.size + 1, 1, none⟩) (fun _ => rfl) _
      have hb2 := heap_setCell_at (j := 1) (.slice (some ⟨g, 0, none⟩) ts.length c) (heap_setCell_at (j := 0) (.string p) Q1.out)
      have z0 := cell_at (j := 0) (u := .string p) hb2 rfl
      have z1 := cell_at (j := 1) (u := .slice (some ⟨g, 0, none⟩) ts.length c) hb2 rfl
      generalize (wr.setCell ⟨w.heap.size + 1, 0, none⟩ (.string p)).setCell ⟨w.heap.size + 1, 1, none⟩ (.slice (some ⟨g, 0, none⟩) ts.length c) = W at *
      refine bodyPost_ret (v := .agg #[.string p, .slice (some ⟨g, 0, none⟩) ts.length c]) (by simp [results, Tryd.results89, go_sem, z0, z1]) rfl
        ⟨g, c, rfl, ?_, by omega, ?_⟩
      · have h2 := hO.out.mod hms (fun b hb e => by cases hb; have e' : g = w.heap.size + 1 := e; omega)
        unfold OwnT
        rw [List.length_map]
        exact h2
      · exact HMM.out.step ((hM.out.mono (T := fun b => b = g ∨ b = w.heap.size + 1) (fun _ _ e => .inl e)).step hms (fun i _ e => .inr e)) (fun i hi e => by omega)
end Go.Proofs.YtgplagdehfhffaaDoor
