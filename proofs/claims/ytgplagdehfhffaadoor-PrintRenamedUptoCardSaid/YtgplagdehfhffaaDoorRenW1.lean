/-
  PrintRenamed's names: name, renamedTerm, walked.
-/
import Derived.Test.YtgplagdehfhffaaDoorRenL
import Derived.Test.YtgplagdehfhffaaDoorOrdA
import Derived.Lib.SlBytesConst
namespace Go.Mine
open Go Go.RowKit
section
variable {P : Program} {w : World}
/-- append to a slice that is full, whoever it belongs to: a new one -/
theorem run_append_rd {t tx ty e : TypeId} {k bytes : Nat} (ti : TI P t e k bytes) {b o n : Nat} {xs : List Value} (h : Rd w (some ⟨b, o, none⟩) xs) (hxl : xs.length = n * k)
    {x : Value} {m : Nat} {news : List Value} (hs : Src P k tx x m news w) (hm : 0 < m) (hb : (n + m) * bytes ≤ 140737488355328) (h63 : n + m ≤ maxLen) :
    ∃ g c' w', (Builtin.append_ #[t, tx] ty #[.slice (some ⟨b, o, none⟩) n n, x]).run P w = .ok (.slice (some ⟨g, 0, none⟩) (n + m) c') w' ∧ Own w' e k (some ⟨g, 0, none⟩) (n + m) c' (xs ++ news) ∧
      Mod (fun _ => False) w w' ∧ w.heap.size ≤ g := by
  obtain ⟨i, z, hi, hz, rfl, rfl, hzs⟩ := ti.ex
  have hlen : (xs ++ news).length = (n + m) * i.size := by rw [List.length_append, hxl, hs.newsLen, Nat.add_mul]
  have hnew : n + m ≤ 9223372036854775807 := by unfold maxLen at h63; omega
  have holds : ∀ j u, xs[j]? = some u → w.drew.cell? ((⟨b, o, none⟩ : Addr).add j) = some u := fun j u hu => by
    have hadd : (⟨b, o, none⟩ : Addr).add j = ⟨b, o + j, none⟩ := by unfold Addr.add; split <;> simp_all
    rw [hadd]
    obtain ⟨b', o', e', hc⟩ := h j u hu
    cases e'
    simpa using hc
  have hold := run_firstCells_some (P := P) w.drew i.size n ⟨b, o, none⟩ n n xs hxl holds
  have hr := run_append_grow_src (P := P) w t tx ty e i z ti.ht hi hz (some ⟨b, o, none⟩) n n xs hold x m news hs (by omega) (by omega) (growslice_fits (by omega) hb)
  have hge := grownCap_ge w (n + m) n e
  have hcm : grownCap w (n + m) n e ≤ maxLen := grownCap_le_maxLen w (n + m) n e h63
  refine ⟨_, _, _, hr, ⟨hlen, .inr ⟨w.heap.size, _, rfl, heap_alloc_new w.drew _, hge, hcm, ?_, ?_⟩⟩, (Mod.refl _ w).drew.alloc _, Nat.le_refl _⟩
  · simp only [Array.size_append, List.size_toArray, size_zeroCells, hzs, hlen, ← Nat.add_mul]
    congr 1
    omega
  · simp only [Array.toList_append]
    rw [← hlen]
    exact List.take_left
theorem wpO_append_rd {o : Oper} {A : Act} {K : Act → World → Prop} {Q : Exit → Act → World → Prop} (s x : Operand) (t tx : TypeId)
    (ho : o.op = .call { callee := .builtin .append, args := #[s, x], argTypes := #[t, tx] }) {e : TypeId} {k bytes : Nat} (ti : TI P t e k bytes)
    {b off n : Nat} {xs : List Value} (hs : A.eval s = .slice (some ⟨b, off, none⟩) n n) (h : Rd w (some ⟨b, off, none⟩) xs) (hxl : xs.length = n * k)
    {xv : Value} {m : Nat} {news : List Value} (hx : A.eval x = xv) (hsrc : Src P k tx xv m news w) (hm : 0 < m) (hb : (n + m) * bytes ≤ 140737488355328) (h63 : n + m ≤ maxLen)
    (hk : ∀ g c' w', Own w' e k (some ⟨g, 0, none⟩) (n + m) c' (xs ++ news) → Mod (fun _ => False) w w' → w.heap.size ≤ g → K (A.put o.dst (.slice (some ⟨g, 0, none⟩) (n + m) c')) w') : o.wp P A w K Q := by
  obtain ⟨g, c', w', hr, h2, h3, h4⟩ := run_append_rd (ty := o.type) ti h hxl hsrc hm hb h63
  unfold Oper.wp execOp
  simp only [ho, resolve, invoke, builtin, Sem.run_bind, Sem.run_pure, Result.andThen_ok, List.map_toArray, List.map_cons, List.map_nil, hs, hx, hr]
  exact hk g c' w' h2 h3 h4
end
end Go.Mine
namespace Go.Proofs.YtgplagdehfhffaaDoor
open Go Go.RowKit Go.Mine
set_option linter.unusedVariables false
set_option maxHeartbeats 4000000
set_option maxRecDepth 100000

theorem nameL_snoc (l : List UInt8) (c : UInt8) : nameL (l ++ [c]) = nameL l ++ nmG c := by
  unfold nameL; rw [List.flatMap_append]; simp
theorem bts_nmG (c : UInt8) : bts (nmG c) = [.int .u8 (97 + (c.toNat : Int) / 16), .int .u8 (97 + (c.toNat : Int) % 16)] := by
  have h : ∀ n : Fin 256, (97 + UInt8.ofNat n.1 / 16 : UInt8).toNat = 97 + n.1 / 16 ∧ (97 + UInt8.ofNat n.1 % 16 : UInt8).toNat = 97 + n.1 % 16 := by decide +kernel
  have := h ⟨c.toNat, c.toNat_lt⟩
  simp only [UInt8.ofNat_toNat] at this
  unfold nmG bts
  simp only [List.map_cons, List.map_nil]
  rw [this.1, this.2]
  simp
theorem rd_row_fz (w : World) (l : List UInt8) (e : TypeId) (fz : Nat × Nat) : Rd (w.alloc (.cells (bts l).toArray e fz)) (some ⟨w.heap.size, 0, none⟩) (bts l) := by
  intro i x hi
  refine ⟨_, _, rfl, ?_⟩
  rw [cell_of_row _ w.heap.size _ (bts l).toArray e fz (heap_alloc_new w _)]
  simpa using hi
theorem name_any (s : ByteArray) (w : World) (hs : s.size < 2 ^ 30) : Calls Tryd.prog 137 #[.string s] w fun e w' => e = .returned (.string (nameB s)) ∧ Mod (fun _ => False) w w' := by
  have kc := fun (w : World) (C : Array Value) (n c : Nat) => Lib.run_convert_bytes_const (P := Tryd.prog) w 22 5 C n c Tryd.underlying22 Tryd.underlying5
  go_enter Tryd.func137, Tryd.ntmps137
  go_wp2_with fail
  clear kc
  obtain ⟨w0, hw0⟩ : ∃ v, v = w.alloc (.cells #[.int .u8 90] 5 (1, 2)) := ⟨_, rfl⟩
  have HM0 : Hid (Mod (fun _ => False) w w0) := by rw [hw0]; exact (Mod.refl _ w).alloc _
  have HR0 : Hid (Rd w0 (some ⟨w.heap.size, 0, none⟩) (bts [90])) := by rw [hw0]; exact rd_row_fz w _ _ _
  rw [← hw0]
  clear hw0
  go_loopw [3, 4] (fun bv iv wr => ∃ (k g c n : Nat), bv = .slice (some ⟨g, 0, none⟩) n c ∧ iv = .int .i64 k ∧ k ≤ s.size ∧ Hid (n = 2 * k + 1) ∧ Hid (w.heap.size ≤ g) ∧ Hid (Mod (fun _ => False) w wr) ∧
    Hid ((c = n ∧ Rd wr (some ⟨g, 0, none⟩) (bts (nameL (s.data.toList.take k)))) ∨ Mine.Own wr 5 1 (some ⟨g, 0, none⟩) n c (bts (nameL (s.data.toList.take k))))) (fun _ iv _ => s.size - (intOf iv).toNat)
  case atStart => exact ⟨0, w.heap.size, 1, 1, rfl, rfl, Nat.zero_le _, Lib.hid rfl, Lib.hid (Nat.le_refl _), HM0, Lib.hid (.inl ⟨rfl, HR0.out⟩)⟩
  case round =>
    obtain ⟨k, g, c, n, rfl, rfl, hk, hn, hg, hM, hO⟩ := hrel
    by_cases hlt : k < s.size
    · obtain ⟨x, hx⟩ : ∃ x, x = s[k] := ⟨_, rfl⟩
      have HX : Hid (s.data.toList.take (k + 1) = s.data.toList.take k ++ [x]) := Lib.hid (by
        rw [hx]
        have := List.take_succ_eq_append_getElem (l := s.data.toList) (i := k) (by simpa using hlt)
        rw [this]; rfl)
      have hx256 : x.toNat < 256 := x.toNat_lt
      have hnb : n < 2 ^ 32 := by have := hn.out; omega
      have hNB : Hid (n < 2 ^ 32) := hnb
      have hXS : Hid (∀ c' : Nat, ∀ w5 : World, ∀ g5 : Nat, Mine.Own w5 5 1 (some ⟨g5, 0, none⟩) (n + 2) c' (bts (nameL (s.data.toList.take k)) ++ [.int .u8 ((97 + (s[k].toNat : Int) / 16) % 256), .int .u8 (97 + (s[k].toNat : Int) % 16)]) → Mine.Own w5 5 1 (some ⟨g5, 0, none⟩) (n + 2) c' (bts (nameL (s.data.toList.take (k + 1))))) := Lib.hid (fun c' w5 g5 h => by
        rw [HX.out, nameL_snoc, bts_append, bts_nmG, hx]
        have e : (97 + (s[k].toNat : Int) / 16) % 256 = 97 + (s[k].toNat : Int) / 16 := by have := s[k].toNat_lt; omega
        rw [e] at h
        exact h)
      have hlen : Hid ((bts (nameL (s.data.toList.take k))).length = n * 1) := Lib.hid (by
        have h1 : (s.data.toList.take k).length = k := by rw [List.length_take]; have : s.data.toList.length = s.size := rfl; omega
        unfold bts
        rw [List.length_map, nameL_len, h1, hn.out]; omega)
      clear hx256 hnb hx
      rcases hO.out with ⟨rfl, hR⟩ | hR
      · have HR := Lib.hid hR; clear hR hO
        go_wp2_with fail
        refine wp_region_ord (fun _ => True) [(0, 0), (0, 1), (0, 2), (0, 3), (0, 4), (0, 5), (0, 6), (0, 7), (0, 8), (0, 9), (0, 10), (3, 11), (3, 12), (0, 13)] (by kernel_rfl) (by kernel_rfl) ?_
        go_wp2_with (first
          | (refine ord_drop rfl rfl (fun K hK => ?_); refine wpO_append_rd (.tmp 13) (.tmp 24) 22 22 rfl ti24 rfl (HR.out.mod ((Mod.refl (fun _ => False) wr).alloc _).drew (fun _ _ => id)) hlen.out rfl (Src.ofRd ti24.ht 2 2 (Rd.dr (Rd.news wr [_, _] 5)) (by simp) (by simp [Value.oneCell'])) (by omega) (by have := hNB.out; omega) (by have := hNB.out; unfold maxLen; omega) ?_; intro g5 c5 w5 hO5 hM5 hg5
             have HO5 := Lib.hid (hXS.out _ _ _ hO5)
             have HM5 := Lib.hid ((hM.out.alloc _).drew.trans hM5)
             have HG5 : Hid (w.heap.size ≤ g5) := Nat.le_trans (hM.out.alloc _).drew.size hg5
             clear hO5 hM5 hg5
             refine hK _ _ ?_; clear hK K)
          | (refine ord_pure rfl rfl rfl (fun K hK => ?_); go_big_quiet_op; refine hK _ ?_; clear hK K)
                        | (refine ord_skip rfl rfl ?_; simp only [Act.put, List.setIfInBounds_toArray, List.set_cons_zero, List.set_cons_succ])
                        | (refine ord_held rfl rfl rfl (True.intro) (fun K hK => ?_); apply Exists.intro; refine ⟨fun w' hs => ?_, hK _ ?_⟩; (revert hs; dsimp only; (try simp only [and_imp]); intros; go_simp; rfl); clear hK K)
                        | (refine ord_keep rfl rfl (True.intro) (fun K hK => ?_))
                        | (refine ord_drop rfl rfl (fun K hK => ?_))
                        | (refine ord_nil ?_))
        go_roundw
        case rel => exact ⟨k + 1, g5, c5, _, rfl, by go_num, hlt, Lib.hid (by have := hn.out; omega), HG5, HM5, Lib.hid (.inr HO5.out)⟩
        case measure => simp [intOf]; omega
      · have HR := Lib.hid hR; clear hR hO
        go_wp2_with fail
        refine wp_region_ord (fun _ => True) [(0, 0), (0, 1), (0, 2), (0, 3), (0, 4), (0, 5), (0, 6), (0, 7), (0, 8), (0, 9), (0, 10), (3, 11), (3, 12), (0, 13)] (by kernel_rfl) (by kernel_rfl) ?_
        go_wp2_with (first
          | (refine ord_drop rfl rfl (fun K hK => ?_); refine wpO_append (.tmp 13) (.tmp 24) 22 22 rfl ti24 rfl (HR.out.alloc _).drew rfl (Src.ofRd ti24.ht 2 2 (Rd.dr (Rd.news wr [_, _] 5)) (by simp) (by simp [Value.oneCell'])) (by have := hNB.out; omega) (by have := hNB.out; unfold maxLen; omega) ?_; intro a5 c5 w5 hO5 hG5 _
             obtain ⟨g5, rfl⟩ := hO5.atHead (by omega)
             have HO5 := Lib.hid (hXS.out _ _ _ hO5)
             have HM5 := Lib.hid ((hM.out.alloc _).drew.step hG5.mod (fun i hi hs => by have := hg.out; simp at hs; omega))
             have HG5 : Hid (w.heap.size ≤ g5) := Lib.hid (by
               have h1 := hg.out
               have h2 := (hM.out.alloc (.cells #[.int .u8 ((97 + (s[k].toNat : Int) / 16) % 256), .int .u8 (97 + (s[k].toNat : Int) % 16)] 5)).drew.size
               rcases hG5.pos with e | ⟨g', e, hg'⟩
               · simp at e; omega
               · simp at e; omega)
             clear hO5 hG5
             refine hK _ _ ?_; clear hK K)
          | (refine ord_pure rfl rfl rfl (fun K hK => ?_); go_big_quiet_op; refine hK _ ?_; clear hK K)
                        | (refine ord_skip rfl rfl ?_; simp only [Act.put, List.setIfInBounds_toArray, List.set_cons_zero, List.set_cons_succ])
                        | (refine ord_held rfl rfl rfl (True.intro) (fun K hK => ?_); apply Exists.intro; refine ⟨fun w' hs => ?_, hK _ ?_⟩; (revert hs; dsimp only; (try simp only [and_imp]); intros; go_simp; rfl); clear hK K)
                        | (refine ord_keep rfl rfl (True.intro) (fun K hK => ?_))
                        | (refine ord_drop rfl rfl (fun K hK => ?_))
                        | (refine ord_nil ?_))
        go_roundw
        case rel => exact ⟨k + 1, g5, c5, _, rfl, by go_num, hlt, Lib.hid (by have := hn.out; omega), HG5, HM5, Lib.hid (.inr HO5.out)⟩
        case measure => simp [intOf]; omega
    · obtain rfl : k = s.size := by omega
      have hcv : (convert 22 9 (.slice (some ⟨g, 0, none⟩) n c)).run Tryd.prog wr = .ok (.string (nameB s)) wr := by
        have ht : s.data.toList.take s.size = s.data.toList := List.take_of_length_le (Nat.le_refl _)
        have hl : n = (nameL s.data.toList).length := by
          rw [nameL_len, hn.out]; rfl
        have hR : Rd wr (some ⟨g, 0, none⟩) (bts (nameL s.data.toList)) := by
          rcases hO.out with ⟨_, h⟩ | h
          · rw [ht] at h; exact h
          · rw [ht] at h; exact h.rd
        rw [hl]
        exact run_bytes_str (P := Tryd.prog) (e := 5) (by kernel_rfl) (by kernel_rfl) (by kernel_rfl) c hR
      go_wp2_with fail
      go_ret
      exact ⟨rfl, hM.out⟩
theorem rnG_go (t : Tm) (w : World) (hs : t.text.size < 2 ^ 30) : Calls Tryd.prog 90 #[tmV t] w fun e w' => e = .returned (tmV (rnG nameB t)) ∧ Mod (fun _ => False) w w' := by
  obtain ⟨k, x⟩ := t
  unfold tmV
  simp only at hs ⊢
  have HN := Lib.hid (fun w => name_any x w hs)
  by_cases hv : k = 1 ∨ (5 ≤ k ∧ k ≤ 7)
  · have hr : rnG nameB ⟨k, x⟩ = ⟨k, nameB x⟩ := by unfold rnG; rw [if_pos hv]
    rw [hr]
    clear hr
    generalize nameB x = y at *
    rcases hv with rfl | ⟨h5, h7⟩
    · go_enter Tryd.func90, Tryd.ntmps90
      go_wp2_with fail
      refine (HN.out _).mono ?_
      rintro e w1 ⟨rfl, hM1⟩
      have HM1 := Lib.hid hM1
      have q0 : w1.heap[w.heap.size]? = some (.cells #[.int .i64 1, .string x] 60 (0, 0)) := hM1.at (heap_two1 w _ _) id
      have q1 : w1.heap[w.heap.size + 1]? = some (.cells #[.int .i64 0, .string ⟨#[]⟩] 60 (0, 0)) := hM1.at (heap_two2 w _ _) id
      have Q0 := Lib.hid q0; have Q1 := Lib.hid q1
      have t0 := cell_at (j := 0) q0 rfl
      have t1 := cell_at (j := 1) q0 rfl
      have ft : w1.frozen? ⟨w.heap.size, 1, none⟩ = false := frozen_at q0
      have r0 := cell_at (j := 0) q1 rfl
      have r1 := cell_at (j := 1) q1 rfl
      have g0 : w1.frozen? ⟨w.heap.size + 1, 0, none⟩ = false := frozen_at q1
      have g1 : w1.frozen? ⟨w.heap.size + 1, 1, none⟩ = false := frozen_at q1
      clear hM1 q0 q1
      go_wp2_with fail
      have hm : Mod (fun k => k = w.heap.size ∨ k = w.heap.size + 1) w1 (((w1.setCell ⟨w.heap.size, 1, none⟩ (.string y)).setCell ⟨w.heap.size + 1, 0, none⟩ (.int .i64 1)).setCell ⟨w.heap.size + 1, 1, none⟩ (.string y)) :=
        (((Mod.refl _ w1).setCell (p := ⟨w.heap.size, 1, none⟩) (fun _ => .inl rfl) _).setCell (p := ⟨w.heap.size + 1, 0, none⟩) (fun _ => .inr rfl) _).setCell (p := ⟨w.heap.size + 1, 1, none⟩) (fun _ => .inr rfl) _
      have hb2 := heap_setCell_at (j := 1) (.string y) (heap_setCell_at (j := 0) (.int .i64 1) (((Mod.refl (fun k => k = w.heap.size) w1).setCell (p := ⟨w.heap.size, 1, none⟩) (fun _ => rfl) (.string y)).at Q1.out (by omega)))
      have z0 := cell_at (j := 0) (u := .int .i64 1) hb2 rfl
      have z1 := cell_at (j := 1) (u := .string y) hb2 rfl
      generalize (((w1.setCell ⟨w.heap.size, 1, none⟩ (.string y)).setCell ⟨w.heap.size + 1, 0, none⟩ (.int .i64 1)).setCell ⟨w.heap.size + 1, 1, none⟩ (.string y)) = W at *
      exact bodyPost_ret (v := .agg #[.int .i64 1, .string y]) (by simp [results, Tryd.results90, go_sem, z0, z1]) rfl
        ⟨rfl, ((((Mod.refl (fun _ => False) w).alloc _).alloc _).trans HM1.out).step hm (fun i hi hs => by omega)⟩
    · have hk1 : (k == 1) = false := by simp; omega
      go_enter Tryd.func90, Tryd.ntmps90
      go_wp2_with fail
      refine (HN.out _).mono ?_
      rintro e w1 ⟨rfl, hM1⟩
      have HM1 := Lib.hid hM1
      have q0 : w1.heap[w.heap.size]? = some (.cells #[.int .i64 k, .string x] 60 (0, 0)) := hM1.at (heap_two1 w _ _) id
      have q1 : w1.heap[w.heap.size + 1]? = some (.cells #[.int .i64 0, .string ⟨#[]⟩] 60 (0, 0)) := hM1.at (heap_two2 w _ _) id
      have Q0 := Lib.hid q0; have Q1 := Lib.hid q1
      have t0 := cell_at (j := 0) q0 rfl
      have t1 := cell_at (j := 1) q0 rfl
      have ft : w1.frozen? ⟨w.heap.size, 1, none⟩ = false := frozen_at q0
      have r0 := cell_at (j := 0) q1 rfl
      have r1 := cell_at (j := 1) q1 rfl
      have g0 : w1.frozen? ⟨w.heap.size + 1, 0, none⟩ = false := frozen_at q1
      have g1 : w1.frozen? ⟨w.heap.size + 1, 1, none⟩ = false := frozen_at q1
      clear hM1 q0 q1
      go_wp2_with fail
      have hm : Mod (fun k => k = w.heap.size ∨ k = w.heap.size + 1) w1 (((w1.setCell ⟨w.heap.size, 1, none⟩ (.string y)).setCell ⟨w.heap.size + 1, 0, none⟩ (.int .i64 k)).setCell ⟨w.heap.size + 1, 1, none⟩ (.string y)) :=
        (((Mod.refl _ w1).setCell (p := ⟨w.heap.size, 1, none⟩) (fun _ => .inl rfl) _).setCell (p := ⟨w.heap.size + 1, 0, none⟩) (fun _ => .inr rfl) _).setCell (p := ⟨w.heap.size + 1, 1, none⟩) (fun _ => .inr rfl) _
      have hb2 := heap_setCell_at (j := 1) (.string y) (heap_setCell_at (j := 0) (.int .i64 k) (((Mod.refl (fun k => k = w.heap.size) w1).setCell (p := ⟨w.heap.size, 1, none⟩) (fun _ => rfl) (.string y)).at Q1.out (by omega)))
      have z0 := cell_at (j := 0) (u := .int .i64 k) hb2 rfl
      have z1 := cell_at (j := 1) (u := .string y) hb2 rfl
      generalize (((w1.setCell ⟨w.heap.size, 1, none⟩ (.string y)).setCell ⟨w.heap.size + 1, 0, none⟩ (.int .i64 k)).setCell ⟨w.heap.size + 1, 1, none⟩ (.string y)) = W at *
      exact bodyPost_ret (v := .agg #[.int .i64 k, .string y]) (by simp [results, Tryd.results90, go_sem, z0, z1]) rfl
        ⟨rfl, ((((Mod.refl (fun _ => False) w).alloc _).alloc _).trans HM1.out).step hm (fun i hi hs => by omega)⟩
  · have hr : rnG nameB ⟨k, x⟩ = ⟨k, x⟩ := by unfold rnG; rw [if_neg hv]
    rw [hr]
    clear hr
    have hk1 : (k == 1) = false := by simp; omega
    by_cases h5 : 5 ≤ k
    · have h7 : decide (k ≤ 7) = false := by simp; omega
      clear hv
      go_enter Tryd.func90, Tryd.ntmps90
      go_wp2_with fail
      have z0 : ((w.alloc (.cells #[.int .i64 k, .string x] 60)).alloc (.cells #[.int .i64 k, .string x] 60)).cell? ⟨w.heap.size + 1, 0, none⟩ = some (.int .i64 k) := cell_at (heap_two2 w _ _) rfl
      have z1 : ((w.alloc (.cells #[.int .i64 k, .string x] 60)).alloc (.cells #[.int .i64 k, .string x] 60)).cell? ⟨w.heap.size + 1, 1, none⟩ = some (.string x) := cell_at (heap_two2 w _ _) rfl
      exact bodyPost_ret (v := .agg #[.int .i64 k, .string x]) (by simp [results, Tryd.results90, go_sem, z0, z1]) rfl
        ⟨rfl, ((Mod.refl (fun _ => False) w).alloc _).alloc _⟩
    · have h7 : decide (5 ≤ k) = false := by simp; omega
      clear hv
      go_enter Tryd.func90, Tryd.ntmps90
      go_wp2_with fail
      have z0 : ((w.alloc (.cells #[.int .i64 k, .string x] 60)).alloc (.cells #[.int .i64 k, .string x] 60)).cell? ⟨w.heap.size + 1, 0, none⟩ = some (.int .i64 k) := cell_at (heap_two2 w _ _) rfl
      have z1 : ((w.alloc (.cells #[.int .i64 k, .string x] 60)).alloc (.cells #[.int .i64 k, .string x] 60)).cell? ⟨w.heap.size + 1, 1, none⟩ = some (.string x) := cell_at (heap_two2 w _ _) rfl
      exact bodyPost_ret (v := .agg #[.int .i64 k, .string x]) (by simp [results, Tryd.results90, go_sem, z0, z1]) rfl
        ⟨rfl, ((Mod.refl (fun _ => False) w).alloc _).alloc _⟩
end Go.Proofs.YtgplagdehfhffaaDoor
