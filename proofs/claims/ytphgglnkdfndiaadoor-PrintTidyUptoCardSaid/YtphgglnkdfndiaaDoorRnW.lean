/-
  PrintRenamed's names: name, renamedTerm, walked.
-/
import Derived.Test.YtphgglnkdfndiaaDoorRenL
import Derived.Test.YtphgglnkdfndiaaDoorOrdA
import Derived.Lib.SlBytesConst
import Derived.Test.YtphgglnkdfndiaaDoorOwG
import Derived.Test.YtphgglnkdfndiaaDoorNmG
namespace Go.Mine
open Go Go.RowKit
section
variable {P : Program} {w : World}
/-- append to a slice that is full, whoever it belongs to: a new one -/
theorem run_append_rd {t tx ty e : TypeId} {k bytes : Nat} (ti : TI P t e k bytes) {b o n : Nat} {xs : List Value} (h : Rd w (some ⟨b, o, none⟩) xs) (hxl : xs.length = n * k)
    {x : Value} {m : Nat} {news : List Value} (hs : Src P k tx x m news w) (hm : 0 < m) (hb : (n + m) * bytes ≤ 140737488355328) (h63 : n + m ≤ maxLen) :
    ∃ g c' w', (Builtin.append_ #[t, tx] ty #[.slice (some ⟨b, o, none⟩) n n, x]).run P w = .ok (.slice (some ⟨g, 0, none⟩) (n + m) c') w' ∧ Own w' e k (some ⟨g, 0, none⟩) (n + m) c' (xs ++ news) ∧
      Mod (fun _ => False) w w' ∧ w.heap.size ≤ g := by
  obtain ⟨i, z, hi, hz, rfl, rfl, hzs⟩ := ti.ex
  have hlen : (xs ++ news).length = (n + m) * i.size := by rw [List.length_append, hxl, hs.newsLen, Nat.add_mul]
  have hnew : n + m ≤ 9223372036854775807 := by unfold maxLen at h63; omega
  have holds : ∀ j u, xs[j]? = some u → w.drew.cell? ((⟨b, o, none⟩ : Addr).add j) = some u := fun j u hu => by
    have hadd : (⟨b, o, none⟩ : Addr).add j = ⟨b, o + j, none⟩ := by unfold Addr.add; split <;> simp_all
    rw [hadd]
    obtain ⟨b', o', e', hc⟩ := h j u hu
    cases e'
    simpa using hc
  have hold := run_firstCells_some (P := P) w.drew i.size n ⟨b, o, none⟩ n n xs hxl holds
  have hr := run_append_grow_src (P := P) w t tx ty e i z ti.ht hi hz (some ⟨b, o, none⟩) n n xs hold x m news hs (by omega) (by omega) (growslice_fits (by omega) hb)
  have hge := grownCap_ge w (n + m) n e
  have hcm : grownCap w (n + m) n e ≤ maxLen := grownCap_le_maxLen w (n + m) n e h63
  refine ⟨_, _, _, hr, ⟨hlen, .inr ⟨w.heap.size, _, rfl, heap_alloc_new w.drew _, hge, hcm, ?_, ?_⟩⟩, (Mod.refl _ w).drew.alloc _, Nat.le_refl _⟩
  · simp only [Array.size_append, List.size_toArray, size_zeroCells, hzs, hlen, ← Nat.add_mul]
    congr 1
    omega
  · simp only [Array.toList_append]
    rw [← hlen]
    exact List.take_left
theorem wpO_append_rd {o : Oper} {A : Act} {K : Act → World → Prop} {Q : Exit → Act → World → Prop} (s x : Operand) (t tx : TypeId)
    (ho : o.op = .call { callee := .builtin .append, args := #[s, x], argTypes := #[t, tx] }) {e : TypeId} {k bytes : Nat} (ti : TI P t e k bytes)
    {b off n : Nat} {xs : List Value} (hs : A.eval s = .slice (some ⟨b, off, none⟩) n n) (h : Rd w (some ⟨b, off, none⟩) xs) (hxl : xs.length = n * k)
    {xv : Value} {m : Nat} {news : List Value} (hx : A.eval x = xv) (hsrc : Src P k tx xv m news w) (hm : 0 < m) (hb : (n + m) * bytes ≤ 140737488355328) (h63 : n + m ≤ maxLen)
    (hk : ∀ g c' w', Own w' e k (some ⟨g, 0, none⟩) (n + m) c' (xs ++ news) → Mod (fun _ => False) w w' → w.heap.size ≤ g → K (A.put o.dst (.slice (some ⟨g, 0, none⟩) (n + m) c')) w') : o.wp P A w K Q := by
  obtain ⟨g, c', w', hr, h2, h3, h4⟩ := run_append_rd (ty := o.type) ti h hxl hsrc hm hb h63
  unfold Oper.wp execOp
  simp only [ho, resolve, invoke, builtin, Sem.run_bind, Sem.run_pure, Result.andThen_ok, List.map_toArray, List.map_cons, List.map_nil, hs, hx, hr]
  exact hk g c' w' h2 h3 h4
end
end Go.Mine
namespace Go.Proofs.YtphgglnkdfndiaaDoor
open Go Go.RowKit Go.Mine
set_option linter.unusedVariables false
set_option maxHeartbeats 4000000
set_option maxRecDepth 100000

theorem nameL_snoc (l : List UInt8) (c : UInt8) : nameL (l ++ [c]) = nameL l ++ nmG c := by
  unfold nameL; rw [List.flatMap_append]; simp
theorem bts_nmG (c : UInt8) : bts (nmG c) = [.int .u8 (97 + (c.toNat : Int) / 16), .int .u8 (97 + (c.toNat : Int) % 16)] := by
  have h : ∀ n : Fin 256, (97 + UInt8.ofNat n.1 / 16 : UInt8).toNat = 97 + n.1 / 16 ∧ (97 + UInt8.ofNat n.1 % 16 : UInt8).toNat = 97 + n.1 % 16 := by decide +kernel
  have := h ⟨c.toNat, c.toNat_lt⟩
  simp only [UInt8.ofNat_toNat] at this
  unfold nmG bts
  simp only [List.map_cons, List.map_nil]
  rw [this.1, this.2]
  simp
theorem rd_row_fz (w : World) (l : List UInt8) (e : TypeId) (fz : Nat × Nat) : Rd (w.alloc (.cells (bts l).toArray e fz)) (some ⟨w.heap.size, 0, none⟩) (bts l) := by
  intro i x hi
  refine ⟨_, _, rfl, ?_⟩
  rw [cell_of_row _ w.heap.size _ (bts l).toArray e fz (heap_alloc_new w _)]
  simpa using hi
theorem name_any (s : ByteArray) (w : World) (hs : s.size < 2 ^ 30) : Calls Tryd.prog 59 #[.string s] w fun e w' => e = .returned (.string (nameB s)) ∧ Mod (fun _ => False) w w' := by
  have kc := fun (w : World) (C : Array Value) (n c : Nat) => Lib.run_convert_bytes_const (P := Tryd.prog) w 99 5 C n c Tryd.underlying99 Tryd.underlying5
  go_enter Tryd.func59, Tryd.ntmps59
  go_wp2_with fail
  clear kc
  obtain ⟨w0, hw0⟩ : ∃ v, v = w.alloc (.cells #[.int .u8 90] 5 (1, 2)) := ⟨_, rfl⟩
  have HM0 : Hid (Mod (fun _ => False) w w0) := by rw [hw0]; exact (Mod.refl _ w).alloc _
  have HR0 : Hid (Rd w0 (some ⟨w.heap.size, 0, none⟩) (bts [90])) := by rw [hw0]; exact rd_row_fz w _ _ _
  rw [← hw0]
  clear hw0
  go_loopw [3, 4] (fun bv iv wr => ∃ (k g c n : Nat), bv = .slice (some ⟨g, 0, none⟩) n c ∧ iv = .int .i64 k ∧ k ≤ s.size ∧ Hid (n = 2 * k + 1) ∧ Hid (w.heap.size ≤ g) ∧ Hid (Mod (fun _ => False) w wr) ∧
    Hid ((c = n ∧ Rd wr (some ⟨g, 0, none⟩) (bts (nameL (s.data.toList.take k)))) ∨ Mine.Own wr 5 1 (some ⟨g, 0, none⟩) n c (bts (nameL (s.data.toList.take k))))) (fun _ iv _ => s.size - (intOf iv).toNat)
  case atStart => exact ⟨0, w.heap.size, 1, 1, rfl, rfl, Nat.zero_le _, Lib.hid rfl, Lib.hid (Nat.le_refl _), HM0, Lib.hid (.inl ⟨rfl, HR0.out⟩)⟩
  case round =>
    obtain ⟨k, g, c, n, rfl, rfl, hk, hn, hg, hM, hO⟩ := hrel
    by_cases hlt : k < s.size
    · obtain ⟨x, hx⟩ : ∃ x, x = s[k] := ⟨_, rfl⟩
      have HX : Hid (s.data.toList.take (k + 1) = s.data.toList.take k ++ [x]) := Lib.hid (by
        rw [hx]
        have := List.take_succ_eq_append_getElem (l := s.data.toList) (i := k) (by simpa using hlt)
        rw [this]; rfl)
      have hx256 : x.toNat < 256 := x.toNat_lt
      have hnb : n < 2 ^ 32 := by have := hn.out; omega
      have hNB : Hid (n < 2 ^ 32) := hnb
      have hXS : Hid (∀ c' : Nat, ∀ w5 : World, ∀ g5 : Nat, Mine.Own w5 5 1 (some ⟨g5, 0, none⟩) (n + 2) c' (bts (nameL (s.data.toList.take k)) ++ [.int .u8 ((97 + (s[k].toNat : Int) / 16) % 256), .int .u8 (97 + (s[k].toNat : Int) % 16)]) → Mine.Own w5 5 1 (some ⟨g5, 0, none⟩) (n + 2) c' (bts (nameL (s.data.toList.take (k + 1))))) := Lib.hid (fun c' w5 g5 h => by
        rw [HX.out, nameL_snoc, bts_append, bts_nmG, hx]
        have e : (97 + (s[k].toNat : Int) / 16) % 256 = 97 + (s[k].toNat : Int) / 16 := by have := s[k].toNat_lt; omega
        rw [e] at h
        exact h)
      have hlen : Hid ((bts (nameL (s.data.toList.take k))).length = n * 1) := Lib.hid (by
        have h1 : (s.data.toList.take k).length = k := by rw [List.length_take]; have : s.data.toList.length = s.size := rfl; omega
        unfold bts
        rw [List.length_map, nameL_len, h1, hn.out]; omega)
      clear hx256 hnb hx
      rcases hO.out with ⟨rfl, hR⟩ | hR
      · have HR := Lib.hid hR; clear hR hO
        go_wp2_with fail
        refine wp_region_ord (fun _ => True) [(0, 0), (0, 1), (0, 2), (0, 3), (0, 4), (0, 5), (0, 6), (0, 7), (0, 8), (0, 9), (0, 10), (3, 11), (3, 12), (0, 13)] (by kernel_rfl) (by kernel_rfl) ?_
        go_wp2_with (first
          | (refine ord_drop rfl rfl (fun K hK => ?_); refine wpO_append_rd (.tmp 13) (.tmp 24) 99 99 rfl ti24 rfl (HR.out.mod ((Mod.refl (fun _ => False) wr).alloc _).drew (fun _ _ => id)) hlen.out rfl (Src.ofRd ti24.ht 2 2 (Rd.dr (Rd.news wr [_, _] 5)) (by simp) (by simp [Value.oneCell'])) (by omega) (by have := hNB.out; omega) (by have := hNB.out; unfold maxLen; omega) ?_; intro g5 c5 w5 hO5 hM5 hg5
             have HO5 := Lib.hid (hXS.out _ _ _ hO5)
             have HM5 := Lib.hid ((hM.out.alloc _).drew.trans hM5)
             have HG5 : Hid (w.heap.size ≤ g5) := Nat.le_trans (hM.out.alloc _).drew.size hg5
             clear hO5 hM5 hg5
             refine hK _ _ ?_; clear hK K)
          | (refine ord_pure rfl rfl rfl (fun K hK => ?_); go_big_quiet_op; refine hK _ ?_; clear hK K)
                                                                | (refine ord_skip rfl rfl ?_; simp only [Act.put, List.setIfInBounds_toArray, List.set_cons_zero, List.set_cons_succ])
                                                                | (refine ord_held rfl rfl rfl (True.intro) (fun K hK => ?_); apply Exists.intro; refine ⟨fun w' hs => ?_, hK _ ?_⟩; (revert hs; dsimp only; (try simp only [and_imp]); intros; go_simp; rfl); clear hK K)
                                                                | (refine ord_keep rfl rfl (True.intro) (fun K hK => ?_))
                                                                | (refine ord_drop rfl rfl (fun K hK => ?_))
                                                                | (refine ord_nil ?_))
        go_roundw
        case rel => exact ⟨k + 1, g5, c5, _, rfl, by go_num, hlt, Lib.hid (by have := hn.out; omega), HG5, HM5, Lib.hid (.inr HO5.out)⟩
        case measure => simp [intOf]; omega
      · have HR := Lib.hid hR; clear hR hO
        go_wp2_with fail
        refine wp_region_ord (fun _ => True) [(0, 0), (0, 1), (0, 2), (0, 3), (0, 4), (0, 5), (0, 6), (0, 7), (0, 8), (0, 9), (0, 10), (3, 11), (3, 12), (0, 13)] (by kernel_rfl) (by kernel_rfl) ?_
        go_wp2_with (first
          | (refine ord_drop rfl rfl (fun K hK => ?_); refine wpO_append (.tmp 13) (.tmp 24) 99 99 rfl ti24 rfl (HR.out.alloc _).drew rfl (Src.ofRd ti24.ht 2 2 (Rd.dr (Rd.news wr [_, _] 5)) (by simp) (by simp [Value.oneCell'])) (by have := hNB.out; omega) (by have := hNB.out; unfold maxLen; omega) ?_; intro a5 c5 w5 hO5 hG5 _
             obtain ⟨g5, rfl⟩ := hO5.atHead (by omega)
             have HO5 := Lib.hid (hXS.out _ _ _ hO5)
             have HM5 := Lib.hid ((hM.out.alloc _).drew.step hG5.mod (fun i hi hs => by have := hg.out; simp at hs; omega))
             have HG5 : Hid (w.heap.size ≤ g5) := Lib.hid (by
               have h1 := hg.out
               have h2 := (hM.out.alloc (.cells #[.int .u8 ((97 + (s[k].toNat : Int) / 16) % 256), .int .u8 (97 + (s[k].toNat : Int) % 16)] 5)).drew.size
               rcases hG5.pos with e | ⟨g', e, hg'⟩
               · simp at e; omega
               · simp at e; omega)
             clear hO5 hG5
             refine hK _ _ ?_; clear hK K)
          | (refine ord_pure rfl rfl rfl (fun K hK => ?_); go_big_quiet_op; refine hK _ ?_; clear hK K)
                                                                | (refine ord_skip rfl rfl ?_; simp only [Act.put, List.setIfInBounds_toArray, List.set_cons_zero, List.set_cons_succ])
                                                                | (refine ord_held rfl rfl rfl (True.intro) (fun K hK => ?_); apply Exists.intro; refine ⟨fun w' hs => ?_, hK _ ?_⟩; (revert hs; dsimp only; (try simp only [and_imp]); intros; go_simp; rfl); clear hK K)
                                                                | (refine ord_keep rfl rfl (True.intro) (fun K hK => ?_))
                                                                | (refine ord_drop rfl rfl (fun K hK => ?_))
                                                                | (refine ord_nil ?_))
        go_roundw
        case rel => exact ⟨k + 1, g5, c5, _, rfl, by go_num, hlt, Lib.hid (by have := hn.out; omega), HG5, HM5, Lib.hid (.inr HO5.out)⟩
        case measure => simp [intOf]; omega
    · obtain rfl : k = s.size := by omega
      have hcv : (convert 99 9 (.slice (some ⟨g, 0, none⟩) n c)).run Tryd.prog wr = .ok (.string (nameB s)) wr := by
        have ht : s.data.toList.take s.size = s.data.toList := List.take_of_length_le (Nat.le_refl _)
        have hl : n = (nameL s.data.toList).length := by
          rw [nameL_len, hn.out]; rfl
        have hR : Rd wr (some ⟨g, 0, none⟩) (bts (nameL s.data.toList)) := by
          rcases hO.out with ⟨_, h⟩ | h
          · rw [ht] at h; exact h
          · rw [ht] at h; exact h.rd
        rw [hl]
        exact run_bytes_str (P := Tryd.prog) (e := 5) (by kernel_rfl) (by kernel_rfl) (by kernel_rfl) c hR
      go_wp2_with fail
      go_ret
      exact ⟨rfl, hM.out⟩
theorem rnG_go (t : Tm) (w : World) (hs : t.text.size < 2 ^ 30) : Calls Tryd.prog 34 #[tmV t] w fun e w' => e = .returned (tmV (rnG nameB t)) ∧ Mod (fun _ => False) w w' := by
  obtain ⟨k, x⟩ := t
  unfold tmV
  simp only at hs ⊢
  have HN := Lib.hid (fun w => name_any x w hs)
  by_cases hv : k = 1 ∨ (5 ≤ k ∧ k ≤ 7)
  · have hr : rnG nameB ⟨k, x⟩ = ⟨k, nameB x⟩ := by unfold rnG; rw [if_pos hv]
    rw [hr]
    clear hr
    generalize nameB x = y at *
    rcases hv with rfl | ⟨h5, h7⟩
    · go_enter Tryd.func34, Tryd.ntmps34
      go_wp2_with fail
      refine (HN.out _).mono ?_
      rintro e w1 ⟨rfl, hM1⟩
      have HM1 := Lib.hid hM1
      have q0 : w1.heap[w.heap.size]? = some (.cells #[.int .i64 1, .string x] 42 (0, 0)) := hM1.at (heap_two1 w _ _) id
      have q1 : w1.heap[w.heap.size + 1]? = some (.cells #[.int .i64 0, .string ⟨#[]⟩] 42 (0, 0)) := hM1.at (heap_two2 w _ _) id
      have Q0 := Lib.hid q0; have Q1 := Lib.hid q1
      have t0 := cell_at (j := 0) q0 rfl
      have t1 := cell_at (j := 1) q0 rfl
      have ft : w1.frozen? ⟨w.heap.size, 1, none⟩ = false := frozen_at q0
      have r0 := cell_at (j := 0) q1 rfl
      have r1 := cell_at (j := 1) q1 rfl
      have g0 : w1.frozen? ⟨w.heap.size + 1, 0, none⟩ = false := frozen_at q1
      have g1 : w1.frozen? ⟨w.heap.size + 1, 1, none⟩ = false := frozen_at q1
      clear hM1 q0 q1
      go_wp2_with fail
      have hm : Mod (fun k => k = w.heap.size ∨ k = w.heap.size + 1) w1 (((w1.setCell ⟨w.heap.size, 1, none⟩ (.string y)).setCell ⟨w.heap.size + 1, 0, none⟩ (.int .i64 1)).setCell ⟨w.heap.size + 1, 1, none⟩ (.string y)) :=
        (((Mod.refl _ w1).setCell (p := ⟨w.heap.size, 1, none⟩) (fun _ => .inl rfl) _).setCell (p := ⟨w.heap.size + 1, 0, none⟩) (fun _ => .inr rfl) _).setCell (p := ⟨w.heap.size + 1, 1, none⟩) (fun _ => .inr rfl) _
      have hb2 := heap_setCell_at (j := 1) (.string y) (heap_setCell_at (j := 0) (.int .i64 1) (((Mod.refl (fun k => k = w.heap.size) w1).setCell (p := ⟨w.heap.size, 1, none⟩) (fun _ => rfl) (.string y)).at Q1.out (by omega)))
      have z0 := cell_at (j := 0) (u := .int .i64 1) hb2 rfl
      have z1 := cell_at (j := 1) (u := .string y) hb2 rfl
      generalize (((w1.setCell ⟨w.heap.size, 1, none⟩ (.string y)).setCell ⟨w.heap.size + 1, 0, none⟩ (.int .i64 1)).setCell ⟨w.heap.size + 1, 1, none⟩ (.string y)) = W at *
      exact bodyPost_ret (v := .agg #[.int .i64 1, .string y]) (by simp [results, Tryd.results34, go_sem, z0, z1]) rfl
        ⟨rfl, ((((Mod.refl (fun _ => False) w).alloc _).alloc _).trans HM1.out).step hm (fun i hi hs => by omega)⟩
    · have hk1 : (k == 1) = false := by simp; omega
      go_enter Tryd.func34, Tryd.ntmps34
      go_wp2_with fail
      refine (HN.out _).mono ?_
      rintro e w1 ⟨rfl, hM1⟩
      have HM1 := Lib.hid hM1
      have q0 : w1.heap[w.heap.size]? = some (.cells #[.int .i64 k, .string x] 42 (0, 0)) := hM1.at (heap_two1 w _ _) id
      have q1 : w1.heap[w.heap.size + 1]? = some (.cells #[.int .i64 0, .string ⟨#[]⟩] 42 (0, 0)) := hM1.at (heap_two2 w _ _) id
      have Q0 := Lib.hid q0; have Q1 := Lib.hid q1
      have t0 := cell_at (j := 0) q0 rfl
      have t1 := cell_at (j := 1) q0 rfl
      have ft : w1.frozen? ⟨w.heap.size, 1, none⟩ = false := frozen_at q0
      have r0 := cell_at (j := 0) q1 rfl
      have r1 := cell_at (j := 1) q1 rfl
      have g0 : w1.frozen? ⟨w.heap.size + 1, 0, none⟩ = false := frozen_at q1
      have g1 : w1.frozen? ⟨w.heap.size + 1, 1, none⟩ = false := frozen_at q1
      clear hM1 q0 q1
      go_wp2_with fail
      have hm : Mod (fun k => k = w.heap.size ∨ k = w.heap.size + 1) w1 (((w1.setCell ⟨w.heap.size, 1, none⟩ (.string y)).setCell ⟨w.heap.size + 1, 0, none⟩ (.int .i64 k)).setCell ⟨w.heap.size + 1, 1, none⟩ (.string y)) :=
        (((Mod.refl _ w1).setCell (p := ⟨w.heap.size, 1, none⟩) (fun _ => .inl rfl) _).setCell (p := ⟨w.heap.size + 1, 0, none⟩) (fun _ => .inr rfl) _).setCell (p := ⟨w.heap.size + 1, 1, none⟩) (fun _ => .inr rfl) _
      have hb2 := heap_setCell_at (j := 1) (.string y) (heap_setCell_at (j := 0) (.int .i64 k) (((Mod.refl (fun k => k = w.heap.size) w1).setCell (p := ⟨w.heap.size, 1, none⟩) (fun _ => rfl) (.string y)).at Q1.out (by omega)))
      have z0 := cell_at (j := 0) (u := .int .i64 k) hb2 rfl
      have z1 := cell_at (j := 1) (u := .string y) hb2 rfl
      generalize (((w1.setCell ⟨w.heap.size, 1, none⟩ (.string y)).setCell ⟨w.heap.size + 1, 0, none⟩ (.int .i64 k)).setCell ⟨w.heap.size + 1, 1, none⟩ (.string y)) = W at *
      exact bodyPost_ret (v := .agg #[.int .i64 k, .string y]) (by simp [results, Tryd.results34, go_sem, z0, z1]) rfl
        ⟨rfl, ((((Mod.refl (fun _ => False) w).alloc _).alloc _).trans HM1.out).step hm (fun i hi hs => by omega)⟩
  · have hr : rnG nameB ⟨k, x⟩ = ⟨k, x⟩ := by unfold rnG; rw [if_neg hv]
    rw [hr]
    clear hr
    have hk1 : (k == 1) = false := by simp; omega
    by_cases h5 : 5 ≤ k
    · have h7 : decide (k ≤ 7) = false := by simp; omega
      clear hv
      go_enter Tryd.func34, Tryd.ntmps34
      go_wp2_with fail
      have z0 : ((w.alloc (.cells #[.int .i64 k, .string x] 42)).alloc (.cells #[.int .i64 k, .string x] 42)).cell? ⟨w.heap.size + 1, 0, none⟩ = some (.int .i64 k) := cell_at (heap_two2 w _ _) rfl
      have z1 : ((w.alloc (.cells #[.int .i64 k, .string x] 42)).alloc (.cells #[.int .i64 k, .string x] 42)).cell? ⟨w.heap.size + 1, 1, none⟩ = some (.string x) := cell_at (heap_two2 w _ _) rfl
      exact bodyPost_ret (v := .agg #[.int .i64 k, .string x]) (by simp [results, Tryd.results34, go_sem, z0, z1]) rfl
        ⟨rfl, ((Mod.refl (fun _ => False) w).alloc _).alloc _⟩
    · have h7 : decide (5 ≤ k) = false := by simp; omega
      clear hv
      go_enter Tryd.func34, Tryd.ntmps34
      go_wp2_with fail
      have z0 : ((w.alloc (.cells #[.int .i64 k, .string x] 42)).alloc (.cells #[.int .i64 k, .string x] 42)).cell? ⟨w.heap.size + 1, 0, none⟩ = some (.int .i64 k) := cell_at (heap_two2 w _ _) rfl
      have z1 : ((w.alloc (.cells #[.int .i64 k, .string x] 42)).alloc (.cells #[.int .i64 k, .string x] 42)).cell? ⟨w.heap.size + 1, 1, none⟩ = some (.string x) := cell_at (heap_two2 w _ _) rfl
      exact bodyPost_ret (v := .agg #[.int .i64 k, .string x]) (by simp [results, Tryd.results34, go_sem, z0, z1]) rfl
        ⟨rfl, ((Mod.refl (fun _ => False) w).alloc _).alloc _⟩
end Go.Proofs.YtphgglnkdfndiaaDoor
/-
  PrintRenamed's renamedAtom, walked.
-/
namespace Go.Proofs.YtphgglnkdfndiaaDoor
open Go Go.RowKit Go.Mine
set_option linter.unusedVariables false
set_option maxHeartbeats 8000000
set_option maxRecDepth 100000

theorem renamedAtom_go (p : ByteArray) (ts : List Tm) (s : Value) (w : World) (ht : TsAt w s ts) (hn : ts.length < 2 ^ 30) (hk : ∀ t ∈ ts, t.text.size < 2 ^ 30) :
    Calls Tryd.prog 33 #[.agg #[.string p, s]] w fun e w' => ∃ g c, e = .returned (.agg #[.string p, .slice (some ⟨g, 0, none⟩) ts.length c]) ∧ OwnT w' g c (ts.map (rnG nameB)) ∧ w.heap.size ≤ g ∧ Mod (fun _ => False) w w' := by
  have hb0 : ((w.alloc (.cells #[.string p, s] 35)).alloc (.cells #[.string ⟨#[]⟩, .slice none 0 0] 35)).heap[w.heap.size]? = some (.cells #[.string p, s] 35 (0, 0)) := heap_two1 w _ _
  have hb1 : ((w.alloc (.cells #[.string p, s] 35)).alloc (.cells #[.string ⟨#[]⟩, .slice none 0 0] 35)).heap[w.heap.size + 1]? = some (.cells #[.string ⟨#[]⟩, .slice none 0 0] 35 (0, 0)) := heap_two2 w _ _
  have hm1 : Mod (fun _ => False) w ((w.alloc (.cells #[.string p, s] 35)).alloc (.cells #[.string ⟨#[]⟩, .slice none 0 0] 35)) := ((Mod.refl _ w).alloc _).alloc _
  have hz1 : ((w.alloc (.cells #[.string p, s] 35)).alloc (.cells #[.string ⟨#[]⟩, .slice none 0 0] 35)).heap.size = w.heap.size + 2 := by simp
  have HC := Lib.hid (ownAtom_any p ts s _ (ht.mod0 hm1) hn)
  have HH := Lib.hid (And.intro hb0 (And.intro hb1 (And.intro hm1 hz1)))
  have HK := Lib.hid hk
  obtain ⟨sa, sc, rfl, _⟩ := ht
  clear hb0 hb1 hm1 hz1 hk
  go_enter Tryd.func33, Tryd.ntmps33
  go_wp2_with fail
  obtain ⟨w1, hw1⟩ : ∃ w1, w1 = ((w.alloc (.cells #[.string p, .slice sa ts.length sc] 35)).alloc (.cells #[.string ⟨#[]⟩, .slice none 0 0] 35)) := ⟨_, rfl⟩
  rw [← hw1] at HC HH ⊢
  clear hw1
  obtain ⟨hb0, hb1, hm1, hz1⟩ := HH.out
  refine HC.out.mono ?_
  rintro e w2 ⟨g, c, rfl, hO, hg, hM2⟩
  have k0 := hM2.at hb0 id
  have k1 := hM2.at hb1 id
  have c0 := cell_at (j := 0) k0 rfl
  have c1 := cell_at (j := 1) k0 rfl
  have f0 : w2.frozen? ⟨w.heap.size, 0, none⟩ = false := frozen_at k0
  have f1 : w2.frozen? ⟨w.heap.size, 1, none⟩ = false := frozen_at k0
  have hms : Mod (fun b => b = w.heap.size) w2 ((w2.setCell ⟨w.heap.size, 0, none⟩ (.string p)).setCell ⟨w.heap.size, 1, none⟩ (.slice (some ⟨g, 0, none⟩) ts.length c)) := ((Mod.refl (fun b => b = w.heap.size) w2).setCell (p := ⟨w.heap.size, 0, none⟩) (fun _ => rfl) _).setCell (p := ⟨w.heap.size, 1, none⟩) (fun _ => rfl) _
  have hq0 : ((w2.setCell ⟨w.heap.size, 0, none⟩ (.string p)).setCell ⟨w.heap.size, 1, none⟩ (.slice (some ⟨g, 0, none⟩) ts.length c)).heap[w.heap.size]? = some (.cells #[.string p, .slice (some ⟨g, 0, none⟩) ts.length c] 35 (0, 0)) := heap_setCell_at (j := 1) (.slice (some ⟨g, 0, none⟩) ts.length c) (heap_setCell_at (j := 0) (.string p) k0)
  have HG : Hid (w.heap.size + 2 ≤ g) := by rw [← hz1]; exact hg
  have hgw := HG.out
  have hL := hO.lt
  have hz2 : w.heap.size + 2 ≤ ((w2.setCell ⟨w.heap.size, 0, none⟩ (.string p)).setCell ⟨w.heap.size, 1, none⟩ (.slice (some ⟨g, 0, none⟩) ts.length c)).heap.size := by have := hM2.size; simp; omega
  have HQ0 := Lib.hid hq0
  have HQ1 := Lib.hid (hms.at k1 (by omega))
  have HO0 := Lib.hid (hO.mod hms (by omega))
  have HMM := Lib.hid ((hm1.trans hM2).step hms (fun i hi e => by omega))
  have HZ2 := Lib.hid hz2
  clear hms hq0 k0 k1 hO hM2 hg hm1 hz1 hb0 hb1 HC HH hL hz2 hgw
  go_wp2_with fail
  obtain ⟨w3, hw3⟩ : ∃ w3, w3 = (w2.setCell ⟨w.heap.size, 0, none⟩ (.string p)).setCell ⟨w.heap.size, 1, none⟩ (.slice (some ⟨g, 0, none⟩) ts.length c) := ⟨_, rfl⟩
  rw [← hw3] at HQ0 HQ1 HO0 HMM HZ2 ⊢
  clear hw3 c0 c1 f0 f1
  go_loopw [3] (fun iv wr => ∃ k : Nat, iv = .int .i64 k ∧ k ≤ ts.length ∧ Hid (Mine.Own wr 42 2 (some ⟨g, 0, none⟩) (ts.length + 1) c (tmsC (((ts.take k).map (rnG nameB) ++ ts.drop k) ++ [tM]))) ∧
      Hid (Mod (fun b => b = g) w3 wr)) (fun iv _ => ts.length - (intOf iv).toNat)
  case atStart => exact ⟨0, rfl, Nat.zero_le _, Lib.hid HO0.out, Lib.hid (Mod.refl _ _)⟩
  case round =>
    obtain ⟨k, rfl, hk, hO, hM⟩ := hrel
    have hgw := HG.out
    have q0 := hM.out.at HQ0.out (by omega)
    have q1 := hM.out.at HQ1.out (by omega)
    have c0 := cell_at (j := 0) q0 rfl
    have c1 := cell_at (j := 1) q0 rfl
    have Q0 := Lib.hid q0; have Q1 := Lib.hid q1
    clear q0 q1
    by_cases hlt : k < ts.length
    · have h1 : ((ts.take k).map (rnG nameB)).length = k := by rw [List.length_map, List.length_take]; omega
      have hlen : (((ts.take k).map (rnG nameB) ++ ts.drop k) ++ [tM]).length = ts.length + 1 := by
        rw [List.length_append, List.length_append, h1, List.length_drop]; simp; omega
      have hget : (((ts.take k).map (rnG nameB) ++ ts.drop k) ++ [tM])[k]? = some ts[k] := by
        rw [List.append_assoc, List.getElem?_append_right (by omega), h1, Nat.sub_self, List.drop_eq_getElem_cons hlt]
        rfl
      obtain ⟨hg0, hg1⟩ := tmsC_get hget
      obtain ⟨b, o, hbe, x0⟩ := hO.out.rd _ _ hg0
      cases hbe
      obtain ⟨b, o, hbe, x1⟩ := hO.out.rd _ _ hg1
      cases hbe
      rw [Nat.zero_add] at x0 x1
      have hset : (((ts.take k).map (rnG nameB) ++ ts.drop k) ++ [tM]).set k (rnG nameB ts[k]) = ((ts.take (k + 1)).map (rnG nameB) ++ ts.drop (k + 1)) ++ [tM] := by
        rw [List.append_assoc, List.set_append_right _ _ (by omega), h1, Nat.sub_self, List.drop_eq_getElem_cons hlt, List.cons_append, List.set_cons_zero, List.take_succ_eq_append_getElem hlt, List.map_append, List.append_assoc, List.append_assoc]
        rfl
      have HT1 := Lib.hid (fun w => rnG_go ts[k] w (HK.out _ (List.getElem_mem hlt)))
      unfold tmV at HT1
      have HSET := Lib.hid hset
      have HTL := Lib.hid hlen
      clear hg0 hg1 hset hget hlen h1
      obtain ⟨⟨t1k, t1⟩, ht1⟩ : ∃ t1, t1 = rnG nameB ts[k] := ⟨_, rfl⟩
      rw [← ht1] at HT1 HSET
      clear ht1
      generalize ts[k] = t at *
      have X0 := Lib.hid x0; have X1 := Lib.hid x1; have C1 := Lib.hid c1
      go_wp2_with fail
      refine wp_region_ord (fun w' => w'.cell? ⟨w.heap.size, 1, none⟩ = some (.slice (some ⟨g, 0, none⟩) ts.length c) ∧ w'.cell? ⟨g, k * 2, none⟩ = some (.int .i64 t.kind) ∧ w'.cell? ⟨g, k * 2 + 1, none⟩ = some (.string t.text)) [(0, 0), (1, 1), (0, 2), (0, 3), (1, 4), (0, 5), (0, 6), (1, 7), (2, 8), (0, 9), (3, 10)] (by kernel_rfl) (by kernel_rfl) ?_
      go_wp2_with (first
        | (refine ord_pure rfl rfl rfl (fun K hK => ?_); go_big_quiet_op; refine hK _ ?_; clear hK K)
                                                                | (refine ord_skip rfl rfl ?_; simp only [Act.put, List.setIfInBounds_toArray, List.set_cons_zero, List.set_cons_succ])
                                                                | (refine ord_held rfl rfl rfl (⟨C1.out, X0.out, X1.out⟩) (fun K hK => ?_); apply Exists.intro; refine ⟨fun w' hs => ?_, hK _ ?_⟩; (revert hs; dsimp only; (try simp only [and_imp]); intros; go_simp; rfl); clear hK K)
                                                                | (refine ord_keep rfl rfl (⟨C1.out, X0.out, X1.out⟩) (fun K hK => ?_))
                                                                | (refine ord_drop rfl rfl (fun K hK => ?_))
                                                                | (refine ord_nil ?_))
      refine (HT1.out _).mono ?_
      rintro e w5 ⟨rfl, hM5⟩
      have hMr : Mod (fun _ => False) wr w5 := ((Mod.refl (fun _ => False) wr).drew).trans hM5
      have hO5 := hO.out.mod hMr (fun _ _ => id)
      have y0 := hMr.cell x0 id
      have y1 := hMr.cell x1 id
      have g0 := hO5.frozen (o := k * 2) (b := g) rfl
      have g1 := hO5.frozen (o := k * 2 + 1) (b := g) rfl
      refine hK _ _ ⟨hMr.cell C1.out id, y0, y1⟩ ?_; clear hK K
      have HMR := Lib.hid hMr; have HO5 := Lib.hid hO5
      clear hMr hO5 hM5 x0 x1
      go_wp2_with (first
        | (refine ord_pure rfl rfl rfl (fun K hK => ?_); go_big_quiet_op; refine hK _ ?_; clear hK K)
                                                                | (refine ord_skip rfl rfl ?_; simp only [Act.put, List.setIfInBounds_toArray, List.set_cons_zero, List.set_cons_succ])
                                                                | (refine ord_held rfl rfl rfl (trivial) (fun K hK => ?_); apply Exists.intro; refine ⟨fun w' hs => ?_, hK _ ?_⟩; (revert hs; dsimp only; (try simp only [and_imp]); intros; go_simp; rfl); clear hK K)
                                                                | (refine ord_keep rfl rfl (trivial) (fun K hK => ?_))
                                                                | (refine ord_drop rfl rfl (fun K hK => ?_))
                                                                | (refine ord_nil ?_))
      have hms : Mod (fun b => b = g) w5 ((w5.setCell ⟨g, k * 2, none⟩ (.int .i64 t1k)).setCell ⟨g, k * 2 + 1, none⟩ (.string t1)) := ((Mod.refl (fun b => b = g) w5).setCell (p := ⟨g, k * 2, none⟩) (fun _ => rfl) _).setCell (p := ⟨g, k * 2 + 1, none⟩) (fun _ => rfl) _
      have hOs := (HO5.out.store (k * 2) (.int .i64 t1k)).store (k * 2 + 1) (.string t1)
      have htt := tms_set _ k ⟨t1k, t1⟩ (by rw [HTL.out]; exact Nat.lt_succ_of_lt hlt)
      simp only at htt
      rw [htt, HSET.out] at hOs
      have H1 := Lib.hid hOs
      have H3 : Hid (Mod (fun b => b = g) w3 ((w5.setCell ⟨g, k * 2, none⟩ (.int .i64 t1k)).setCell ⟨g, k * 2 + 1, none⟩ (.string t1))) := (hM.out.step HMR.out (fun i _ e => e.elim)).step hms (fun i _ e => e)
      clear hOs htt hms y0 y1 g0 g1
      go_roundw
      case rel => exact ⟨k + 1, by go_num, hlt, H1, H3⟩
      case measure => simp [intOf]; omega
    · obtain rfl : k = ts.length := by omega
      rw [List.take_length, List.drop_length, List.append_nil] at hO
      have r0 := cell_at (j := 0) Q1.out rfl
      have r1 := cell_at (j := 1) Q1.out rfl
      have g0 : wr.frozen? ⟨w.heap.size + 1, 0, none⟩ = false := frozen_at Q1.out
      have g1 : wr.frozen? ⟨w.heap.size + 1, 1, none⟩ = false := frozen_at Q1.out
      go_wp2_with fail
      have hms : Mod (fun b => b = w.heap.size + 1) wr ((wr.setCell ⟨w.heap.size + 1, 0, none⟩ (.string p)).setCell ⟨w.heap.size + 1, 1, none⟩ (.slice (some ⟨g, 0, none⟩) ts.length c)) := ((Mod.refl (fun b => b = w.heap.size + 1) wr).setCell (p := ⟨w.heap.size + 1, 0, none⟩) (fun _ => rfl) _).setCell (p := ⟨w.heap.size + 1, 1, none⟩) (fun _ => rfl) _
      have hb2 := heap_setCell_at (j := 1) (.slice (some ⟨g, 0, none⟩) ts.length c) (heap_setCell_at (j := 0) (.string p) Q1.out)
      have z0 := cell_at (j := 0) (u := .string p) hb2 rfl
      have z1 := cell_at (j := 1) (u := .slice (some ⟨g, 0, none⟩) ts.length c) hb2 rfl
      generalize (wr.setCell ⟨w.heap.size + 1, 0, none⟩ (.string p)).setCell ⟨w.heap.size + 1, 1, none⟩ (.slice (some ⟨g, 0, none⟩) ts.length c) = W at *
      refine bodyPost_ret (v := .agg #[.string p, .slice (some ⟨g, 0, none⟩) ts.length c]) (by simp [results, Tryd.results33, go_sem, z0, z1]) rfl
        ⟨g, c, rfl, ?_, by omega, ?_⟩
      · have h2 := hO.out.mod hms (fun b hb e => by cases hb; have e' : g = w.heap.size + 1 := e; omega)
        unfold OwnT
        rw [List.length_map]
        exact h2
      · exact HMM.out.step ((hM.out.mono (T := fun b => b = g ∨ b = w.heap.size + 1) (fun _ _ e => .inl e)).step hms (fun i _ e => .inr e)) (fun i hi e => by omega)
end Go.Proofs.YtphgglnkdfndiaaDoor
/-
  PrintRenamed's renamed, walked.
-/
namespace Go.Proofs.YtphgglnkdfndiaaDoor
open Go Go.RowKit Go.Mine
set_option linter.unusedVariables false
set_option maxHeartbeats 8000000
set_option maxRecDepth 100000

theorem lms_set : ∀ (L : List (Lm × Value)) (k : Nat) (hk : k < L.length) (p : ByteArray) (ts : List Tm) (v : Value) (l r : Tm),
    ((((((lmsC L).set (k * 8 + 1) (.string p)).set (k * 8 + 2) v).set (k * 8 + 4) (.int .i64 l.kind)).set (k * 8 + 5) (.string l.text)).set (k * 8 + 6) (.int .i64 r.kind)).set (k * 8 + 7) (.string r.text) =
      lmsC (L.set k (⟨L[k].1.kind, ⟨p, ts⟩, L[k].1.op, l, r⟩, v))
  | [], k, hk, _, _, _, _, _ => absurd hk (Nat.not_lt_zero _)
  | x :: L, 0, _, _, _, _, _, _ => rfl
  | x :: L, k + 1, hk, p, ts, v, l, r => by
    have e : lmsC (x :: L) = lmC x ++ lmsC L := rfl
    have hl : (lmC x).length = 8 := rfl
    have e2 : ∀ y, lmsC ((x :: L).set (k + 1) y) = lmC x ++ lmsC (L.set k y) := fun y => rfl
    have sh : ∀ (l : List Value) (j : Nat) (u : Value), (lmC x ++ l).set ((k + 1) * 8 + j) u = lmC x ++ l.set (k * 8 + j) u := fun l j u => by
      rw [List.set_append_right _ _ (by rw [hl]; omega), hl, show (k + 1) * 8 + j - 8 = k * 8 + j by omega]
    rw [e, sh, sh, sh, sh, sh, sh, e2]
    congr 1
    exact lms_set L k (by simpa using hk) p ts v l r
/-- what is renamed so far -/
structure RnI (wr : World) (lo gb cb n : Nat) (sh : Value) (hts : List Tm) (L : List (Lm × Value)) : Prop where
  own : Mine.Own wr 44 8 (some ⟨gb, 0, none⟩) (n + 1) cb (lmsC (L ++ [(lM, .slice none 0 0)]))
  each : ∀ x ∈ L, TsF wr (fun b => b ≠ gb ∧ lo ≤ b) x.2 x.1.atom.terms
  head : TsF wr (fun b => b ≠ gb ∧ lo ≤ b) sh hts
theorem OwnT.f {w : World} {g c : Nat} {ts : List Tm} {G : Nat → Prop} (h : OwnT w g c ts) (hg : G g) : TsF w G (.slice (some ⟨g, 0, none⟩) ts.length c) ts := by
  obtain ⟨a, c', e, hr⟩ := h.at
  cases e
  exact ⟨_, _, rfl, hr, fun _ b hb => by cases hb; exact hg⟩
theorem RnI.mod0 {w w' : World} {lo gb cb n : Nat} {sh : Value} {hts : List Tm} {L : List (Lm × Value)} (h : RnI w lo gb cb n sh hts L) (m : Mod (fun _ => False) w w') : RnI w' lo gb cb n sh hts L :=
  ⟨h.own.mod m (fun _ _ => id), fun x hx => (h.each x hx).mod0 m, h.head.mod0 m⟩
theorem RnI.ofOwn {w : World} {S : Nat → Prop} {lo : Nat} {r : Rm} {gh ch gb cb : Nat} {xs : List X3} (h : OwnR w S r gh ch gb cb xs) (hS : ∀ b, S b → lo ≤ b) : RnI w lo gb cb r.body.length (.slice (some ⟨gh, 0, none⟩) r.head.terms.length ch) r.head.terms (xsV xs) := by
  have hl : xs.length = r.body.length := by rw [← h.hx, List.length_map]
  have hnd := h.nd
  rw [List.nodup_cons, List.nodup_cons] at hnd
  obtain ⟨n1, n2, n3⟩ := hnd
  refine ⟨by have := h.body; unfold OwnL at this; rw [hl] at this; exact this, fun x hx => ?_, h.head.f ⟨fun e => n1 (by rw [e]; exact List.mem_cons_self ..), hS _ (h.inS gh (by simp))⟩⟩
  obtain ⟨y, hy, rfl⟩ := List.mem_map.1 hx
  have hm : y.2.1 ∈ blks xs := List.mem_map.2 ⟨y, hy, rfl⟩
  exact (h.terms y hy).f ⟨fun e => n2 (by rw [← e]; exact hm), hS _ (h.inS _ (by simp [hm]))⟩
theorem renamed_goF (r : Rm) (s b : Value) (w : World) (ht : TsAt w s r.head.terms) (hl : LsAt w b r.body) (hs : SmallRm r) :
    Calls Tryd.prog 16 #[rmV r s b] w fun e w' => ∃ s' b', e = .returned (rmV (rnRm nameB r) s' b') ∧ TsF w' (fun b => w.heap.size ≤ b) s' (rnRm nameB r).head.terms ∧ LsF w' (fun b => w.heap.size ≤ b) b' (rnRm nameB r).body ∧ Mod (fun _ => False) w w' := by
  have hb0 : ((w.alloc (.cells #[.string r.head.pred, s, b] 38)).alloc (.cells #[.string ⟨#[]⟩, .slice none 0 0, .slice none 0 0] 38)).heap[w.heap.size]? = some (.cells #[.string r.head.pred, s, b] 38 (0, 0)) := heap_two1 w _ _
  have hb1 : ((w.alloc (.cells #[.string r.head.pred, s, b] 38)).alloc (.cells #[.string ⟨#[]⟩, .slice none 0 0, .slice none 0 0] 38)).heap[w.heap.size + 1]? = some (.cells #[.string ⟨#[]⟩, .slice none 0 0, .slice none 0 0] 38 (0, 0)) := heap_two2 w _ _
  have hm1 : Mod (fun _ => False) w ((w.alloc (.cells #[.string r.head.pred, s, b] 38)).alloc (.cells #[.string ⟨#[]⟩, .slice none 0 0, .slice none 0 0] 38)) := ((Mod.refl _ w).alloc _).alloc _
  have hz1 : ((w.alloc (.cells #[.string r.head.pred, s, b] 38)).alloc (.cells #[.string ⟨#[]⟩, .slice none 0 0, .slice none 0 0] 38)).heap.size = w.heap.size + 2 := by simp
  have HC := Lib.hid (own_any r s b _ (ht.mod0 hm1) (hl.mod0 hm1) hs.1.2.1 hs.2.1 (fun l hl => (hs.2.2 l hl).1.2.1))
  have HH := Lib.hid (And.intro hb0 (And.intro hb1 (And.intro hm1 hz1)))
  have HK := Lib.hid hs
  unfold rmV at HC ⊢
  obtain ⟨sa, sc, rfl, _⟩ := ht
  obtain ⟨ba, bc, _, rfl, _⟩ := hl
  obtain ⟨⟨pr, hts⟩, ls⟩ := r
  simp only at HC HH ⊢
  clear hb0 hb1 hm1 hz1 hs
  go_enter Tryd.func16, Tryd.ntmps16
  go_wp2_with fail
  obtain ⟨w1, hw1⟩ : ∃ w1, w1 = ((w.alloc (.cells #[.string pr, .slice sa hts.length sc, .slice ba ls.length bc] 38)).alloc (.cells #[.string ⟨#[]⟩, .slice none 0 0, .slice none 0 0] 38)) := ⟨_, rfl⟩
  rw [← hw1] at HC HH ⊢
  clear hw1
  obtain ⟨hb0, hb1, hm1, hz1⟩ := HH.out
  refine HC.out.mono ?_
  rintro e w2 ⟨gh, ch, gb, cb, xs, rfl, hOR, hM2⟩
  have k0 := hM2.at hb0 id
  have k1 := hM2.at hb1 id
  have c0 := cell_at (j := 0) k0 rfl
  have c1 := cell_at (j := 1) k0 rfl
  have c2 := cell_at (j := 2) k0 rfl
  have f0 : w2.frozen? ⟨w.heap.size, 0, none⟩ = false := frozen_at k0
  have f1 : w2.frozen? ⟨w.heap.size, 1, none⟩ = false := frozen_at k0
  have f2 : w2.frozen? ⟨w.heap.size, 2, none⟩ = false := frozen_at k0
  have hms : Mod (fun b => b = w.heap.size) w2 (((w2.setCell ⟨w.heap.size, 0, none⟩ (.string pr)).setCell ⟨w.heap.size, 1, none⟩ (.slice (some ⟨gh, 0, none⟩) hts.length ch)).setCell ⟨w.heap.size, 2, none⟩ (.slice (some ⟨gb, 0, none⟩) ls.length cb)) := (((Mod.refl (fun b => b = w.heap.size) w2).setCell (p := ⟨w.heap.size, 0, none⟩) (fun _ => rfl) _).setCell (p := ⟨w.heap.size, 1, none⟩) (fun _ => rfl) _).setCell (p := ⟨w.heap.size, 2, none⟩) (fun _ => rfl) _
  have hq1 := heap_setCell_at (j := 0) (.string pr) k0
  have hq2 := heap_setCell_at (j := 1) (.slice (some ⟨gh, 0, none⟩) hts.length ch) hq1
  have hq3 : (((w2.setCell ⟨w.heap.size, 0, none⟩ (.string pr)).setCell ⟨w.heap.size, 1, none⟩ (.slice (some ⟨gh, 0, none⟩) hts.length ch)).setCell ⟨w.heap.size, 2, none⟩ (.slice (some ⟨gb, 0, none⟩) ls.length cb)).heap[w.heap.size]? = some (.cells #[.string pr, .slice (some ⟨gh, 0, none⟩) hts.length ch, .slice (some ⟨gb, 0, none⟩) ls.length cb] 38 (0, 0)) := heap_setCell_at (j := 2) (.slice (some ⟨gb, 0, none⟩) ls.length cb) hq2
  have hgb : w.heap.size + 2 ≤ gb ∧ gb < w2.heap.size := by rw [← hz1]; exact hOR.inS gb (by simp)
  have hz2 : w.heap.size + 2 ≤ (((w2.setCell ⟨w.heap.size, 0, none⟩ (.string pr)).setCell ⟨w.heap.size, 1, none⟩ (.slice (some ⟨gh, 0, none⟩) hts.length ch)).setCell ⟨w.heap.size, 2, none⟩ (.slice (some ⟨gb, 0, none⟩) ls.length cb)).heap.size := by have := hM2.size; simp; omega
  have HG : Hid (w.heap.size + 2 ≤ gb) := hgb.1
  have HI := Lib.hid (RnI.ofOwn (lo := w.heap.size + 2) (hOR.mod hms (fun b hb e => by have e' : b = w.heap.size := e; rw [hz1] at hb; omega)) (fun b hb => by rw [hz1] at hb; exact hb.1))
  have HHT : Hid (TsAt (((w2.setCell ⟨w.heap.size, 0, none⟩ (.string pr)).setCell ⟨w.heap.size, 1, none⟩ (.slice (some ⟨gh, 0, none⟩) hts.length ch)).setCell ⟨w.heap.size, 2, none⟩ (.slice (some ⟨gb, 0, none⟩) ls.length cb)) (.slice (some ⟨gh, 0, none⟩) hts.length ch) hts) := Lib.hid ((hOR.mod hms (fun b hb e => by have e' : b = w.heap.size := e; rw [hz1] at hb; omega)).head.at)
  have HXF : Hid (xs.map Prod.fst = ls) := hOR.hx
  have HQ0 := Lib.hid hq3
  have HQ1 := Lib.hid (hms.at k1 (by omega))
  have HMM := Lib.hid ((hm1.trans hM2).step hms (fun i hi e => by omega))
  have HZ2 := Lib.hid hz2
  have HGB : Hid (gb < (((w2.setCell ⟨w.heap.size, 0, none⟩ (.string pr)).setCell ⟨w.heap.size, 1, none⟩ (.slice (some ⟨gh, 0, none⟩) hts.length ch)).setCell ⟨w.heap.size, 2, none⟩ (.slice (some ⟨gb, 0, none⟩) ls.length cb)).heap.size) := Lib.hid (Nat.lt_of_lt_of_le hgb.2 hms.size)
  clear hms hq1 hq2 hq3 k0 k1 hM2 hm1 hz1 hb0 hb1 HC HH hOR hgb hz2
  have hsm := HK.out.1
  go_wp2_with fail
  obtain ⟨w3, hw3⟩ : ∃ v, v = (((w2.setCell ⟨w.heap.size, 0, none⟩ (.string pr)).setCell ⟨w.heap.size, 1, none⟩ (.slice (some ⟨gh, 0, none⟩) hts.length ch)).setCell ⟨w.heap.size, 2, none⟩ (.slice (some ⟨gb, 0, none⟩) ls.length cb)) := ⟨_, rfl⟩
  rw [← hw3] at HQ0 HQ1 HMM HZ2 HI HHT HGB ⊢
  clear hw3 c0 c1 c2 f0 f1 f2
  refine (renamedAtom_go pr hts _ w3 HHT.out hsm.2.1 (fun t ht => (hsm.2.2 t ht))).mono ?_
  rintro e w4 ⟨g1, c1, rfl, hO1, hg1, hM4⟩
  have k0 := hM4.at HQ0.out id
  have k1 := hM4.at HQ1.out id
  have c0 := cell_at (j := 0) k0 rfl
  have cc1 := cell_at (j := 1) k0 rfl
  have f0 : w4.frozen? ⟨w.heap.size, 0, none⟩ = false := frozen_at k0
  have f1 : w4.frozen? ⟨w.heap.size, 1, none⟩ = false := frozen_at k0
  have hms : Mod (fun b => b = w.heap.size) w4 ((w4.setCell ⟨w.heap.size, 0, none⟩ (.string pr)).setCell ⟨w.heap.size, 1, none⟩ (.slice (some ⟨g1, 0, none⟩) hts.length c1)) := ((Mod.refl (fun b => b = w.heap.size) w4).setCell (p := ⟨w.heap.size, 0, none⟩) (fun _ => rfl) _).setCell (p := ⟨w.heap.size, 1, none⟩) (fun _ => rfl) _
  have hq3 : ((w4.setCell ⟨w.heap.size, 0, none⟩ (.string pr)).setCell ⟨w.heap.size, 1, none⟩ (.slice (some ⟨g1, 0, none⟩) hts.length c1)).heap[w.heap.size]? = some (.cells #[.string pr, .slice (some ⟨g1, 0, none⟩) hts.length c1, .slice (some ⟨gb, 0, none⟩) ls.length cb] 38 (0, 0)) := heap_setCell_at (j := 1) (.slice (some ⟨g1, 0, none⟩) hts.length c1) (heap_setCell_at (j := 0) (.string pr) k0)
  have hgw := HG.out
  have hg13 : gb ≠ g1 := by have := HGB.out; omega
  have hg1w : w.heap.size + 2 ≤ g1 := Nat.le_trans HZ2.out hg1
  have HN1 : Hid (RnI ((w4.setCell ⟨w.heap.size, 0, none⟩ (.string pr)).setCell ⟨w.heap.size, 1, none⟩ (.slice (some ⟨g1, 0, none⟩) hts.length c1)) (w.heap.size + 2) gb cb ls.length (.slice (some ⟨g1, 0, none⟩) hts.length c1) (hts.map (rnG nameB)) (xsV xs)) := Lib.hid (by
    have h1 := HI.out.mod0 hM4
    refine ⟨h1.own.mod hms (fun b hb e => by cases hb; have e' : gb = w.heap.size := e; omega), fun x hx => ?_, ?_⟩
    · exact (h1.each x hx).step hms (fun b hb hG e => by have e' : b = w.heap.size := e; have := hG.2; omega) (fun _ _ => id)
    · have h2 := (hO1.mod hms (by have := hg1w; omega)).f (G := fun b => b ≠ gb ∧ w.heap.size + 2 ≤ b) ⟨fun e => hg13 e.symm, hg1w⟩
      rw [List.length_map] at h2
      exact h2)
  have HQ0' := Lib.hid hq3
  have HQ1' := Lib.hid (hms.at k1 (by omega))
  have HMM' := Lib.hid ((HMM.out.trans hM4).step hms (fun i hi e => by omega))
  clear hms hq3 k0 k1 hM4 hO1 hg1 hgw hg13 hg1w HI HHT HQ0 HQ1 HMM HZ2 HGB
  go_wp2_with fail
  obtain ⟨w5, hw5⟩ : ∃ v, v = ((w4.setCell ⟨w.heap.size, 0, none⟩ (.string pr)).setCell ⟨w.heap.size, 1, none⟩ (.slice (some ⟨g1, 0, none⟩) hts.length c1)) := ⟨_, rfl⟩
  rw [← hw5] at HQ0' HQ1' HMM' HN1 ⊢
  clear hw5 c0 cc1 f0 f1
  go_loopw [3] (fun iv wr => ∃ k : Nat, iv = .int .i64 k ∧ k ≤ ls.length ∧ Hid (∃ ys zs : List (Lm × Value), RnI wr (w.heap.size + 2) gb cb ls.length (.slice (some ⟨g1, 0, none⟩) hts.length c1) (hts.map (rnG nameB)) (ys ++ zs) ∧ ys.map Prod.fst = (ls.take k).map (rnLm nameB) ∧ zs.map Prod.fst = ls.drop k) ∧
      Hid (Mod (fun b => b = gb) w5 wr)) (fun iv _ => ls.length - (intOf iv).toNat)
  case atStart => exact ⟨0, rfl, Nat.zero_le _, Lib.hid ⟨[], xsV xs, HN1.out, rfl, by
    rw [List.drop_zero, ← HXF.out, xsV, List.map_map]; rfl⟩, Lib.hid (Mod.refl _ _)⟩
  case round =>
    obtain ⟨k, rfl, hk, hI, hM⟩ := hrel
    have hgw := HG.out
    have hlb : ls.length < 1073741824 := HK.out.2.1
    have q0 := hM.out.at HQ0'.out (by omega)
    have q1 := hM.out.at HQ1'.out (by omega)
    have c0 := cell_at (j := 0) q0 rfl
    have cc1 := cell_at (j := 1) q0 rfl
    have cc2 := cell_at (j := 2) q0 rfl
    have Q0 := Lib.hid q0; have Q1 := Lib.hid q1
    clear q0 q1
    by_cases hlt : k < ls.length
    · obtain ⟨ys, zs, hR, hy, hz⟩ := hI.out
      rw [List.drop_eq_getElem_cons hlt] at hz
      rcases zs with _ | ⟨⟨l, v⟩, zs⟩
      · cases hz
      simp only [List.map_cons, List.cons.injEq] at hz
      obtain ⟨hzl, hz⟩ := hz
      have hyl : ys.length = k := by
        have := congrArg List.length hy
        rw [List.length_map, List.length_map, List.length_take] at this
        omega
      obtain ⟨va, vc, hv0, hvr, hvb⟩ := hR.each (l, v) (by simp)
      simp only at hv0 hvr hvb
      subst hv0
      have hget : ((ys ++ (l, .slice va l.atom.terms.length vc) :: zs) ++ [((lM : Lm), (.slice none 0 0 : Value))])[k]? = some (l, .slice va l.atom.terms.length vc) := by
        rw [List.append_assoc, List.getElem?_append_right (by omega), hyl, Nat.sub_self]; rfl
      obtain ⟨b, o, hbe, _, x1, x2, _, x4, x5, x6, x7⟩ := rd_cell8 hR.own.rd hget
      cases hbe
      rw [Nat.zero_add] at x1 x2 x4 x5 x6 x7
      have hsl : SmallLm l := by rw [hzl]; exact HK.out.2.2 _ (List.getElem_mem hlt)
      have HT1 := Lib.hid (fun W (m : Mod (fun _ => False) wr W) => renamedAtom_go l.atom.pred l.atom.terms (.slice va l.atom.terms.length vc) W ⟨_, _, rfl, hvr.mod m (fun _ _ => id)⟩ hsl.1.2.1 (fun t ht => hsl.1.2.2 t ht))
      have HT2 := Lib.hid (fun W => rnG_go l.left W hsl.2.1)
      have HT3 := Lib.hid (fun W => rnG_go l.right W hsl.2.2)
      have HGET := Lib.hid hget
      have HY := Lib.hid hy; have HZ := Lib.hid hz; have HZL := Lib.hid hzl; have HYL := Lib.hid hyl
      have HRI := Lib.hid hR
      have HOW := Lib.hid hR.own
      unfold tmV at HT2 HT3
      have X1a := Lib.hid x1; have X1b := Lib.hid x2
      have C0 := Lib.hid cc2
      have hlx : Hid (k < (ys ++ (l, (.slice va l.atom.terms.length vc : Value)) :: zs).length ∧ zs.length = ls.length - (k + 1)) := Lib.hid ⟨by simp; omega, by
        have := congrArg List.length hz
        rw [List.length_map, List.length_drop] at this
        exact this⟩
      clear hI hR hy hz hzl hyl hget hvr hvb hsl x4 x5 x6 x7
      obtain ⟨⟨lk, lt⟩, hll⟩ : ∃ t, t = rnG nameB l.left := ⟨_, rfl⟩
      obtain ⟨⟨rk, rt⟩, hrr⟩ : ∃ t, t = rnG nameB l.right := ⟨_, rfl⟩
      rw [← hll] at HT2
      rw [← hrr] at HT3
      have HLR := Lib.hid (And.intro hll hrr)
      clear hll hrr
      simp only at HT2 HT3
      go_wp2_with fail
      refine wp_region_ord (fun W => W.cell? ⟨w.heap.size, 2, none⟩ = some (.slice (some ⟨gb, 0, none⟩) ls.length cb) ∧ W.cell? ⟨gb, k * 8 + 1, none⟩ = some (.string l.atom.pred) ∧ W.cell? ⟨gb, k * 8 + 2, none⟩ = some (.slice va l.atom.terms.length vc)) [(0, 0), (1, 1), (0, 2), (0, 3), (1, 4), (0, 5), (0, 6), (0, 7), (1, 8), (2, 9), (0, 10), (0, 11), (3, 12)] (by kernel_rfl) (by kernel_rfl) ?_
      go_wp2_with (first
        | (refine ord_pure rfl rfl rfl (fun K hK => ?_); go_big_quiet_op; refine hK _ ?_; clear hK K)
                                                                | (refine ord_skip rfl rfl ?_; simp only [Act.put, List.setIfInBounds_toArray, List.set_cons_zero, List.set_cons_succ])
                                                                | (refine ord_held rfl rfl rfl (⟨C0.out, X1a.out, X1b.out⟩) (fun K hK => ?_); apply Exists.intro; refine ⟨fun w' hs => ?_, hK _ ?_⟩; (revert hs; dsimp only; (try simp only [and_imp]); intros; go_simp; rfl); clear hK K)
                                                                | (refine ord_keep rfl rfl (⟨C0.out, X1a.out, X1b.out⟩) (fun K hK => ?_))
                                                                | (refine ord_drop rfl rfl (fun K hK => ?_))
                                                                | (refine ord_nil ?_))
      refine (HT1.out _ (Mod.refl _ wr).drew).mono ?_
      rintro e w6 ⟨g6, c6, rfl, hO6, hg6, hM6⟩
      have hMr : Mod (fun _ => False) wr w6 := ((Mod.refl (fun _ => False) wr).drew).trans hM6
      have hOw := HOW.out.mod hMr (fun _ _ => id)
      have y0 := hMr.cell X1a.out id
      have y1 := hMr.cell X1b.out id
      have z0 := hOw.frozen (o := k * 8 + 1) (b := gb) rfl
      have z1 := hOw.frozen (o := k * 8 + 2) (b := gb) rfl
      have hC := hMr.cell C0.out id
      refine hK _ _ ⟨hC, y0, y1⟩ ?_; clear hK K
      obtain ⟨w7, hws⟩ : ∃ v, v = (w6.setCell ⟨gb, k * 8 + 1, none⟩ (.string l.atom.pred)).setCell ⟨gb, k * 8 + 2, none⟩ (.slice (some ⟨g6, 0, none⟩) l.atom.terms.length c6) := ⟨_, rfl⟩
      have hms : Mod (fun b => b = gb) w6 w7 := by rw [hws]; exact ((Mod.refl (fun b => b = gb) w6).setCell (p := ⟨gb, k * 8 + 1, none⟩) (fun _ => rfl) _).setCell (p := ⟨gb, k * 8 + 2, none⟩) (fun _ => rfl) _
      have HO6 := Lib.hid (show Mine.Own w7 44 8 _ _ _ _ by rw [hws]; exact (hOw.store (k * 8 + 1) (.string l.atom.pred)).store (k * 8 + 2) (.slice (some ⟨g6, 0, none⟩) l.atom.terms.length c6))
      have HMS6 := Lib.hid ((hMr.mono (T := fun b => b = gb) (fun _ _ h => h.elim)).trans hms)
      have HMT6 := Lib.hid hms
      have C6 := Lib.hid (hms.cell hC (by show ¬ w.heap.size = gb; omega))
      have HWS := Lib.hid hws
      clear hMr hOw hC hms hws hM6
      have HO6t := Lib.hid (And.intro hO6 hg6)
      clear hO6 hg6
      go_wp2_with (first
        | (refine ord_pure rfl rfl rfl (fun K hK => ?_); go_big_quiet_op; refine hK _ ?_; clear hK K)
                                                                | (refine ord_skip rfl rfl ?_; simp only [Act.put, List.setIfInBounds_toArray, List.set_cons_zero, List.set_cons_succ])
                                                                | (refine ord_held rfl rfl rfl (trivial) (fun K hK => ?_); apply Exists.intro; refine ⟨fun w' hs => ?_, hK _ ?_⟩; (revert hs; dsimp only; (try simp only [and_imp]); intros; go_simp; rfl); clear hK K)
                                                                | (refine ord_keep rfl rfl (trivial) (fun K hK => ?_))
                                                                | (refine ord_drop rfl rfl (fun K hK => ?_))
                                                                | (refine ord_nil ?_))
      rw [← HWS.out]; clear HWS
      have xa : w7.cell? ⟨gb, k * 8 + 4, none⟩ = some (.int .i64 l.left.kind) := by
        obtain ⟨b, o, e, q⟩ := HO6.out.rd (k * 8 + 4) (.int .i64 l.left.kind) (by rw [List.getElem?_set_ne (by omega), List.getElem?_set_ne (by omega)]; exact flat_get (j := 4) lmC_length HGET.out (by omega))
        cases e
        rw [Nat.zero_add] at q
        exact q
      have xb : w7.cell? ⟨gb, k * 8 + 5, none⟩ = some (.string l.left.text) := by
        obtain ⟨b, o, e, q⟩ := HO6.out.rd (k * 8 + 5) (.string l.left.text) (by rw [List.getElem?_set_ne (by omega), List.getElem?_set_ne (by omega)]; exact flat_get (j := 5) lmC_length HGET.out (by omega))
        cases e
        rw [Nat.zero_add] at q
        exact q
      have X2a := Lib.hid xa; have X2b := Lib.hid xb
      clear xa xb y0 y1 z0 z1
      refine wp_region_ord (fun W => W.cell? ⟨w.heap.size, 2, none⟩ = some (.slice (some ⟨gb, 0, none⟩) ls.length cb) ∧ W.cell? ⟨gb, k * 8 + 4, none⟩ = some (.int .i64 l.left.kind) ∧ W.cell? ⟨gb, k * 8 + 5, none⟩ = some (.string l.left.text)) [(0, 0), (1, 1), (0, 2), (0, 3), (1, 4), (0, 5), (0, 6), (0, 7), (1, 8), (2, 9), (0, 10), (0, 11), (3, 12)] (by kernel_rfl) (by kernel_rfl) ?_
      go_wp2_with (first
        | (refine ord_pure rfl rfl rfl (fun K hK => ?_); go_big_quiet_op; refine hK _ ?_; clear hK K)
                                                                | (refine ord_skip rfl rfl ?_; simp only [Act.put, List.setIfInBounds_toArray, List.set_cons_zero, List.set_cons_succ])
                                                                | (refine ord_held rfl rfl rfl (⟨C6.out, X2a.out, X2b.out⟩) (fun K hK => ?_); apply Exists.intro; refine ⟨fun w' hs => ?_, hK _ ?_⟩; (revert hs; dsimp only; (try simp only [and_imp]); intros; go_simp; rfl); clear hK K)
                                                                | (refine ord_keep rfl rfl (⟨C6.out, X2a.out, X2b.out⟩) (fun K hK => ?_))
                                                                | (refine ord_drop rfl rfl (fun K hK => ?_))
                                                                | (refine ord_nil ?_))
      refine (HT2.out _).mono ?_
      rintro e w8 ⟨rfl, hM6⟩
      have hMr : Mod (fun _ => False) w7 w8 := ((Mod.refl (fun _ => False) w7).drew).trans hM6
      have hOw := HO6.out.mod hMr (fun _ _ => id)
      have y0 := hMr.cell X2a.out id
      have y1 := hMr.cell X2b.out id
      have z0 := hOw.frozen (o := k * 8 + 4) (b := gb) rfl
      have z1 := hOw.frozen (o := k * 8 + 5) (b := gb) rfl
      have hC := hMr.cell C6.out id
      refine hK _ _ ⟨hC, y0, y1⟩ ?_; clear hK K
      obtain ⟨w9, hws⟩ : ∃ v, v = (w8.setCell ⟨gb, k * 8 + 4, none⟩ (.int .i64 lk)).setCell ⟨gb, k * 8 + 5, none⟩ (.string lt) := ⟨_, rfl⟩
      have hms : Mod (fun b => b = gb) w8 w9 := by rw [hws]; exact ((Mod.refl (fun b => b = gb) w8).setCell (p := ⟨gb, k * 8 + 4, none⟩) (fun _ => rfl) _).setCell (p := ⟨gb, k * 8 + 5, none⟩) (fun _ => rfl) _
      have HO7 := Lib.hid (show Mine.Own w9 44 8 _ _ _ _ by rw [hws]; exact (hOw.store (k * 8 + 4) (.int .i64 lk)).store (k * 8 + 5) (.string lt))
      have HMS7 := Lib.hid ((hMr.mono (T := fun b => b = gb) (fun _ _ h => h.elim)).trans hms)
      have HMT7 := Lib.hid hms
      have C7 := Lib.hid (hms.cell hC (by show ¬ w.heap.size = gb; omega))
      have HWS := Lib.hid hws
      clear hMr hOw hC hms hws hM6
      go_wp2_with (first
        | (refine ord_pure rfl rfl rfl (fun K hK => ?_); go_big_quiet_op; refine hK _ ?_; clear hK K)
                                                                | (refine ord_skip rfl rfl ?_; simp only [Act.put, List.setIfInBounds_toArray, List.set_cons_zero, List.set_cons_succ])
                                                                | (refine ord_held rfl rfl rfl (trivial) (fun K hK => ?_); apply Exists.intro; refine ⟨fun w' hs => ?_, hK _ ?_⟩; (revert hs; dsimp only; (try simp only [and_imp]); intros; go_simp; rfl); clear hK K)
                                                                | (refine ord_keep rfl rfl (trivial) (fun K hK => ?_))
                                                                | (refine ord_drop rfl rfl (fun K hK => ?_))
                                                                | (refine ord_nil ?_))
      rw [← HWS.out]; clear HWS
      have xa : w9.cell? ⟨gb, k * 8 + 6, none⟩ = some (.int .i64 l.right.kind) := by
        obtain ⟨b, o, e, q⟩ := HO7.out.rd (k * 8 + 6) (.int .i64 l.right.kind) (by rw [List.getElem?_set_ne (by omega), List.getElem?_set_ne (by omega), List.getElem?_set_ne (by omega), List.getElem?_set_ne (by omega)]; exact flat_get (j := 6) lmC_length HGET.out (by omega))
        cases e
        rw [Nat.zero_add] at q
        exact q
      have xb : w9.cell? ⟨gb, k * 8 + 7, none⟩ = some (.string l.right.text) := by
        obtain ⟨b, o, e, q⟩ := HO7.out.rd (k * 8 + 7) (.string l.right.text) (by rw [List.getElem?_set_ne (by omega), List.getElem?_set_ne (by omega), List.getElem?_set_ne (by omega), List.getElem?_set_ne (by omega)]; exact flat_get (j := 7) lmC_length HGET.out (by omega))
        cases e
        rw [Nat.zero_add] at q
        exact q
      have X3a := Lib.hid xa; have X3b := Lib.hid xb
      clear xa xb y0 y1 z0 z1
      refine wp_region_ord (fun W => W.cell? ⟨w.heap.size, 2, none⟩ = some (.slice (some ⟨gb, 0, none⟩) ls.length cb) ∧ W.cell? ⟨gb, k * 8 + 6, none⟩ = some (.int .i64 l.right.kind) ∧ W.cell? ⟨gb, k * 8 + 7, none⟩ = some (.string l.right.text)) [(0, 0), (1, 1), (0, 2), (0, 3), (1, 4), (0, 5), (0, 6), (0, 7), (1, 8), (2, 9), (0, 10), (0, 11), (3, 12)] (by kernel_rfl) (by kernel_rfl) ?_
      go_wp2_with (first
        | (refine ord_pure rfl rfl rfl (fun K hK => ?_); go_big_quiet_op; refine hK _ ?_; clear hK K)
                                                                | (refine ord_skip rfl rfl ?_; simp only [Act.put, List.setIfInBounds_toArray, List.set_cons_zero, List.set_cons_succ])
                                                                | (refine ord_held rfl rfl rfl (⟨C7.out, X3a.out, X3b.out⟩) (fun K hK => ?_); apply Exists.intro; refine ⟨fun w' hs => ?_, hK _ ?_⟩; (revert hs; dsimp only; (try simp only [and_imp]); intros; go_simp; rfl); clear hK K)
                                                                | (refine ord_keep rfl rfl (⟨C7.out, X3a.out, X3b.out⟩) (fun K hK => ?_))
                                                                | (refine ord_drop rfl rfl (fun K hK => ?_))
                                                                | (refine ord_nil ?_))
      refine (HT3.out _).mono ?_
      rintro e w10 ⟨rfl, hM6⟩
      have hMr : Mod (fun _ => False) w9 w10 := ((Mod.refl (fun _ => False) w9).drew).trans hM6
      have hOw := HO7.out.mod hMr (fun _ _ => id)
      have y0 := hMr.cell X3a.out id
      have y1 := hMr.cell X3b.out id
      have z0 := hOw.frozen (o := k * 8 + 6) (b := gb) rfl
      have z1 := hOw.frozen (o := k * 8 + 7) (b := gb) rfl
      have hC := hMr.cell C7.out id
      refine hK _ _ ⟨hC, y0, y1⟩ ?_; clear hK K
      obtain ⟨w11, hws⟩ : ∃ v, v = (w10.setCell ⟨gb, k * 8 + 6, none⟩ (.int .i64 rk)).setCell ⟨gb, k * 8 + 7, none⟩ (.string rt) := ⟨_, rfl⟩
      have hms : Mod (fun b => b = gb) w10 w11 := by rw [hws]; exact ((Mod.refl (fun b => b = gb) w10).setCell (p := ⟨gb, k * 8 + 6, none⟩) (fun _ => rfl) _).setCell (p := ⟨gb, k * 8 + 7, none⟩) (fun _ => rfl) _
      have HO8 := Lib.hid (show Mine.Own w11 44 8 _ _ _ _ by rw [hws]; exact (hOw.store (k * 8 + 6) (.int .i64 rk)).store (k * 8 + 7) (.string rt))
      have HMS8 := Lib.hid ((hMr.mono (T := fun b => b = gb) (fun _ _ h => h.elim)).trans hms)
      have HMT8 := Lib.hid hms
      have C8 := Lib.hid (hms.cell hC (by show ¬ w.heap.size = gb; omega))
      have HWS := Lib.hid hws
      clear hMr hOw hC hms hws hM6
      have HN : Hid (RnI w11 (w.heap.size + 2) gb cb ls.length (.slice (some ⟨g1, 0, none⟩) hts.length c1) (hts.map (rnG nameB)) ((ys ++ [(rnLm nameB l, .slice (some ⟨g6, 0, none⟩) l.atom.terms.length c6)]) ++ zs)) := Lib.hid (by
        have M := (HMS6.out.trans HMS7.out).trans HMS8.out
        have hgl : gb < wr.heap.size := HOW.out.lt gb rfl
        obtain ⟨hO6, hg6⟩ := HO6t.out
        have hg6' : wr.heap.size ≤ g6 := hg6
        have hLL : ((ys ++ (l, (.slice va l.atom.terms.length vc : Value)) :: zs) ++ [((lM : Lm), (.slice none 0 0 : Value))]).length = ls.length + 1 := by
          have h1 := HYL.out
          have h2 := hlx.out.2
          simp
          omega
        have hkk : k < ((ys ++ (l, (.slice va l.atom.terms.length vc : Value)) :: zs) ++ [((lM : Lm), (.slice none 0 0 : Value))]).length := by omega
        have hgk : ((ys ++ (l, (.slice va l.atom.terms.length vc : Value)) :: zs) ++ [((lM : Lm), (.slice none 0 0 : Value))])[k] = (l, .slice va l.atom.terms.length vc) := by
          have := HGET.out
          rw [List.getElem?_eq_getElem hkk] at this
          exact Option.some.inj this
        have hset := lms_set _ k hkk l.atom.pred (l.atom.terms.map (rnG nameB)) (.slice (some ⟨g6, 0, none⟩) l.atom.terms.length c6) ⟨lk, lt⟩ ⟨rk, rt⟩
        have hrl : rnLm nameB l = ⟨l.kind, ⟨l.atom.pred, l.atom.terms.map (rnG nameB)⟩, l.op, ⟨lk, lt⟩, ⟨rk, rt⟩⟩ := by
          unfold rnLm rnAm
          rw [HLR.out.1, HLR.out.2]
        rw [hgk] at hset
        simp only at hset
        rw [← hrl] at hset
        have hO8 := HO8.out
        rw [hset] at hO8
        have hs2 : ((ys ++ (l, (.slice va l.atom.terms.length vc : Value)) :: zs) ++ [((lM : Lm), (.slice none 0 0 : Value))]).set k (rnLm nameB l, .slice (some ⟨g6, 0, none⟩) l.atom.terms.length c6) = ((ys ++ [(rnLm nameB l, .slice (some ⟨g6, 0, none⟩) l.atom.terms.length c6)]) ++ zs) ++ [((lM : Lm), (.slice none 0 0 : Value))] := by
          have h1 := HYL.out
          rw [List.append_assoc, List.set_append_right _ _ (by omega), h1, Nat.sub_self, List.cons_append, List.set_cons_zero]
          simp
        rw [hs2] at hO8
        have old : ∀ x ∈ ys ++ (l, (.slice va l.atom.terms.length vc : Value)) :: zs, TsF w11 (fun b => b ≠ gb ∧ w.heap.size + 2 ≤ b) x.2 x.1.atom.terms := fun x hx =>
          (HRI.out.each x hx).step M (fun b _ hG e => hG.1 e) (fun _ _ => id)
        refine ⟨hO8, fun x hx => ?_, HRI.out.head.step M (fun b _ hG e => hG.1 e) (fun _ _ => id)⟩
        rcases List.mem_append.1 hx with hx | hx
        · rcases List.mem_append.1 hx with hx | hx
          · exact old x (List.mem_append_left _ hx)
          · simp only [List.mem_cons, List.not_mem_nil, or_false] at hx
            subst hx
            have h6 := hO6.mod (HMT6.out.trans (HMS7.out.trans HMS8.out)) (by show ¬ g6 = gb; omega)
            have h7 := h6.f (G := fun b => b ≠ gb ∧ w.heap.size + 2 ≤ b) ⟨by omega, by omega⟩
            rw [List.length_map] at h7
            exact h7
        · exact old x (List.mem_append_right _ (List.mem_cons_of_mem _ hx)))
      have HMA := Lib.hid (hM.out.trans ((HMS6.out.trans HMS7.out).trans HMS8.out))
      have HY2 : Hid ((ys ++ [(rnLm nameB l, (.slice (some ⟨g6, 0, none⟩) l.atom.terms.length c6 : Value))]).map Prod.fst = (ls.take (k + 1)).map (rnLm nameB)) := Lib.hid (by
        rw [List.map_append, HY.out, List.take_succ_eq_append_getElem hlt, List.map_append, ← HZL.out]; rfl)
      clear hM hlx
      go_wp2_with (first
        | (refine ord_pure rfl rfl rfl (fun K hK => ?_); go_big_quiet_op; refine hK _ ?_; clear hK K)
                                                                | (refine ord_skip rfl rfl ?_; simp only [Act.put, List.setIfInBounds_toArray, List.set_cons_zero, List.set_cons_succ])
                                                                | (refine ord_held rfl rfl rfl (trivial) (fun K hK => ?_); apply Exists.intro; refine ⟨fun w' hs => ?_, hK _ ?_⟩; (revert hs; dsimp only; (try simp only [and_imp]); intros; go_simp; rfl); clear hK K)
                                                                | (refine ord_keep rfl rfl (trivial) (fun K hK => ?_))
                                                                | (refine ord_drop rfl rfl (fun K hK => ?_))
                                                                | (refine ord_nil ?_))
      go_roundw
      case rel => exact ⟨k + 1, by go_num, hlt, Lib.hid ⟨_, zs, by
        have h := HN.out
        rw [HWS.out] at h
        exact h, HY2.out, HZ.out⟩, Lib.hid (by
        have h := HMA.out
        rw [HWS.out] at h
        exact h)⟩
      case measure => simp [intOf]; omega
    · obtain rfl : k = ls.length := by omega
      obtain ⟨ys, zs, hR, hy, hz⟩ := hI.out
      have hzs : zs = [] := by
        rw [List.drop_length] at hz
        exact List.map_eq_nil_iff.1 hz
      subst hzs
      rw [List.append_nil] at hR
      rw [List.take_length] at hy
      have r0 := cell_at (j := 0) Q1.out rfl
      have r1 := cell_at (j := 1) Q1.out rfl
      have r2 := cell_at (j := 2) Q1.out rfl
      have g0 : wr.frozen? ⟨w.heap.size + 1, 0, none⟩ = false := frozen_at Q1.out
      have g1' : wr.frozen? ⟨w.heap.size + 1, 1, none⟩ = false := frozen_at Q1.out
      have g2' : wr.frozen? ⟨w.heap.size + 1, 2, none⟩ = false := frozen_at Q1.out
      have HRI := Lib.hid hR; have HY := Lib.hid hy
      clear hI hR hy hz
      go_wp2_with fail
      have hms : Mod (fun b => b = w.heap.size + 1) wr (((wr.setCell ⟨w.heap.size + 1, 0, none⟩ (.string pr)).setCell ⟨w.heap.size + 1, 1, none⟩ (.slice (some ⟨g1, 0, none⟩) hts.length c1)).setCell ⟨w.heap.size + 1, 2, none⟩ (.slice (some ⟨gb, 0, none⟩) ls.length cb)) := (((Mod.refl (fun b => b = w.heap.size + 1) wr).setCell (p := ⟨w.heap.size + 1, 0, none⟩) (fun _ => rfl) _).setCell (p := ⟨w.heap.size + 1, 1, none⟩) (fun _ => rfl) _).setCell (p := ⟨w.heap.size + 1, 2, none⟩) (fun _ => rfl) _
      have hb2 := heap_setCell_at (j := 2) (.slice (some ⟨gb, 0, none⟩) ls.length cb) (heap_setCell_at (j := 1) (.slice (some ⟨g1, 0, none⟩) hts.length c1) (heap_setCell_at (j := 0) (.string pr) Q1.out))
      have z0 := cell_at (j := 0) (u := .string pr) hb2 rfl
      have z1 := cell_at (j := 1) (u := .slice (some ⟨g1, 0, none⟩) hts.length c1) hb2 rfl
      have z2 := cell_at (j := 2) (u := .slice (some ⟨gb, 0, none⟩) ls.length cb) hb2 rfl
      generalize (((wr.setCell ⟨w.heap.size + 1, 0, none⟩ (.string pr)).setCell ⟨w.heap.size + 1, 1, none⟩ (.slice (some ⟨g1, 0, none⟩) hts.length c1)).setCell ⟨w.heap.size + 1, 2, none⟩ (.slice (some ⟨gb, 0, none⟩) ls.length cb)) = W at *
      have hyl : ys.length = ls.length := by
        have := congrArg List.length HY.out
        rw [List.length_map, List.length_map] at this
        exact this
      refine bodyPost_ret (v := .agg #[.string pr, .slice (some ⟨g1, 0, none⟩) hts.length c1, .slice (some ⟨gb, 0, none⟩) ls.length cb]) (by simp [results, Tryd.results16, go_sem, z0, z1, z2]) rfl
        ⟨.slice (some ⟨g1, 0, none⟩) hts.length c1, .slice (some ⟨gb, 0, none⟩) ls.length cb, rfl, ?_, ?_, ?_⟩
      · exact HRI.out.head.step hms (fun b _ hG e => by have e' : b = w.heap.size + 1 := e; have := hG.2; omega) (fun b _ hG => by have := hG.2; omega)
      · refine ⟨some ⟨gb, 0, none⟩, cb, ys, ?_, HY.out, ?_, fun _ b hb => by cases hb; have := HG.out; show w.heap.size ≤ gb; omega, fun x hx => (HRI.out.each x hx).step hms (fun b _ hG e => by have e' : b = w.heap.size + 1 := e; have := hG.2; omega) (fun b _ hG => by have := hG.2; omega)⟩
        · show _ = Value.slice _ (ls.map (rnLm nameB)).length cb
          rw [List.length_map]
        · have h1 := ((HRI.out.own.mod hms (fun b hb e => by cases hb; have e' : gb = w.heap.size + 1 := e; omega)).rd).take (ys.length * 8)
          rw [lmsC_append, List.take_left' (lmsC_length ys)] at h1
          exact h1
      · exact HMM'.out.step ((hM.out.mono (T := fun b => b = gb ∨ b = w.heap.size + 1) (fun _ _ e => .inl e)).step hms (fun i _ e => .inr e)) (fun i hi e => by omega)
theorem renamed_go (r : Rm) (s b : Value) (w : World) (ht : TsAt w s r.head.terms) (hl : LsAt w b r.body) (hs : SmallRm r) :
    Calls Tryd.prog 16 #[rmV r s b] w fun e w' => ∃ s' b', e = .returned (rmV (rnRm nameB r) s' b') ∧ TsAt w' s' (rnRm nameB r).head.terms ∧ LsAt w' b' (rnRm nameB r).body ∧ Mod (fun _ => False) w w' := by
  refine (renamed_goF r s b w ht hl hs).mono ?_
  rintro e w' ⟨s', b', he, h1, h2, hM⟩
  exact ⟨s', b', he, h1.at, h2.at, hM⟩
end Go.Proofs.YtphgglnkdfndiaaDoor
