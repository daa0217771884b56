/-
  Add, at a sorted set of rules beside their texts.
-/
import Derived.Test.YteecbbnpgmceiaaGreatDoorTidC
namespace Go.Proofs.YteecbbnpgmceiaaGreatDoor
open Go Go.RowKit Go.Mine
set_option linter.unusedVariables false
set_option maxHeartbeats 4000000
set_option maxRecDepth 100000

def insV (xs : List Wv) (t : Wv) : List Wv := if hasT (tx xs) t.1.1 = true then xs else xs.take (lbT (tx xs) t.1.1) ++ t :: xs.drop (lbT (tx xs) t.1.1)
theorem tx_ins (xs : List Wv) (t : Wv) : tx (insV xs t) = insT (tx xs) t.1 := by
  unfold insV insT
  split
  · rfl
  · unfold tx
    rw [List.map_append, List.map_take, List.map_cons, List.map_drop]
theorem insV_len (xs : List Wv) (t : Wv) : (insV xs t).length ≤ xs.length + 1 := by
  rw [← tx_len, tx_ins, ← tx_len xs]
  exact insT_len _ _
theorem insV_mem {xs : List Wv} {t x : Wv} (h : x ∈ insV xs t) : x = t ∨ x ∈ xs := by
  unfold insV at h
  split at h
  · exact .inr h
  · rcases List.mem_append.1 h with h | h
    · exact .inr (List.mem_of_mem_take h)
    · rcases List.mem_cons.1 h with h | h
      · exact .inl h
      · exact .inr (List.mem_of_mem_drop h)
/-- a set of the call's own -/
structure SetO (w : World) (B : Nat) (a : Option Addr) (c : Nat) (xs : List Wv) : Prop where
  at_ : SetAt w B a xs.length c
  own : Mine.Own w 83 4 a xs.length c (wnsC xs)
  ne : blk a ≠ some B
  sort : SortT (tx xs)
  one : ∀ x ∈ xs, One x
theorem SetO.lt {w : World} {B : Nat} {a : Option Addr} {c : Nat} {xs : List Wv} (h : SetO w B a c xs) : B < w.heap.size := (Array.getElem?_eq_some_iff.1 h.at_).1
theorem SetO.mod {S : Nat → Prop} {w w' : World} {B : Nat} {a : Option Addr} {c : Nat} {xs : List Wv} (h : SetO w B a c xs) (m : Mod S w w') (hB : ¬ S B) (ha : ∀ b, blk a = some b → ¬ S b) : SetO w' B a c xs :=
  ⟨m.at h.at_ hB, h.own.mod m ha, h.ne, h.sort, h.one⟩
theorem SetO.mod0 {w w' : World} {B : Nat} {a : Option Addr} {c : Nat} {xs : List Wv} (h : SetO w B a c xs) (m : Mod (fun _ => False) w w') : SetO w' B a c xs := h.mod m id (fun _ _ => id)
theorem add_any (B : Nat) (xs : List Wv) (a : Option Addr) (c : Nat) (t : Wv) (w : World) (h : SetO w B a c xs) (hn : xs.length ≤ 2 ^ 20) (ht : One t) :
    Calls Tryz.prog 41 #[.pointer (some ⟨B, 0, none⟩), wnV t] w fun e w' => (∃ v, e = .returned v) ∧ ∃ a' c', SetO w' B a' c' (insV xs t) ∧ Mod (fun k => k = B ∨ blk a = some k) w w' ∧ (blk a' = blk a ∨ ∃ g, blk a' = some g ∧ w.heap.size ≤ g) := by
  have HF := Lib.hid (fun (W : World) (m : Mod (fun _ => False) w W) => find_any B xs a c t W (h.at_.trans' m) (h.own.rd.mod m (fun _ _ => id)) (by omega) h.sort)
  have hlb : lbT (tx xs) t.1.1 ≤ xs.length := by have := lbT_le t.1.1 (tx xs); simpa using this
  have HI := Lib.hid (fun (W : World) (vb : Nat) (m : Mod (fun _ => False) w W) (hv : W.heap[vb]? = some (.cells (wnC t).toArray 83 (0, 0))) (hne : blk a ≠ some vb) => insert_any xs a c (lbT (tx xs) t.1.1) vb t W (h.own.mod m (fun _ _ => id)) hlb hn hv hne h.one ht)
  have HTX := Lib.hid (tx_ins xs t)
  have HSO := Lib.hid (insT_sort h.sort t.1)
  have HIV : Hid (insV xs t = if hasT (tx xs) t.1.1 = true then xs else xs.take (lbT (tx xs) t.1.1) ++ t :: xs.drop (lbT (tx xs) t.1.1)) := rfl
  have HON : Hid (∀ x ∈ insV xs t, One x) := fun x hx => by
    rcases insV_mem hx with rfl | hx
    · exact ht
    · exact h.one x hx
  have hBlt := h.lt
  have hm : Mod (fun _ => False) w (w.alloc (.cells (wnC t).toArray 83)) := (Mod.refl _ w).alloc _
  have hb0 := heap_alloc_new w (.cells (wnC t).toArray 83)
  have H := Lib.hid h
  have HM := Lib.hid hm
  have s1 : (w.alloc (.cells (wnC t).toArray 83)).cell? ⟨B, 1, none⟩ = some (.slice a xs.length c) := cell_at (hm.at h.at_ id) rfl
  have x0 : (w.alloc (.cells (wnC t).toArray 83)).cell? ⟨w.heap.size, 0, none⟩ = some (.string t.1.1) := cell_at hb0 rfl
  have x1 : (w.alloc (.cells (wnC t).toArray 83)).cell? ⟨w.heap.size, 1, none⟩ = some (.string t.1.2.head.pred) := cell_at hb0 rfl
  have x2 : (w.alloc (.cells (wnC t).toArray 83)).cell? ⟨w.heap.size, 2, none⟩ = some t.2.1 := cell_at hb0 rfl
  have x3 : (w.alloc (.cells (wnC t).toArray 83)).cell? ⟨w.heap.size, 3, none⟩ = some t.2.2 := cell_at hb0 rfl
  have hsz : (w.alloc (.cells (wnC t).toArray 83)).heap.size = w.heap.size + 1 := by simp
  have HSZ := Lib.hid hsz
  have HBL := Lib.hid hBlt
  clear h hm hb0 hsz hBlt ht
  have HWC : Hid (wnC t = [.string t.1.1, .string t.1.2.head.pred, t.2.1, t.2.2]) := rfl
  rw [HWC.out] at x0 x1 x2 x3 s1 HM HSZ
  rw [HWC.out] at HI
  unfold wnV at HF ⊢
  generalize insV xs t = ys at *
  generalize lbT (tx xs) t.1.1 = L at *
  generalize hasT (tx xs) t.1.1 = Q at *
  generalize hT1 : t.1.1 = tt at *
  generalize hT2 : t.1.2.head.pred = tp at *
  generalize hT3 : t.2.1 = ts at *
  generalize hT4 : t.2.2 = tbv at *
  clear hT1 hT2 hT3 hT4
  go_enter Tryz.func41, Tryz.ntmps41
  go_wp2_with fail
  generalize (w.alloc (.cells [.string tt, .string tp, ts, tbv].toArray 83)) = w0 at *
  refine (HF.out _ HM.out).mono ?_
  rintro e w1 ⟨rfl, hM1⟩
  have HM1 := Lib.hid (HM.out.trans hM1)
  cases Q with
  | true =>
    clear s1 x0 x1 x2 x3 hM1
    go_wp2_with fail
    go_ret
    have hy : ys = xs := HIV.out
    refine ⟨⟨_, rfl⟩, a, c, by rw [hy]; exact H.out.mod0 HM1.out, HM1.out.mono (fun _ _ f => f.elim), .inl rfl⟩
  | false =>
    have hy : ys = xs.take L ++ (t :: xs.drop L) := HIV.out
    have HY := Lib.hid hy
    have s1' := hM1.cell s1 id
    have x0' := hM1.cell x0 id; have x1' := hM1.cell x1 id; have x2' := hM1.cell x2 id; have x3' := hM1.cell x3 id
    clear hy s1 x0 x1 x2 x3 hM1 HF HIV
    go_wp2_with fail
    refine wp_region_ord (fun w' => w'.cell? ⟨B, 1, none⟩ = some (.slice a xs.length c) ∧ (w'.cell? ⟨w.heap.size, 0, none⟩ = some (.string tt) ∧ w'.cell? ⟨w.heap.size, 1, none⟩ = some (.string tp) ∧ w'.cell? ⟨w.heap.size, 2, none⟩ = some ts ∧ w'.cell? ⟨w.heap.size, 3, none⟩ = some tbv)) [(0, 0), (0, 1), (0, 2), (0, 3), (1, 4), (0, 5), (1, 6), (2, 7), (3, 8), (0, 9), (0, 10), (3, 11)] (by kernel_rfl) (by kernel_rfl) ?_
    go_wp2_with (first
      | (refine ord_pure rfl rfl rfl (fun K hK => ?_); go_big_quiet_op; refine hK _ ?_; clear hK K)
                                                                | (refine ord_skip rfl rfl ?_; simp only [Act.put, List.setIfInBounds_toArray, List.set_cons_zero, List.set_cons_succ])
                                                                | (refine ord_held rfl rfl rfl (⟨s1', x0', x1', x2', x3'⟩) (fun K hK => ?_); apply Exists.intro; refine ⟨fun w' hs => ?_, hK _ ?_⟩; (revert hs; dsimp only; (try simp only [and_imp]); intros; go_simp; rfl); clear hK K)
                                                                | (refine ord_keep rfl rfl (⟨s1', x0', x1', x2', x3'⟩) (fun K hK => ?_))
                                                                | (refine ord_drop rfl rfl (fun K hK => ?_))
                                                                | (refine ord_nil ?_))
    have ma : Mod (fun _ => False) w1 (w1.drew.alloc (.cells #[.string tt, .string tp, ts, tbv] 83)) := ((Mod.refl _ w1).drew).alloc _
    refine hK _ _ ⟨ma.cell s1' id, ma.cell x0' id, ma.cell x1' id, ma.cell x2' id, ma.cell x3' id⟩ ?_; clear hK K
    go_wp2_with (first
      | (refine ord_pure rfl rfl rfl (fun K hK => ?_); go_big_quiet_op; refine hK _ ?_; clear hK K)
                                                                | (refine ord_skip rfl rfl ?_; simp only [Act.put, List.setIfInBounds_toArray, List.set_cons_zero, List.set_cons_succ])
                                                                | (refine ord_held rfl rfl rfl (trivial) (fun K hK => ?_); apply Exists.intro; refine ⟨fun w' hs => ?_, hK _ ?_⟩; (revert hs; dsimp only; (try simp only [and_imp]); intros; go_simp; rfl); clear hK K)
                                                                | (refine ord_keep rfl rfl (trivial) (fun K hK => ?_))
                                                                | (refine ord_drop rfl rfl (fun K hK => ?_))
                                                                | (refine ord_nil ?_))
    have hv := heap_alloc_new w1.drew (.cells #[.string tt, .string tp, ts, tbv] 83)
    have hne : blk a ≠ some w1.heap.size := fun e => by
      have h1 := H.out.own.lt _ e
      have h2 := HM1.out.size
      omega
    refine (HI.out _ w1.heap.size (HM1.out.trans ma) hv hne).mono ?_
    rintro e w3 ⟨a', c', rfl, hO, hG⟩
    have hS1 := (HM1.out.trans ma).at H.out.at_ id
    have hS3 := hG.mod.at hS1 H.out.ne
    have HS3 := Lib.hid hS3
    have z1 := cell_at (j := 1) hS3 rfl
    have f1 := frozen_at (j := 1) hS3
    have HO := Lib.hid hO; have HG := Lib.hid hG; have MA := Lib.hid ma
    clear hO hG hS3 hS1 hv hne s1' x0' x1' x2' x3' ma HI
    go_wp2_with (first
      | (refine ord_pure rfl rfl rfl (fun K hK => ?_); go_big_quiet_op; refine hK _ ?_; clear hK K)
                                                                | (refine ord_skip rfl rfl ?_; simp only [Act.put, List.setIfInBounds_toArray, List.set_cons_zero, List.set_cons_succ])
                                                                | (refine ord_held rfl rfl rfl (trivial) (fun K hK => ?_); apply Exists.intro; refine ⟨fun w' hs => ?_, hK _ ?_⟩; (revert hs; dsimp only; (try simp only [and_imp]); intros; go_simp; rfl); clear hK K)
                                                                | (refine ord_keep rfl rfl (trivial) (fun K hK => ?_))
                                                                | (refine ord_drop rfl rfl (fun K hK => ?_))
                                                                | (refine ord_nil ?_))
    go_ret
    have hn3 : blk a' ≠ some B := by
      have h1 := HBL.out
      have h2 := HM1.out.size
      have h3 := MA.out.size
      exact HG.out.ne (by omega) H.out.ne
    have hlen : ys.length = xs.length + 1 := by
      have hlb' : L ≤ xs.length := hlb
      rw [HY.out, List.length_append, List.length_cons, List.length_take, List.length_drop]; omega
    have hm1 : Mod (fun k => k = B ∨ blk a = some k) w w3 := ((HM1.out.trans MA.out).mono (fun _ _ f => f.elim)).step HG.out.mod (fun k _ e => .inr e)
    refine ⟨⟨_, rfl⟩, a', c', ⟨?_, ?_, hn3, ?_, HON.out⟩, hm1.setCell (fun _ => .inl rfl) _, ?_⟩
    · have := heap_setCell_at (j := 1) (.slice a' (xs.length + 1) c') HS3.out
      unfold SetAt
      rw [hlen]; exact this
    · rw [hlen, HY.out]
      exact HO.out.mod ((Mod.refl (fun k => k = B) w3).setCell (fun _ => rfl) _) (fun b hb e => hn3 (by rw [hb, e]))
    · rw [HTX.out]; exact HSO.out
    · rcases HG.out.pos with e | ⟨g, e, hg⟩
      · exact .inl e
      · have h2 := HM1.out.size
        have h3 := MA.out.size
        exact .inr ⟨g, e, by omega⟩
end Go.Proofs.YteecbbnpgmceiaaGreatDoor
