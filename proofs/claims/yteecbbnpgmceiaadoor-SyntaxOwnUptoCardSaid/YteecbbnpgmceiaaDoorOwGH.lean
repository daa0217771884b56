/-
  SyntaxOwn: what is told of a rule.
-/
import Derived.Test.YteecbbnpgmceiaaDoorOwnF
import Derived.Test.YteecbbnpgmceiaaDoorOrdA
namespace Go.Proofs.YteecbbnpgmceiaaDoor
open Go Go.RowKit Go.Mine
set_option linter.unusedVariables false
set_option maxHeartbeats 4000000
set_option maxRecDepth 100000

section
variable {w w1 w2 : World} {lo tb : Nat} {a1 a1' a2 a2' a3 a3' : Option Addr} {c1 c1' c2 c2' c3 c3' : Nat} {Lt Ll Lr P : Ps}
theorem TD.mod0 (h : TD w lo tb a1 c1 a2 c2 a3 c3 Lt Ll Lr) (m : Mod (fun _ => False) w w1) : TD w1 lo tb a1 c1 a2 c2 a3 c3 Lt Ll Lr :=
  ⟨m.at h.at_ id, h.tlt, h.o1.mod m (fun _ _ => id), h.o2.mod m (fun _ _ => id), h.o3.mod m (fun _ _ => id), h.g1, h.g2, h.g3, h.d12, h.d13, h.d23⟩
theorem grow_ge (hG : Mine.Grow w1 a1 w2 a1') (h : ∀ b, blk a1 = some b → lo ≤ b) (hlo : lo ≤ w1.heap.size) : ∀ b, blk a1' = some b → lo ≤ b := by
  intro b hb
  rcases hG.pos with e | ⟨g, e, hg⟩
  · exact h b (by rw [← e]; exact hb)
  · rw [e] at hb; cases hb; omega
/-- one more in the list of terms' lists -/
theorem TD.step1 (h : TD w lo tb a1 c1 a2 c2 a3 c3 Lt Ll Lr) (hlo : lo ≤ w.heap.size) (hM : Mod (fun _ => False) w w1) {n : Nat} (hn : n = (Lt ++ P).length) (hO : Mine.Own w2 37 1 a1' n c1' (psV Lt ++ psV P)) (hG : Mine.Grow w1 a1 w2 a1') :
    TD (w2.setCell ⟨tb, 0, none⟩ (.slice a1' n c1')) lo tb a1' c1' a2 c2 a3 c3 (Lt ++ P) Ll Lr ∧ Mod (fun b => b = tb ∨ blk a1 = some b) w (w2.setCell ⟨tb, 0, none⟩ (.slice a1' n c1')) := by
  subst hn
  have h1 := h.mod0 hM
  have hlo1 : lo ≤ w1.heap.size := Nat.le_trans hlo hM.size
  have gg := grow_ge hG h1.g1 hlo1
  have hm2 : Mod (fun b => b = tb) w2 (w2.setCell ⟨tb, 0, none⟩ (.slice a1' (Lt ++ P).length c1')) := (Mod.refl (fun b => b = tb) w2).setCell (p := ⟨tb, 0, none⟩) (fun _ => rfl) _
  have ht := h.tlt
  refine ⟨⟨?_, h.tlt, ?_, ?_, ?_, gg, h.g2, h.g3, ?_, ?_, h.d23⟩, ?_⟩
  · exact heap_setCell_at _ (hG.mod.at h1.at_ (fun e => by have := h1.g1 tb e; omega))
  · have : psV (Lt ++ P) = psV Lt ++ psV P := by simp [psV]
    rw [this]
    exact hO.mod hm2 (fun b hb e => by have := gg b hb; omega)
  · exact (h1.o2.mod hG.mod (fun b hb e => h1.d12 b e hb)).mod hm2 (fun b hb e => by have := h1.g2 b hb; omega)
  · exact (h1.o3.mod hG.mod (fun b hb e => h1.d13 b e hb)).mod hm2 (fun b hb e => by have := h1.g3 b hb; omega)
  · intro b hb e
    exact hG.ne (h1.o2.lt b e) (fun e1 => h1.d12 b e1 e) hb
  · intro b hb e
    exact hG.ne (h1.o3.lt b e) (fun e1 => h1.d13 b e1 e) hb
  · exact ((hM.mono (T := fun b => b = tb ∨ blk a1 = some b) (fun _ _ e => e.elim)).trans (hG.mod.mono (fun b _ e => .inr e))).trans (hm2.mono (fun _ _ e => .inl e))
theorem TD.step2 (h : TD w lo tb a1 c1 a2 c2 a3 c3 Lt Ll Lr) (hlo : lo ≤ w.heap.size) (hM : Mod (fun _ => False) w w1) {n : Nat} (hn : n = (Ll ++ P).length) (hO : Mine.Own w2 40 1 a2' n c2' (psV Ll ++ psV P)) (hG : Mine.Grow w1 a2 w2 a2') :
    TD (w2.setCell ⟨tb, 1, none⟩ (.slice a2' n c2')) lo tb a1 c1 a2' c2' a3 c3 Lt (Ll ++ P) Lr ∧ Mod (fun b => b = tb ∨ blk a2 = some b) w (w2.setCell ⟨tb, 1, none⟩ (.slice a2' n c2')) := by
  subst hn
  have h1 := h.mod0 hM
  have hlo1 : lo ≤ w1.heap.size := Nat.le_trans hlo hM.size
  have gg := grow_ge hG h1.g2 hlo1
  have hm2 : Mod (fun b => b = tb) w2 (w2.setCell ⟨tb, 1, none⟩ (.slice a2' (Ll ++ P).length c2')) := (Mod.refl (fun b => b = tb) w2).setCell (p := ⟨tb, 1, none⟩) (fun _ => rfl) _
  have ht := h.tlt
  refine ⟨⟨?_, h.tlt, ?_, ?_, ?_, h.g1, gg, h.g3, ?_, h.d13, ?_⟩, ?_⟩
  · exact heap_setCell_at _ (hG.mod.at h1.at_ (fun e => by have := h1.g2 tb e; omega))
  · exact (h1.o1.mod hG.mod (fun b hb e => h1.d12 b hb e)).mod hm2 (fun b hb e => by have := h1.g1 b hb; omega)
  · have : psV (Ll ++ P) = psV Ll ++ psV P := by simp [psV]
    rw [this]
    exact hO.mod hm2 (fun b hb e => by have := gg b hb; omega)
  · exact (h1.o3.mod hG.mod (fun b hb e => h1.d23 b e hb)).mod hm2 (fun b hb e => by have := h1.g3 b hb; omega)
  · intro b hb e
    exact hG.ne (h1.o1.lt b hb) (fun e1 => h1.d12 b hb e1) e
  · intro b hb e
    exact hG.ne (h1.o3.lt b e) (fun e1 => h1.d23 b e1 e) hb
  · exact ((hM.mono (T := fun b => b = tb ∨ blk a2 = some b) (fun _ _ e => e.elim)).trans (hG.mod.mono (fun b _ e => .inr e))).trans (hm2.mono (fun _ _ e => .inl e))
theorem TD.step3 (h : TD w lo tb a1 c1 a2 c2 a3 c3 Lt Ll Lr) (hlo : lo ≤ w.heap.size) (hM : Mod (fun _ => False) w w1) {n : Nat} (hn : n = (Lr ++ P).length) (hO : Mine.Own w2 31 1 a3' n c3' (psV Lr ++ psV P)) (hG : Mine.Grow w1 a3 w2 a3') :
    TD (w2.setCell ⟨tb, 2, none⟩ (.slice a3' n c3')) lo tb a1 c1 a2 c2 a3' c3' Lt Ll (Lr ++ P) ∧ Mod (fun b => b = tb ∨ blk a3 = some b) w (w2.setCell ⟨tb, 2, none⟩ (.slice a3' n c3')) := by
  subst hn
  have h1 := h.mod0 hM
  have hlo1 : lo ≤ w1.heap.size := Nat.le_trans hlo hM.size
  have gg := grow_ge hG h1.g3 hlo1
  have hm2 : Mod (fun b => b = tb) w2 (w2.setCell ⟨tb, 2, none⟩ (.slice a3' (Lr ++ P).length c3')) := (Mod.refl (fun b => b = tb) w2).setCell (p := ⟨tb, 2, none⟩) (fun _ => rfl) _
  have ht := h.tlt
  refine ⟨⟨?_, h.tlt, ?_, ?_, ?_, h.g1, h.g2, gg, h.d12, ?_, ?_⟩, ?_⟩
  · exact heap_setCell_at _ (hG.mod.at h1.at_ (fun e => by have := h1.g3 tb e; omega))
  · exact (h1.o1.mod hG.mod (fun b hb e => h1.d13 b hb e)).mod hm2 (fun b hb e => by have := h1.g1 b hb; omega)
  · exact (h1.o2.mod hG.mod (fun b hb e => h1.d23 b hb e)).mod hm2 (fun b hb e => by have := h1.g2 b hb; omega)
  · have : psV (Lr ++ P) = psV Lr ++ psV P := by simp [psV]
    rw [this]
    exact hO.mod hm2 (fun b hb e => by have := gg b hb; omega)
  · intro b hb e
    exact hG.ne (h1.o1.lt b hb) (fun e1 => h1.d13 b hb e1) e
  · intro b hb e
    exact hG.ne (h1.o2.lt b hb) (fun e1 => h1.d23 b hb e1) e
  · exact ((hM.mono (T := fun b => b = tb ∨ blk a3 = some b) (fun _ _ e => e.elim)).trans (hG.mod.mono (fun b _ e => .inr e))).trans (hm2.mono (fun _ _ e => .inl e))
end
end Go.Proofs.YteecbbnpgmceiaaDoor
/-
  SyntaxOwn: Told.rule, walked.
-/
namespace Go.Proofs.YteecbbnpgmceiaaDoor
open Go Go.RowKit Go.Mine
set_option linter.unusedVariables false
set_option maxHeartbeats 4000000
set_option maxRecDepth 100000

theorem told_rule (w : World) (lo tb : Nat) (a1 : Option Addr) (c1 : Nat) (a2 : Option Addr) (c2 : Nat) (a3 : Option Addr) (c3 : Nat) (Lt Ll Lr : Ps) (hT : TD w lo tb a1 c1 a2 c2 a3 c3 Lt Ll Lr) (hlo : lo ≤ w.heap.size)
    (pr : ByteArray) (ha : Option Addr) (hn : Nat) (ba : Option Addr) (xs : List (Lm × Value)) (bn : Nat) (hbn : bn = xs.length) (hr : Rd w ba (lmsC xs)) (hba : ∀ b, blk ba = some b → b < lo ∧ b ≠ tb) (Q : Ps) (hQ : xs.map Prod.snd = psV Q)
    (hsm : bn ≤ 2048) (h1 : Lt.length + bn + 1 ≤ 1000000) (h2 : Ll.length + 1 ≤ 1000000) :
    Calls Tryd.prog 17 #[.pointer (some ⟨tb, 0, none⟩), .agg #[.string pr, .slice ha hn hn, .slice ba bn bn]] w fun e w' => e = .returned (.tuple #[]) ∧
      ∃ a1' c1' a2' c2', TD w' lo tb a1' c1' a2' c2' a3 c3 (Lt ++ [(ha, hn)] ++ Q) (Ll ++ [(ba, bn)]) Lr ∧ Mod (fun b => b = tb ∨ lo ≤ b) w w' := by
  obtain ⟨w0, hw0⟩ : ∃ w0, w0 = w.alloc (.cells #[.string pr, .slice ha hn hn, .slice ba bn bn] 42) := ⟨_, rfl⟩
  have hm0 : Mod (fun _ => False) w w0 := by rw [hw0]; exact (Mod.refl _ w).alloc _
  have r1 : w0.cell? ⟨w.heap.size, 1, none⟩ = some (.slice ha hn hn) := by rw [hw0]; exact cell_new rfl
  have r2 : w0.cell? ⟨w.heap.size, 2, none⟩ = some (.slice ba bn bn) := by rw [hw0]; exact cell_new rfl
  have t0 := cell_at (j := 0) (hT.mod0 hm0).at_ rfl
  have HT := Lib.hid (hT.mod0 hm0)
  have HM0 := Lib.hid hm0
  have HLO := Lib.hid hlo
  have HLO0 := Lib.hid (Nat.le_trans hlo hm0.size)
  have HR := Lib.hid hr; have HBA := Lib.hid hba; have HQ := Lib.hid hQ
  have R1 := Lib.hid r1; have R2 := Lib.hid r2; have HBN := Lib.hid hbn
  have HNE : Hid (tb < w.heap.size) := Lib.hid (by have := hT.tlt; omega)
  have HL1 := Lib.hid hT.o1.lt; have HL2 := Lib.hid hT.o2.lt
  have HSZ : Hid (w.heap.size < w0.heap.size) := Lib.hid (by rw [hw0]; simp)
  clear hT hr hba hQ hm0 hlo hbn
  go_enter Tryd.func17, Tryd.ntmps17
  go_wp2_with fail
  rw [← hw0]
  clear hw0
  refine wp_region_ord (fun W => W.cell? ⟨tb, 0, none⟩ = some (.slice a1 Lt.length c1) ∧ W.cell? ⟨w.heap.size, 1, none⟩ = some (.slice ha hn hn)) [(0, 0), (0, 1), (0, 2), (0, 3), (1, 4), (0, 5), (0, 6), (1, 7), (2, 8), (3, 9), (0, 10), (0, 11), (3, 12)] (by kernel_rfl) (by kernel_rfl) ?_
  go_wp2_with (first
    | (refine ord_pure rfl rfl rfl (fun K hK => ?_); go_big_quiet_op; refine hK _ ?_; clear hK K)
                        | (refine ord_skip rfl rfl ?_; simp only [Act.put, List.setIfInBounds_toArray, List.set_cons_zero, List.set_cons_succ])
                        | (refine ord_held rfl rfl rfl (⟨t0, r1⟩) (fun K hK => ?_); apply Exists.intro; refine ⟨fun w' hs => ?_, hK _ ?_⟩; (revert hs; dsimp only; (try simp only [and_imp]); intros; go_simp; rfl); clear hK K)
                        | (refine ord_keep rfl rfl (⟨t0, r1⟩) (fun K hK => ?_))
                        | (refine ord_drop rfl rfl (fun K hK => ?_))
                        | (refine ord_nil ?_))
  have m5 : Mod (fun _ => False) w0 (w0.alloc (.cells #[.slice ha hn hn] 37)).drew := ((Mod.refl _ w0).alloc _).drew
  refine hK _ _ ⟨m5.cell t0 id, m5.cell r1 id⟩ ?_; clear hK K
  have HT5 := Lib.hid (HT.out.mod0 m5)
  have HM5 := Lib.hid m5
  clear m5 t0 r1
  go_wp2_with (first
    | (refine ord_drop rfl rfl (fun K hK => ?_); refine wpO_append (.tmp 9) (.tmp 13) 26 26 rfl tiTs rfl HT5.out.o1 rfl (Src.ofRd tiTs.ht 1 1 (Rd.dr (Rd.news w0 [_] 37)) (by simp) (by simp [Value.oneCell'])) (by omega) (by unfold maxLen; omega) ?_; intro a5 c5 w5 hO5 hG5 _
       have hb5 := hG5.mod.at HT5.out.at_ (fun e => by have := HT5.out.g1 tb e; have := HT5.out.tlt; omega)
       have g5 := cell_at (j := 0) hb5 rfl
       have q5 : w5.frozen? ⟨tb, 0, none⟩ = false := frozen_at hb5
       have HO5 := Lib.hid hO5; have HG5 := Lib.hid hG5
       clear hO5 hG5 hb5
       refine hK _ _ ?_; clear hK K)
    | (refine ord_pure rfl rfl rfl (fun K hK => ?_); go_big_quiet_op; refine hK _ ?_; clear hK K)
                        | (refine ord_skip rfl rfl ?_; simp only [Act.put, List.setIfInBounds_toArray, List.set_cons_zero, List.set_cons_succ])
                        | (refine ord_held rfl rfl rfl (trivial) (fun K hK => ?_); apply Exists.intro; refine ⟨fun w' hs => ?_, hK _ ?_⟩; (revert hs; dsimp only; (try simp only [and_imp]); intros; go_simp; rfl); clear hK K)
                        | (refine ord_keep rfl rfl (trivial) (fun K hK => ?_))
                        | (refine ord_drop rfl rfl (fun K hK => ?_))
                        | (refine ord_nil ?_))
  clear g5 q5
  obtain ⟨hT6, hM6⟩ := HT.out.step1 (P := [(ha, hn)]) HLO0.out HM5.out (by simp) HO5.out HG5.out
  obtain ⟨w6, hw6⟩ : ∃ w6, w6 = w5.setCell ⟨tb, 0, none⟩ (.slice a5 (Lt.length + 1) c5) := ⟨_, rfl⟩
  rw [← hw6] at hT6 hM6 ⊢
  clear hw6
  have HT6 := Lib.hid hT6; have HM6 := Lib.hid hM6
  have HA1 : Hid (∀ b, blk a1 = some b → b < w.heap.size) := HL1
  have r2 := hM6.cell R2.out (fun e => by
    have h1 := HNE.out
    simp only at e
    rcases e with e | e
    · omega
    · have := HA1.out _ e; omega)
  have HN5 : Hid (∀ b, blk a5 = some b → b ≠ w.heap.size) := Lib.hid (fun b hb e => by
    rcases HG5.out.pos with h | ⟨g, h, hg⟩
    · have := HA1.out b (by rw [← h]; exact hb); omega
    · rw [h] at hb; cases hb
      have := HM5.out.size
      have := HSZ.out
      omega)
  have R6 := Lib.hid r2
  have HLO6 := Lib.hid (Nat.le_trans HLO0.out hM6.size)
  have t1 := cell_at (j := 1) hT6.at_ rfl
  clear hT6 hM6 HO5 HG5 HT5 HM5
  refine wp_region_ord (fun W => W.cell? ⟨tb, 1, none⟩ = some (.slice a2 Ll.length c2) ∧ W.cell? ⟨w.heap.size, 2, none⟩ = some (.slice ba bn bn)) [(0, 0), (0, 1), (0, 2), (0, 3), (1, 4), (0, 5), (1, 6), (2, 7), (3, 8), (0, 9), (0, 10), (3, 11)] (by kernel_rfl) (by kernel_rfl) ?_
  go_wp2_with (first
    | (refine ord_pure rfl rfl rfl (fun K hK => ?_); go_big_quiet_op; refine hK _ ?_; clear hK K)
                        | (refine ord_skip rfl rfl ?_; simp only [Act.put, List.setIfInBounds_toArray, List.set_cons_zero, List.set_cons_succ])
                        | (refine ord_held rfl rfl rfl (⟨t1, r2⟩) (fun K hK => ?_); apply Exists.intro; refine ⟨fun w' hs => ?_, hK _ ?_⟩; (revert hs; dsimp only; (try simp only [and_imp]); intros; go_simp; rfl); clear hK K)
                        | (refine ord_keep rfl rfl (⟨t1, r2⟩) (fun K hK => ?_))
                        | (refine ord_drop rfl rfl (fun K hK => ?_))
                        | (refine ord_nil ?_))
  have m7 : Mod (fun _ => False) w6 (w6.alloc (.cells #[.slice ba bn bn] 40)).drew := ((Mod.refl _ w6).alloc _).drew
  refine hK _ _ ⟨m7.cell t1 id, m7.cell r2 id⟩ ?_; clear hK K
  have HT7 := Lib.hid (HT6.out.mod0 m7)
  have HM7 := Lib.hid m7
  clear m7 t1 r2
  go_wp2_with (first
    | (refine ord_drop rfl rfl (fun K hK => ?_); refine wpO_append (.tmp 21) (.tmp 24) 27 27 rfl tiLs rfl HT7.out.o2 rfl (Src.ofRd tiLs.ht 1 1 (Rd.dr (Rd.news w6 [_] 40)) (by simp) (by simp [Value.oneCell'])) (by omega) (by unfold maxLen; omega) ?_; intro a8 c8 w8 hO8 hG8 _
       have hb8 := hG8.mod.at HT7.out.at_ (fun e => by have := HT7.out.g2 tb e; have := HT7.out.tlt; omega)
       have g8 := cell_at (j := 1) hb8 rfl
       have q8 : w8.frozen? ⟨tb, 1, none⟩ = false := frozen_at hb8
       have HO8 := Lib.hid hO8; have HG8 := Lib.hid hG8
       clear hO8 hG8 hb8
       refine hK _ _ ?_; clear hK K)
    | (refine ord_pure rfl rfl rfl (fun K hK => ?_); go_big_quiet_op; refine hK _ ?_; clear hK K)
                        | (refine ord_skip rfl rfl ?_; simp only [Act.put, List.setIfInBounds_toArray, List.set_cons_zero, List.set_cons_succ])
                        | (refine ord_held rfl rfl rfl (trivial) (fun K hK => ?_); apply Exists.intro; refine ⟨fun w' hs => ?_, hK _ ?_⟩; (revert hs; dsimp only; (try simp only [and_imp]); intros; go_simp; rfl); clear hK K)
                        | (refine ord_keep rfl rfl (trivial) (fun K hK => ?_))
                        | (refine ord_drop rfl rfl (fun K hK => ?_))
                        | (refine ord_nil ?_))
  clear g8 q8
  obtain ⟨hT9, hM9⟩ := HT6.out.step2 (P := [(ba, bn)]) HLO6.out HM7.out (by simp) HO8.out HG8.out
  obtain ⟨w9, hw9⟩ : ∃ w9, w9 = w8.setCell ⟨tb, 1, none⟩ (.slice a8 (Ll.length + 1) c8) := ⟨_, rfl⟩
  rw [← hw9] at hT9 hM9 ⊢
  clear hw9
  have HT9 := Lib.hid hT9
  have r9 := hM9.cell R6.out (fun e => by
    have h1 := HNE.out
    simp only at e
    rcases e with e | e
    · omega
    · have := HL2.out _ e; omega)
  have R9 := Lib.hid r9
  have HM9 : Hid (Mod (fun b => b = tb ∨ lo ≤ b) w w9) := Lib.hid (by
    have q1 := HM6.out.mono (T := fun b => b = tb ∨ lo ≤ b) (fun b _ e => e.elim .inl (fun e => .inr (HT.out.g1 b e)))
    have q2 := hM9.mono (T := fun b => b = tb ∨ lo ≤ b) (fun b _ e => e.elim .inl (fun e => .inr (HT6.out.g2 b e)))
    exact ((HM0.out.mono (fun _ _ e => e.elim)).trans q1).trans q2)
  have HLO9 := Lib.hid (Nat.le_trans HLO6.out hM9.size)
  clear hT9 hM9 HO8 HG8 HT7 HM7 HT6 HT HM6
  go_wp2_with fail
  have HQL : Hid (Q.length = bn) := Lib.hid (by have := congrArg List.length HQ.out; simp [psV] at this; rw [HBN.out, this])
  go_loopw [4] (fun iv wr => ∃ (k : Nat) (ak : Option Addr) (ck : Nat), iv = .int .i64 k ∧ k ≤ bn ∧ Hid (TD wr lo tb ak ck a8 c8 a3 c3 (Lt ++ [(ha, hn)] ++ Q.take k) (Ll ++ [(ba, bn)]) Lr) ∧ Hid (Mod (fun b => b = tb ∨ lo ≤ b) w wr) ∧
    Hid (wr.cell? ⟨w.heap.size, 2, none⟩ = some (.slice ba bn bn)) ∧ Hid (∀ b, blk ak = some b → b ≠ w.heap.size) ∧ Hid (lo ≤ wr.heap.size)) (fun iv _ => bn - (intOf iv).toNat)
  case atStart => exact ⟨0, a5, c5, rfl, Nat.zero_le _, Lib.hid (by simpa using HT9.out), HM9, R9, HN5, HLO9⟩
  case round =>
    obtain ⟨k, ak, ck, rfl, hk, hTk, hM, hB, hN, hL⟩ := hrel
    have r2 := hB.out
    by_cases hlt : k < bn
    · obtain ⟨⟨pa, pn⟩, hq⟩ : ∃ p, Q[k]? = some p := ⟨_, List.getElem?_eq_getElem (by rw [HQL.out]; exact hlt)⟩
      obtain ⟨x, hx⟩ : ∃ x, xs[k]? = some x := ⟨_, List.getElem?_eq_getElem (by rw [← HBN.out]; exact hlt)⟩
      have hxv : x.2 = .slice pa pn pn := by
        have := congrArg (fun l => l[k]?) HQ.out
        simp only [psV, List.getElem?_map, hq, hx, Option.map_some, Option.some.injEq] at this
        exact this
      obtain ⟨l, v⟩ := x
      simp only at hxv
      subst hxv
      obtain ⟨b1, o1, rfl, _, _, x2, _, _, _, _, _⟩ := rd_cell8 (HR.out.mod hM.out (fun b hb e => by have := HBA.out b hb; omega)) hx
      have HTK : Hid (Q.take (k + 1) = Q.take k ++ [(pa, pn)]) := Lib.hid (by
        rw [List.take_add_one, hq]; rfl)
      obtain ⟨N, hNN⟩ : ∃ N, N = (Lt ++ [(ha, hn)] ++ Q.take k).length := ⟨_, rfl⟩
      have hNb : N ≤ 1000000 := by rw [hNN]; simp; omega
      have t0 := cell_at (j := 0) hTk.out.at_ rfl
      have ho := hTk.out.o1
      rw [← hNN] at t0 ho
      have HNN := Lib.hid hNN; have HO := Lib.hid ho; have X2 := Lib.hid x2; have T0 := Lib.hid t0
      clear hNN ho hx hq
      go_wp2_with fail
      refine wp_region_ord (fun W => W.cell? ⟨tb, 0, none⟩ = some (.slice ak N ck) ∧ W.cell? ⟨w.heap.size, 2, none⟩ = some (.slice (some ⟨b1, o1, none⟩) bn bn) ∧ W.cell? ⟨b1, o1 + k * 8 + 2, none⟩ = some (.slice pa pn pn)) [(0, 0), (0, 1), (0, 2), (0, 3), (1, 4), (0, 5), (1, 6), (0, 7), (0, 8), (0, 9), (0, 10), (1, 11), (2, 12), (3, 13), (0, 14), (0, 15), (3, 16)] (by kernel_rfl) (by kernel_rfl) ?_
      go_wp2_with (first
        | (refine ord_pure rfl rfl rfl (fun K hK => ?_); go_big_quiet_op; refine hK _ ?_; clear hK K)
                        | (refine ord_skip rfl rfl ?_; simp only [Act.put, List.setIfInBounds_toArray, List.set_cons_zero, List.set_cons_succ])
                        | (refine ord_held rfl rfl rfl (⟨t0, r2, x2⟩) (fun K hK => ?_); apply Exists.intro; refine ⟨fun w' hs => ?_, hK _ ?_⟩; (revert hs; dsimp only; (try simp only [and_imp]); intros; go_simp; rfl); clear hK K)
                        | (refine ord_keep rfl rfl (⟨t0, r2, x2⟩) (fun K hK => ?_))
                        | (refine ord_drop rfl rfl (fun K hK => ?_))
                        | (refine ord_nil ?_))
      have m5 : Mod (fun _ => False) wr (wr.alloc (.cells #[.slice pa pn pn] 37)).drew := ((Mod.refl _ wr).alloc _).drew
      refine hK _ _ ⟨m5.cell t0 id, m5.cell r2 id, m5.cell x2 id⟩ ?_; clear hK K
      have HT5 := Lib.hid (hTk.out.mod0 m5)
      have HM5 := Lib.hid m5
      have HO1 := Lib.hid (HO.out.mod m5 (fun _ _ => id))
      clear m5 t0 r2 x2
      go_wp2_with (first
        | (refine ord_drop rfl rfl (fun K hK => ?_); refine wpO_append (.tmp 39) (.tmp 47) 26 26 rfl tiTs rfl HO1.out rfl (Src.ofRd tiTs.ht 1 1 (Rd.dr (Rd.news wr [_] 37)) (by simp) (by simp [Value.oneCell'])) (by omega) (by unfold maxLen; omega) ?_; intro a6 c6 w5 hO5 hG5 _
           have hb5 := hG5.mod.at HT5.out.at_ (fun e => by have := HT5.out.g1 tb e; have := HT5.out.tlt; omega)
           have g5 := cell_at (j := 0) hb5 rfl
           have q5 : w5.frozen? ⟨tb, 0, none⟩ = false := frozen_at hb5
           have HO5 := Lib.hid hO5; have HG5 := Lib.hid hG5
           clear hO5 hG5 hb5
           refine hK _ _ ?_; clear hK K)
        | (refine ord_pure rfl rfl rfl (fun K hK => ?_); go_big_quiet_op; refine hK _ ?_; clear hK K)
                        | (refine ord_skip rfl rfl ?_; simp only [Act.put, List.setIfInBounds_toArray, List.set_cons_zero, List.set_cons_succ])
                        | (refine ord_held rfl rfl rfl (trivial) (fun K hK => ?_); apply Exists.intro; refine ⟨fun w' hs => ?_, hK _ ?_⟩; (revert hs; dsimp only; (try simp only [and_imp]); intros; go_simp; rfl); clear hK K)
                        | (refine ord_keep rfl rfl (trivial) (fun K hK => ?_))
                        | (refine ord_drop rfl rfl (fun K hK => ?_))
                        | (refine ord_nil ?_))
      clear g5 q5
      obtain ⟨hT6, hM6⟩ := hTk.out.step1 (P := [(pa, pn)]) hL.out HM5.out (n := N + 1) (by rw [HNN.out]; simp; omega) HO5.out HG5.out
      obtain ⟨w6, hw6⟩ : ∃ w6, w6 = w5.setCell ⟨tb, 0, none⟩ (.slice a6 (N + 1) c6) := ⟨_, rfl⟩
      rw [← hw6] at hT6 hM6 ⊢
      clear hw6
      rw [List.append_assoc, ← HTK.out] at hT6
      have r6 := hM6.cell hB.out (fun e => by
        have h1 := HNE.out
        simp only at e
        rcases e with e | e
        · omega
        · exact hN.out _ e rfl)
      have hn6 : ∀ b, blk a6 = some b → b ≠ w.heap.size := fun b hb e => by
        rcases HG5.out.pos with h | ⟨g, h, hg⟩
        · exact hN.out b (by rw [← h]; exact hb) e
        · rw [h] at hb; cases hb
          have := HM5.out.size
          have := hM.out.size
          have := World.block_lt_of_cell? _ _ hB.out
          simp only at this
          omega
      have HT6 := Lib.hid hT6; have HM6 := Lib.hid hM6; have HR6 := Lib.hid r6; have HN6 := Lib.hid hn6
      clear hT6 hM6 r6 hn6
      go_roundw
      case rel =>
        refine ⟨k + 1, a6, c6, by go_num, hlt, HT6, Lib.hid ?_, HR6, HN6, Lib.hid (Nat.le_trans hL.out HM6.out.size)⟩
        exact hM.out.trans (HM6.out.mono (fun b _ e => e.elim .inl (fun e => .inr (hTk.out.g1 b e))))
      case measure => simp [intOf]; omega
    · obtain rfl : k = bn := by omega
      go_wp2_with fail
      go_end0
      refine ⟨rfl, ak, ck, a8, c8, ?_, hM.out⟩
      have := hTk.out
      rw [List.take_of_length_le (by rw [HQL.out]; exact Nat.le_refl _)] at this
      exact this
end Go.Proofs.YteecbbnpgmceiaaDoor
