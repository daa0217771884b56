/-
  The tables of a script, side by side.
-/
import Derived.Test.YtcmgeiohcgngeaaSymE1
namespace Go.Proofs.Ytcmgeiohcgngeaa
open Go Go.RowKit Go.Mine Go.Maps
set_option linter.unusedVariables false
set_option maxHeartbeats 4000000
set_option maxRecDepth 100000

/-- a pair of tables -/
structure PrD where
  T : Nat
  M : Nat
  B : Nat
  a : Option Addr
  c : Nat
  a2 : Option Addr
  c2 : Nat
  l : List ByteArray
def prI (p : PrD) : It :=
  ⟨PrF p.T p.M p.B p.a p.a2, fun w => PrAt w p.T p.M p.B p.a p.c p.a2 p.c2 p.l, fun S w w' h m hs => h.mod m hs, fun w h b hb => h.lt hb⟩
def tbV (ps : List PrD) : List Value := ps.map fun p => .pointer (some ⟨p.T, 0, none⟩)
def mdV (ps : List PrD) : List Value := ps.map fun p => .pointer (some ⟨p.M, 0, none⟩)
@[simp] theorem tbV_len (ps : List PrD) : (tbV ps).length = ps.length := by simp [tbV]
@[simp] theorem mdV_len (ps : List PrD) : (mdV ps).length = ps.length := by simp [mdV]
theorem tiTb : TI Try.prog 25 27 1 8 := TI.mk' (z := .pointer none) (by kernel_rfl) (by kernel_rfl) rfl (by omega)
theorem tiMd : TI Try.prog 26 29 1 8 := TI.mk' (z := .pointer none) (by kernel_rfl) (by kernel_rfl) rfl (by omega)
/-- what holds of a script's tables: the two slices, the pairs -/
structure ScrAt (L : Nat) (w : World) (ta : Option Addr) (tn tc : Nat) (ma : Option Addr) (mn mc : Nat) (tv mv : List Value) (ps : List PrD) : Prop where
  fam : Fam L w (ownI 27 1 ta tn tc tv :: ownI 29 1 ma mn mc mv :: ps.map prI)
  ok : ∀ p ∈ ps, OkT p.l
/-- an operation on a pair -/
theorem does_pr (p : PrD) (kd wh N : Int) (ta : Option Addr) (tc : Nat) (xs : List ByteArray) {w : World} (hp : (prI p).P w) (hok : OkT p.l) (hR : Rd w ta (sts xs)) (hta : ∀ b, blkX ta xs = some b → b < w.heap.size ∧ ¬ (prI p).F b) (hn : p.l.length + xs.length ≤ 2 ^ 20) (hs : ∀ x ∈ xs, x.size < 2 ^ 40) :
    Calls Try.prog 7 #[.pointer (some ⟨p.T, 0, none⟩), .pointer (some ⟨p.M, 0, none⟩), .agg #[.int .i64 kd, .int .i64 wh, .slice ta xs.length tc, .int .i64 N]] w fun e w' => e = .returned (.bool true) ∧
      ∃ p', p'.T = p.T ∧ p'.M = p.M ∧ (prI p').P w' ∧ OkT p'.l ∧ p'.l.length ≤ p.l.length + xs.length ∧ Mod (prI p).F w w' ∧ ∀ b, (prI p').F b → (prI p).F b ∨ w.heap.size ≤ b := by
  refine (does_tb kd wh N ta tc xs hp hok hR hta hn hs).mono ?_
  rintro e w' ⟨rfl, a', c', a2', c2', l', h1, h2, h3, h4⟩
  refine ⟨rfl, ⟨p.T, p.M, p.B, a', c', a2', c2', l'⟩, rfl, rfl, h1, ?_, ?_, h3, h4⟩
  · rcases h2 with h | ⟨h, h5⟩
    · show OkT l'
      rw [h]; exact hok
    · show OkT l'
      rw [h5]; exact hok.put h
  · show l'.length ≤ _
    rcases h2 with h | ⟨h, h5⟩
    · rw [h]; omega
    · rw [h5]; exact (putT_le _ _).2
theorem fam_merge {L : Nat} {w : World} {its : List It} {T M B : Nat} {a : Option Addr} {c : Nat} {a2 : Option Addr} {c2 : Nat} {l : List ByteArray} (h : Fam L w (its ++ [tbI T a c B l, rbI M a2 c2 l])) : Fam L w (its ++ [prI ⟨T, M, B, a, c, a2, c2, l⟩]) := by
  obtain ⟨d1, d2, d3⟩ := List.pairwise_append.1 h.dj
  have ht : TbAt w T a c B l := h.at_ (tbI T a c B l) (by simp)
  have hr : RbAt w M a2 c2 l := h.at_ (rbI M a2 c2 l) (by simp)
  have hd := (List.pairwise_cons.1 d2).1 (rbI M a2 c2 l) (by simp)
  refine ⟨fun i hi => ?_, List.pairwise_append.2 ⟨d1, List.pairwise_singleton _ _, fun i hi j hj b hb hb' => ?_⟩, fun i hi b hb => ?_, h.sz⟩
  · rcases List.mem_append.1 hi with hi | hi
    · exact h.at_ i (List.mem_append.2 (.inl hi))
    · rw [List.mem_singleton] at hi
      subst hi
      exact ⟨ht, hr, fun b hb hs => hd b hb hs⟩
  · rw [List.mem_singleton] at hj
    subst hj
    rcases hb' with h1 | h1
    · exact d3 i hi (tbI T a c B l) (by simp) b hb h1
    · exact d3 i hi (rbI M a2 c2 l) (by simp) b hb h1
  · rcases List.mem_append.1 hi with hi | hi
    · exact h.lo i (List.mem_append.2 (.inl hi)) b hb
    · rw [List.mem_singleton] at hi
      subst hi
      rcases hb with h1 | h1
      · exact h.lo (tbI T a c B l) (by simp) b h1
      · exact h.lo (rbI M a2 c2 l) (by simp) b h1
theorem scr_nil {L : Nat} {w : World} (h : L ≤ w.heap.size) : Fam L w (ownI 27 1 none 0 0 (tbV []) :: ownI 29 1 none 0 0 (mdV []) :: ([] : List PrD).map prI) :=
  (Fam.one (i := ownI 27 1 none 0 0 (tbV [])) (Mine.Own.nil _ _ _) (fun b hb => by cases hb) h).push (Mod.refl _ w) (i := ownI 29 1 none 0 0 (mdV [])) (Mine.Own.nil _ _ _) (fun b hb => by cases hb)
theorem scr_mid {L : Nat} {w0 w2 w4 : World} {ta ma a4 : Option Addr} {k tc mc c4 : Nat} {tv tv' mv : List Value} {rest : List It} (o : Obj)
    (F0 : Fam L w0 (ownI 27 1 ta k tc tv :: ownI 29 1 ma k mc mv :: rest)) (m2 : Mod (fun _ => False) w0 w2)
    (hO4 : Mine.Own w4 27 1 a4 (k + 1) c4 tv') (hG4 : Grow w2 ta w4 a4) : Mine.Own (w4.alloc o) 29 1 ma k mc mv := by
  have F2 := Fam.upd0 (i := ownI 27 1 ta k tc tv) (i' := ownI 27 1 a4 (k + 1) c4 tv') (F0.mod0 m2) hG4.mod hO4 (fun b hb => by
      have hb' : blk a4 = some b := hb
      rcases hG4.pos with e | ⟨g, e, hg⟩
      · rw [e] at hb'
        exact .inl hb'
      · rw [e] at hb'
        have : g = b := by simpa using hb'
        exact .inr (by omega))
  have h1 : Mine.Own w4 29 1 ma k mc mv := F2.at_ (ownI 29 1 ma k mc mv) (by simp)
  exact h1.mod ((Mod.refl (fun _ => False) w4).alloc o) (fun _ _ => id)
theorem scr_mid0 {L : Nat} {w2 w4 : World} {ta ma a4 : Option Addr} {k tc mc c4 : Nat} {tv tv' mv : List Value} {rest : List It}
    (F0 : Fam L w2 (ownI 27 1 ta k tc tv :: ownI 29 1 ma k mc mv :: rest))
    (hO4 : Mine.Own w4 27 1 a4 (k + 1) c4 tv') (hG4 : Grow w2 ta w4 a4) : Mine.Own w4 29 1 ma k mc mv := by
  have F2 := Fam.upd0 (i := ownI 27 1 ta k tc tv) (i' := ownI 27 1 a4 (k + 1) c4 tv') F0 hG4.mod hO4 (fun b hb => by
      have hb' : blk a4 = some b := hb
      rcases hG4.pos with e | ⟨g, e, hg⟩
      · rw [e] at hb'
        exact .inl hb'
      · rw [e] at hb'
        have : g = b := by simpa using hb'
        exact .inr (by omega))
  exact F2.at_ (ownI 29 1 ma k mc mv) (by simp)
theorem scr_last {L : Nat} {w2 w4 w6 : World} {ta ma a4 a6 : Option Addr} {k tc mc c4 c6 : Nat} {tv tv' mv mv' : List Value} {rest : List It}
    (F0 : Fam L w2 (ownI 27 1 ta k tc tv :: ownI 29 1 ma k mc mv :: rest))
    (hO4 : Mine.Own w4 27 1 a4 (k + 1) c4 tv') (hG4 : Grow w2 ta w4 a4)
    (hO6 : Mine.Own w6 29 1 a6 (k + 1) c6 mv') (hG6 : Grow w4 ma w6 a6) :
    Fam L w6 (ownI 27 1 a4 (k + 1) c4 tv' :: ownI 29 1 a6 (k + 1) c6 mv' :: rest) := by
  have F2 := Fam.upd0 (i := ownI 27 1 ta k tc tv) (i' := ownI 27 1 a4 (k + 1) c4 tv') F0 hG4.mod hO4 (fun b hb => by
      have hb' : blk a4 = some b := hb
      rcases hG4.pos with e | ⟨g, e, hg⟩
      · rw [e] at hb'
        exact .inl hb'
      · rw [e] at hb'
        have : g = b := by simpa using hb'
        exact .inr (by omega))
  exact Fam.upd (l1 := [_]) (i := ownI 29 1 ma k mc mv) (i' := ownI 29 1 a6 (k + 1) c6 mv') F2 hG6.mod hO6 (fun b hb => by
      have hb' : blk a6 = some b := hb
      rcases hG6.pos with e | ⟨g, e, hg⟩
      · rw [e] at hb'
        exact .inl hb'
      · rw [e] at hb'
        have : g = b := by simpa using hb'
        exact .inr (by omega))
/-- a new pair -/
theorem scr_push {L : Nat} {w0 w2 w4 w5 w6 : World} {ta ma a4 a6 : Option Addr} {k tc mc c4 c6 T M B : Nat} {ps : List PrD}
    (F0 : Fam L w0 (ownI 27 1 ta k tc (tbV ps) :: ownI 29 1 ma k mc (mdV ps) :: ps.map prI))
    (m2 : Mod (fun _ => False) w0 w2) (ht : TbAt w2 T none 0 B []) (hT : w0.heap.size ≤ T) (hB : w0.heap.size ≤ B)
    (hO4 : Mine.Own w4 27 1 a4 (k + 1) c4 (tbV ps ++ [.pointer (some ⟨T, 0, none⟩)])) (hG4 : Grow w2 ta w4 a4)
    (m5 : Mod (fun _ => False) w4 w5) (hr : RbAt w5 M none 0 []) (hM : w4.heap.size ≤ M)
    (hO6 : Mine.Own w6 29 1 a6 (k + 1) c6 (mdV ps ++ [.pointer (some ⟨M, 0, none⟩)])) (hG6 : Grow w5 ma w6 a6) :
    Fam L w6 (ownI 27 1 a4 (k + 1) c4 (tbV (ps ++ [(⟨T, M, B, none, 0, none, 0, []⟩ : PrD)])) :: ownI 29 1 a6 (k + 1) c6 (mdV (ps ++ [(⟨T, M, B, none, 0, none, 0, []⟩ : PrD)])) :: (ps ++ [(⟨T, M, B, none, 0, none, 0, []⟩ : PrD)]).map prI) := by
  have F1 := F0.push m2 (i := tbI T none 0 B []) ht (fun b hb => by
    rcases hb with rfl | hb | rfl
    · exact hT
    · cases hb
    · exact hB)
  have F2 : Fam L w4 (ownI 27 1 a4 (k + 1) c4 (tbV ps ++ [.pointer (some ⟨T, 0, none⟩)]) :: ((ownI 29 1 ma k mc (mdV ps) :: ps.map prI) ++ [tbI T none 0 B []])) :=
    Fam.upd0 (i := ownI 27 1 ta k tc (tbV ps)) F1 hG4.mod hO4 (fun b hb => by
      have hb' : blk a4 = some b := hb
      rcases hG4.pos with e | ⟨g, e, hg⟩
      · rw [e] at hb'
        exact .inl hb'
      · rw [e] at hb'
        have : g = b := by simpa using hb'
        exact .inr (by omega))
  have F3 := F2.push m5 (i := rbI M none 0 []) hr (fun b hb => by
    rcases hb with rfl | hb
    · exact hM
    · cases hb)
  have F4 : Fam L w6 ([ownI 27 1 a4 (k + 1) c4 (tbV ps ++ [.pointer (some ⟨T, 0, none⟩)])] ++ ownI 29 1 a6 (k + 1) c6 (mdV ps ++ [.pointer (some ⟨M, 0, none⟩)]) :: (ps.map prI ++ [tbI T none 0 B []] ++ [rbI M none 0 []])) :=
    Fam.upd (l1 := [_]) (i := ownI 29 1 ma k mc (mdV ps)) F3 hG6.mod hO6 (fun b hb => by
      have hb' : blk a6 = some b := hb
      rcases hG6.pos with e | ⟨g, e, hg⟩
      · rw [e] at hb'
        exact .inl hb'
      · rw [e] at hb'
        have : g = b := by simpa using hb'
        exact .inr (by omega))
  rw [List.append_assoc] at F4
  have F5 := fam_merge (its := ownI 27 1 a4 (k + 1) c4 (tbV ps ++ [.pointer (some ⟨T, 0, none⟩)]) :: ownI 29 1 a6 (k + 1) c6 (mdV ps ++ [.pointer (some ⟨M, 0, none⟩)]) :: ps.map prI) F4
  have e1 : tbV (ps ++ [(⟨T, M, B, none, 0, none, 0, []⟩ : PrD)]) = tbV ps ++ [.pointer (some ⟨T, 0, none⟩)] := by simp [tbV]
  have e2 : mdV (ps ++ [(⟨T, M, B, none, 0, none, 0, []⟩ : PrD)]) = mdV ps ++ [.pointer (some ⟨M, 0, none⟩)] := by simp [mdV]
  rw [e1, e2, List.map_append]
  exact F5
end Go.Proofs.Ytcmgeiohcgngeaa
