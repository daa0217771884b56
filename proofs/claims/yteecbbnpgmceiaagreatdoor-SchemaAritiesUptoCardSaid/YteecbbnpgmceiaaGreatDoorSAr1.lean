/-
  SchemaArities: what its walk says of lists of predicates and of relations.
-/
import Derived.Test.YteecbbnpgmceiaaGreatDoorSRWG
import Derived.Test.YteecbbnpgmceiaaGreatDoorSchO
import Derived.Test.YteecbbnpgmceiaaGreatDoorSchA
import Derived.Test.YteecbbnpgmceiaaGreatDoorKp11
import Derived.Test.YteecbbnpgmceiaaGreatDoorObs
namespace Go.Proofs.YteecbbnpgmceiaaGreatDoor
open Go Go.RowKit Go.Mine
set_option linter.unusedVariables false
set_option maxHeartbeats 4000000
set_option maxRecDepth 100000

theorem tiRe : TI Tryz.prog 57 60 3 48 := TI.mk' (z := .agg #[.string ByteArray.empty, .int .i64 0, .slice none 0 0]) (by kernel_rfl) (by kernel_rfl) rfl (by omega)
theorem resC_one (xs : List Re) : ∀ u ∈ resC xs, u.oneCell' = true := by
  intro u hu
  simp only [resC, List.mem_flatMap, reC] at hu
  obtain ⟨x, _, h⟩ := hu
  simp at h
  rcases h with rfl | rfl | rfl <;> rfl
abbrev oR (a : Option Addr) (n c : Nat) (xs : List Re) : Ob := ⟨60, 3, a, n, c, resC xs⟩
abbrev oP (a : Option Addr) (n c : Nat) (ps : List PdZ) : Ob := ⟨69, 3, a, n, c, pzsC ps⟩
abbrev oD (a : Option Addr) (n c : Nat) (ps : List PdZ) : Ob := ⟨134, 3, a, n, c, pzsC ps⟩
theorem oR_rd {w : World} {a : Option Addr} {n c : Nat} {ls m : List Re} (h : ObAt w (oR a n c (ls ++ m))) : Rd w a (resC ls) := by
  have h2 := (show Rd w a (resC (ls ++ m)) from h.rd).take (ls.length * 3)
  rw [resC_append, List.take_left' (by rw [resC_length])] at h2
  exact h2
theorem pz_cells {w : World} {b : Nat} {xs : List PdZ} (h : Rd w (some ⟨b, 0, none⟩) (pzsC xs)) {i : Nat} (hi : i < xs.length) : ∃ (t0 : ByteArray) (t1 t2 : Int), w.cell? ⟨b, i * 3, none⟩ = some (.string t0) ∧ w.cell? ⟨b, i * 3 + 1, none⟩ = some (.int .i64 t1) ∧ w.cell? ⟨b, i * 3 + 2, none⟩ = some (.int .i64 t2) := by
  obtain ⟨b1, o1, e, x0, x1, x2⟩ := rd_cellZ h hi
  cases e
  simp only [Nat.zero_add] at x0 x1 x2
  exact ⟨_, _, _, x0, x1, x2⟩
theorem pz_pre {w : World} {a : Option Addr} {xs ys : List PdZ} (h : Rd w a (pzsC (xs ++ ys))) : Rd w a (pzsC xs) := by
  have h2 := h.take (xs.length * 3)
  rw [pzsC_append, List.take_left' (by rw [pzsC_length])] at h2
  exact h2
theorem re_cells {w : World} {b : Nat} {xs : List Re} (h : Rd w (some ⟨b, 0, none⟩) (resC xs)) {i : Nat} (hi : i < xs.length) : w.cell? ⟨b, i * 3, none⟩ = some (.string xs[i].1) ∧ w.cell? ⟨b, i * 3 + 1, none⟩ = some (.int .i64 xs[i].2.1) := by
  obtain ⟨b1, o1, e, x0, x1, x2⟩ := rd_cellE h hi
  cases e
  simp only [Nat.zero_add] at x0 x1 x2
  exact ⟨x0, x1⟩
theorem res_set2 {L : List Re} {i : Nat} (hi : i < L.length) (x : ByteArray) (y : Int) : ((resC L).set (i * 3 + 1) (.int .i64 y)).set (i * 3) (.string x) = resC (L.set i (x, y, L[i].2.2)) := by
  have e : L = L.take i ++ L[i] :: L.drop (i + 1) := by rw [← List.drop_eq_getElem_cons hi, List.take_append_drop]
  have hl : (L.take i).length = i := by rw [List.length_take]; omega
  have e2 : L.set i (x, y, L[i].2.2) = L.take i ++ (x, y, L[i].2.2) :: L.drop (i + 1) := by rw [List.set_eq_take_append_cons_drop, if_pos hi]
  rw [e2]
  have h1 : resC L = resC (L.take i) ++ (reC L[i] ++ resC (L.drop (i + 1))) := by
    conv => lhs; rw [e]
    rw [resC_append]; rfl
  have h2 : (resC (L.take i)).length = i * 3 := by rw [resC_length, hl]
  rw [h1, resC_append]
  rw [List.set_append_right _ _ (by omega), List.set_append_right _ _ (by omega), h2, Nat.sub_self, Nat.add_sub_cancel_left]
  rfl
/-- the first i turned -/
def RPf (g : Nat → Re) (ls : List Re) (i : Nat) : List Re := (List.range i).map g ++ ls.drop i
theorem RPf_len (g : Nat → Re) {ls : List Re} {i : Nat} (h : i ≤ ls.length) : (RPf g ls i).length = ls.length := by unfold RPf; rw [List.length_append, List.length_map, List.length_range, List.length_drop]; omega
theorem RPf_get (g : Nat → Re) {ls : List Re} {i : Nat} (h : i < ls.length) (h2 : i < (RPf g ls i).length) : (RPf g ls i)[i] = ls[i] := by
  have hl : ((List.range i).map g).length = i := by rw [List.length_map, List.length_range]
  have h3 : (RPf g ls i)[i]? = some ls[i] := by
    unfold RPf
    rw [List.getElem?_append_right (by omega), hl, Nat.sub_self, List.getElem?_drop, Nat.add_zero, List.getElem?_eq_getElem h]
  rw [List.getElem?_eq_getElem h2] at h3
  exact Option.some.inj h3
theorem RPf_step (g : Nat → Re) {ls : List Re} {i : Nat} (h : i < ls.length) : (RPf g ls i).set i (g i) = RPf g ls (i + 1) := by
  unfold RPf
  have hl : ((List.range i).map g).length = i := by rw [List.length_map, List.length_range]
  rw [List.set_append_right _ _ (by omega), hl, Nat.sub_self, List.drop_eq_getElem_cons h, List.set_cons_zero, List.range_succ, List.map_append, List.append_assoc]
  rfl
theorem RPf_zero (g : Nat → Re) (ls : List Re) : RPf g ls 0 = ls := by simp [RPf]
theorem RPf_end (g : Nat → Re) (ls : List Re) : RPf g ls ls.length = (List.range ls.length).map g := by simp [RPf]
def dRe : Re := (⟨#[]⟩, 0, none, 0, 0)
def nxA (k : Nat) (z : Int) : Int := wrap64 (wrap64 (z + 1) + (k : Int) % 2)
def gR (ls : List Re) (i : Nat) : Re := ((ls.getD i dRe).1 ++ ⟨#[120]⟩, nxA i (ls.getD i dRe).2.1, (ls.getD i dRe).2.2)
theorem wrap64_in (z : Int) : In64 (wrap64 z) := by
  unfold In64 wrap64
  constructor <;> omega
theorem gR_ok {ls : List Re} (h : ∀ x ∈ ls, x.1.size ≤ 2 ^ 20 ∧ In64 x.2.1) : ∀ x ∈ (List.range ls.length).map (gR ls), x.1.size ≤ maxLen ∧ In64 x.2.1 := by
  intro x hx
  obtain ⟨i, hi, rfl⟩ := List.mem_map.1 hx
  have hi' : i < ls.length := List.mem_range.1 hi
  have h1 := (h _ (List.getElem_mem hi')).1
  refine ⟨?_, wrap64_in _⟩
  unfold gR
  rw [List.getD_eq_getElem?_getD, List.getElem?_eq_getElem hi']
  show (ls[i].1 ++ (⟨#[120]⟩ : ByteArray)).size ≤ maxLen
  rw [ByteArray.size_append]
  have : (⟨#[120]⟩ : ByteArray).size = 1 := rfl
  rw [this]; unfold maxLen; omega
theorem pz_name {w : World} {b : Nat} {xs : List PdZ} (h : Rd w (some ⟨b, 0, none⟩) (pzsC xs)) {i : Nat} {x : PdZ} (hi : xs[i]? = some x) : w.cell? ⟨b, i * 3, none⟩ = some (.string x.1) ∧ w.cell? ⟨b, i * 3 + 1, none⟩ = some (.int .i64 x.2.1) := by
  obtain ⟨hil, rfl⟩ := List.getElem?_eq_some_iff.1 hi
  obtain ⟨b1, o1, e, x0, x1, x2⟩ := rd_cellZ h hil
  cases e
  simp only [Nat.zero_add] at x0 x1 x2
  exact ⟨x0, x1⟩
theorem WPost.ob {w w' : World} {e : Ending} {R : Option (List PdZ)} (h : WPost w w' e R) : ∃ a, e = .returned (.tuple #[.slice a (psOf R).length (psOf R).length, .int .i64 (ffOf R)]) ∧ ObAt w' (oP a (psOf R).length (psOf R).length (psOf R)) ∧ ∀ b, blk a = some b → w.heap.size ≤ b := by
  cases R with
  | none => exact ⟨none, h, .inl (Own.nil _ _ _), fun b hb => by simp at hb⟩
  | some ps =>
    obtain ⟨a, he, hC, hF⟩ := h
    exact ⟨a, he, .inr ⟨rfl, hC⟩, hF⟩
theorem RWPost.ob {w w' : World} {e : Ending} {R : Option (List PdZ)} (h : RWPost w w' e R) : ∃ a c, e = .returned (.tuple #[.slice a (psOf R).length c, .int .i64 (ffOf R)]) ∧ ObAt w' (oD a (psOf R).length c (psOf R)) ∧ ∀ b, blk a = some b → w.heap.size ≤ b := by
  cases R with
  | none => exact ⟨none, 0, h, .inl (Own.nil _ _ _), fun b hb => by simp at hb⟩
  | some ps =>
    obtain ⟨a, c, he, hC, hF⟩ := h
    exact ⟨a, c, he, .inl hC, hF⟩
theorem pzs_set3 {L : List PdZ} {i : Nat} (hi : i < L.length) (x : ByteArray) (y : Int) (z : Nat) : (((pzsC L).set (i * 3) (.string x)).set (i * 3 + 1) (.int .i64 y)).set (i * 3 + 2) (.int .i64 z) = pzsC (L.set i (x, y, z)) := by
  have e : L = L.take i ++ L[i] :: L.drop (i + 1) := by rw [← List.drop_eq_getElem_cons hi, List.take_append_drop]
  have hl : (L.take i).length = i := by rw [List.length_take]; omega
  have e2 : L.set i (x, y, z) = L.take i ++ (x, y, z) :: L.drop (i + 1) := by rw [List.set_eq_take_append_cons_drop, if_pos hi]
  rw [e2]
  have h1 : pzsC L = pzsC (L.take i) ++ (pzC L[i] ++ pzsC (L.drop (i + 1))) := by
    conv => lhs; rw [e]
    rw [pzsC_append]; rfl
  have h2 : (pzsC (L.take i)).length = i * 3 := by rw [pzsC_length, hl]
  rw [h1, pzsC_append]
  rw [List.set_append_right _ _ (by omega), List.set_append_right _ _ (by omega), List.set_append_right _ _ (by omega), h2, Nat.sub_self, Nat.add_sub_cancel_left, Nat.add_sub_cancel_left]
  rfl
/-- the first i written over -/
def SPf (f : Nat → PdZ) (ps : List PdZ) (i : Nat) : List PdZ := (List.range i).map f ++ ps.drop i
theorem SPf_len (f : Nat → PdZ) {ps : List PdZ} {i : Nat} (h : i ≤ ps.length) : (SPf f ps i).length = ps.length := by unfold SPf; rw [List.length_append, List.length_map, List.length_range, List.length_drop]; omega
theorem SPf_step (f : Nat → PdZ) {ps : List PdZ} {i : Nat} (h : i < ps.length) : (SPf f ps i).set i (f i) = SPf f ps (i + 1) := by
  unfold SPf
  have hl : ((List.range i).map f).length = i := by rw [List.length_map, List.length_range]
  rw [List.set_append_right _ _ (by omega), hl, Nat.sub_self, List.drop_eq_getElem_cons h, List.set_cons_zero, List.range_succ, List.map_append, List.append_assoc]
  rfl
theorem SPf_zero (f : Nat → PdZ) (ps : List PdZ) : SPf f ps 0 = ps := by simp [SPf]
theorem SPf_end (f : Nat → PdZ) (ps : List PdZ) : SPf f ps ps.length = (List.range ps.length).map f := by simp [SPf]
def sxB : ByteArray := ⟨#[115, 112, 111, 105, 108, 116]⟩
def f1 (i : Nat) : PdZ := (⟨#[115, 112, 111, 105, 108, 116]⟩, (i : Int), 0)
def f2 (i : Nat) : PdZ := (⟨#[115, 112, 111, 105, 108, 116]⟩, 0, 0)
def moreP : PdZ := (⟨#[109, 111, 114, 101]⟩, 0, 0)
def otherP : PdZ := (⟨#[111, 116, 104, 101, 114]⟩, 0, 0)
theorem rep_succ (x : PdZ) (L : List PdZ) (j : Nat) : pzsC (L ++ List.replicate j x) ++ pzC x = pzsC (L ++ List.replicate (j + 1) x) := by
  have e : L ++ List.replicate (j + 1) x = (L ++ List.replicate j x) ++ [x] := by rw [List.replicate_succ', List.append_assoc]
  rw [e, pzsC_append (L ++ List.replicate j x) [x]]
  congr 1
theorem ps_le (R : Option (List PdZ)) {N : Nat} (h : ∀ ps, R = some ps → ps.length ≤ N) : (psOf R).length ≤ N := by
  cases R with
  | none => exact Nat.zero_le _
  | some ps => exact h ps rfl
theorem notedZ_le : ∀ {us L M : ArZ}, notedZ L us = some M → M.length ≤ L.length + us.length
  | [], L, M, h => by rw [notedZ] at h; cases h; simp
  | u :: us, L, M, h => by
    rw [notedZ] at h
    by_cases hf : fitsZ L u = true
    · rw [if_pos hf] at h
      have := notedZ_le h
      have := noteZ_len L u
      rw [List.length_cons]; omega
    · rw [if_neg hf] at h; cases h
theorem withR_len {rs : List Rm} {rels : ArZ} {ps : List PdZ} (h : withL rs rels = some ps) : ps.length ≤ (usesAll rs).length + rels.length := by
  unfold withL at h
  cases hn : notedL [] (usesAll rs) with
  | none => rw [hn] at h; cases h
  | some L =>
    rw [hn] at h
    simp only [Option.bind_some] at h
    cases hz : notedZ (toZ L) rels with
    | none => rw [hz] at h; cases h
    | some M =>
      rw [hz] at h
      simp only [Option.map_some, Option.some.injEq] at h
      subst h
      have h1 := notedL_le hn
      have h2 := notedZ_le hz
      have h3 : (toZ L).length = L.length := by unfold toZ; rw [List.length_map]
      unfold predsZ
      rw [List.length_map, (sortN_perm _).length_eq, List.length_map]
      simp only [List.length_nil] at h1
      omega
end Go.Proofs.YteecbbnpgmceiaaGreatDoor
