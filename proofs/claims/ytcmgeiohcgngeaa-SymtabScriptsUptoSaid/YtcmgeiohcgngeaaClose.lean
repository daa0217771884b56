/-
  How a law's row is closed: the walk says 'true, and nothing that was there has turned'; the row's ending follows.
-/
import Derived.Test.YtcmgeiohcgngeaaRows
import Derived.Test.YtcmgeiohcgngeaaBase
import Derived.ProofKit
import Derived.OpenShut
import Derived.JoinedCond
import Derived.SliceStrings
namespace Go.Proofs.Ytcmgeiohcgngeaa
open Go Go.RowKit Go.Mine Go.ChangeShapes Go.WideShapes Go.ChangeAt
set_option linter.unusedVariables false

theorem own : ownKnob Try.prog.godebug = none := by kernel_rfl
theorem laidOut : laidOutB Try.prog = true := by kernel_rfl

theorem trodAll_stays {H : Type} {enc : TypeId × Value → H} {W W' : World} (hb : Below W.heap.size W W') :
    ∀ (ts : List TypeId) (vs : List Value) (ds : List (DataW H)) (p : List MemPlace), (∀ t ∈ ts, Try.prog.readableRec t = true ∧ t < Try.prog.types.size) → (∀ x ∈ p, x.block < W.heap.size) →
    DataW.TrodAll enc Try.prog W 0 (fun _ => true) true ts vs ds p → DataW.TrodAll enc Try.prog W' 0 (fun b => decide (b < W.heap.size)) true ts vs ds p
  | [], vs, ds, p, _, _, h => by
    obtain ⟨rfl, rfl, rfl⟩ := trodAll_nil h
    exact trodAll_mk0
  | t :: ts, vs, ds, p, ht, hp, h => by
    obtain ⟨v0, vs0, d0, ds0, p0, q0, rfl, rfl, rfl, h0, r0⟩ := trodAll_cons h
    exact trodAll_cons_mk (Below.trod laidOut (ht t (by simp)).1 (ht t (by simp)).2 h0 hb (fun x hx => hp x (by simp [hx])))
      (trodAll_stays hb ts vs0 ds0 q0 (fun t h => ht t (by simp [h])) (fun x hx => hp x (by simp [hx])) r0)

theorem law_fin {H : Type} {enc : TypeId × Value → H} {f : Func} {s : ChangeSpec} {W W' : World} {args : Array Value} {ds gs : List (DataW H)} {before : List MemPlace}
    (hp : ∀ t ∈ f.params.toList, Try.prog.readableRec t = true ∧ t < Try.prog.types.size) (hvars : s.vars = []) (hrt : f.resultTypes = #[4])
    (hres : (s.fn H (ds ++ gs)).results = [.lit (.bool true)]) (hargs : (s.fn H (ds ++ gs)).args = ds) (hv : (s.fn H (ds ++ gs)).vars = [])
    (hW : DataW.Whole enc Try.prog f.params.toList s.vars false W args.toList ds gs before) (hM : Mine.Mod (fun _ => False) W W') :
    s.post enc Try.prog f false true false false W args (.bool true) W' := by
  have hlt := fun x hx => hW.lt x hx
  have hW' := hW
  obtain ⟨p, q, hA, hV, rfl, _, _⟩ := hW
  rw [hvars] at hV
  obtain ⟨rfl, rfl⟩ := trodVars_none hV
  refine ⟨_, _, _, [] ++ [], p, [], hW', ?_, ?_, ?_, hM.below.frame _, fun h => by cases h⟩
  · rw [hres, hrt]
    exact trodAll_cons_mk (shut_bool (by kernel_rfl) true) trodAll_mk0
  · rw [hargs]
    exact trodAll_stays hM.below _ _ _ _ hp (fun x hx => by simpa using hlt x (by simp [hx])) hA
  · rw [hv, hvars]; rfl

theorem Rd.ofAdd {w : World} {a : Addr} {xs : List Value} (h : ∀ i u, xs[i]? = some u → w.cell? (a.add i) = some u) : Rd w (some a) xs := by
  intro i u hi
  have hs : a.spot = none := by
    cases xs with
    | nil => simp at hi
    | cons x xs =>
      have h0 := h 0 x rfl
      have e : a.add 0 = a := by simp [Addr.add]
      rw [e] at h0
      unfold World.cell? at h0
      split at h0
      · split at h0
        · cases h0
        · rename_i hh; simpa using hh
      · cases h0
  obtain ⟨b, o, s⟩ := a
  simp only at hs
  subst hs
  have e : (⟨b, o, none⟩ : Addr).add i = ⟨b, o + i, none⟩ := by unfold Addr.add; split <;> simp_all
  have := h i u hi
  rw [e] at this
  exact ⟨b, o, rfl, this⟩
theorem Rd.ofStrs {w : World} {a : Addr} {ss : List ByteArray} {n : Nat} (hcell : ∀ i, i < ss.length → w.cell? (a.add i) = some (.string (ss.getD i ByteArray.empty))) : Rd w (some a) (sts (ss.take n)) := by
  have h : Rd w (some a) (sts ss) := Rd.ofAdd fun i u hi => by
    simp only [sts, List.getElem?_map] at hi
    cases hs : ss[i]? with
    | none => rw [hs] at hi; simp at hi
    | some s =>
      rw [hs] at hi; simp at hi; subst hi
      have hlt : i < ss.length := (List.getElem?_eq_some_iff.1 hs).1
      rw [hcell i hlt]
      simp [List.getD, hs]
  have := h.take n
  simpa [sts, List.map_take] using this

/-- bulks -/
theorem bulk_strs {H : Type} (ss : List ByteArray) : ss.length ≤ Rows.uptoBulkAll (strs (H := H) ss) ∧ ∀ s ∈ ss, s.size ≤ Rows.uptoBulkAll (strs (H := H) ss) := by
  induction ss with
  | nil => simp
  | cons s ss ih =>
    have e : Rows.uptoBulkAll (strs (H := H) (s :: ss)) = s.size + 1 + Rows.uptoBulkAll (strs (H := H) ss) := by
      simp only [strs, List.map_cons, Rows.uptoBulkAll, Rows.uptoBulk]
      rw [Lib.size_eq]
    rw [e]
    refine ⟨by simp; omega, fun x hx => ?_⟩
    rcases List.mem_cons.1 hx with rfl | hx
    · omega
    · have := ih.2 x hx; omega
theorem bulk_bound {H : Type} {l : List (DataW H)} (hk : Rows.uptoSmall H l = true) : Rows.uptoBulkAll l ≤ 1048576 := of_decide_eq_true hk
end Go.Proofs.Ytcmgeiohcgngeaa
