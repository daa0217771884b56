/-
  The map of names that a renamer keeps; strconv.Itoa.
-/
import Derived.Test.YtgplagdehfhffaaDoorLayI
import Derived.Test.YtgplagdehfhffaaDoorNormG
import Derived.Maps.StringElems
import Derived.Maps.Views
namespace Go.Proofs.YtgplagdehfhffaaDoor
open Go Go.RowKit Go.Mine Go.Maps
set_option linter.unusedVariables false
set_option maxRecDepth 100000

/-- the library's table of powers -/
def Pow (w : World) : Prop := Lib.TabIs Tryd.prog w "internal/strconv.uint64pow10" .u64 Lib.pow10Tab
theorem Pow.mod {S : Nat → Prop} {w w' : World} (h : Pow w) (m : Mod S w w') (hs : ¬ S 3) : Pow w' := by
  unfold Pow Lib.TabIs World.var? at *
  have hg : Tryd.prog.globalNamed "internal/strconv.uint64pow10" = some 3 := by kernel_rfl
  rw [hg] at h ⊢
  simp only [Option.bind_some] at h ⊢
  have hlt : 3 < w.heap.size := by
    rcases Nat.lt_or_ge 3 w.heap.size with h3 | h3
    · exact h3
    · rw [Array.getElem?_eq_none h3] at h; cases h
  rw [m.block 3 hlt hs]; exact h
theorem Pow.mod0 {w w' : World} (h : Pow w) (m : Mod (fun _ => False) w w') : Pow w' := h.mod m id
theorem Pow.lt {w : World} (h : Pow w) : 3 < w.heap.size := by
  unfold Pow Lib.TabIs World.var? at h
  have hg : Tryd.prog.globalNamed "internal/strconv.uint64pow10" = some 3 := by kernel_rfl
  rw [hg] at h
  simp only [Option.bind_some] at h
  rcases Nat.lt_or_ge 3 w.heap.size with h3 | h3
  · exact h3
  · rw [Array.getElem?_eq_none h3] at h; cases h
theorem itoa_any (n : Nat) (w : World) (hn : n < 2 ^ 40) (hp : Pow w) :
    Calls Tryd.prog 135 #[.int .i64 n] w fun e w' => e = .returned (.string ⟨(Lib.decDigits n).toArray⟩) ∧ Mod (fun _ => False) w w' := by
  have h := Any.strconv_Itoa lays171 (n : Int) (by omega) (by omega) w hp
  have e : Lib.itoa (n : Int) = Lib.decDigits n := by
    unfold Lib.itoa
    rw [if_neg (by omega)]
    rfl
  rw [e] at h
  refine h.mono ?_
  rintro e w' ⟨h1, k, os, rfl⟩
  exact ⟨h1, rfl, rfl, rfl, by simp [Sort.grow], fun i hi _ => by
    show (w.heap ++ os)[i]? = _
    rw [Array.getElem?_append_left hi]⟩

theorem lawS : Keyed Tryd.prog 9 := string_keyed Tryd.underlying9
/-- the new name of a text, as bytes: none yet -/
def nmV (ns : List ByteArray) (x : ByteArray) : List UInt8 := if place x ns < ns.length then (vN (place x ns + 1)).data.toList else []
/-- the map in block B holds the names so far -/
def MapIs (w : World) (B : Nat) (ns : List ByteArray) : Prop :=
  ∃ D : DataW Unit, w.ownsMap Tryd.prog 9 (plainElem Tryd.prog 9) B ns.length D ∧ (∀ x : ByteArray, D.atKey (.string x.data.toList) (.lit (.string [])) = .lit (.string (nmV ns x))) ∧ size D = ns.length ∧ ∀ x : ByteArray, has D (.string x.data.toList) = decide (place x ns < ns.length)
theorem MapIs.made (w : World) : MapIs (w.alloc (.map #[] 0)) w.heap.size [] :=
  ⟨.map [], World.ownsMap_made _ _ _ _, fun x => by
    unfold nmV
    rw [if_neg (by simp [place])]
    exact WideAt.atKey_none _ (fun p h => by cases h), rfl, fun x => by simp [has, place]⟩
theorem MapIs.mod {S : Nat → Prop} {w w' : World} {B : Nat} {ns : List ByteArray} (h : MapIs w B ns) (m : Mod S w w') (hs : ¬ S B) : MapIs w' B ns := by
  obtain ⟨D, ho, h2, h3, h4⟩ := h
  refine ⟨D, ?_, h2, h3, h4⟩
  obtain ⟨es, clock, hb, rest⟩ := ho
  exact ⟨es, clock, m.at hb hs, rest⟩
theorem MapIs.lt {w : World} {B : Nat} {ns : List ByteArray} (h : MapIs w B ns) : B < w.heap.size := by
  obtain ⟨D, ho, _⟩ := h
  exact ho.lt
theorem MapIs.len {w : World} {B : Nat} {ns : List ByteArray} (h : MapIs w B ns) (ty : TypeId) : (Builtin.len_ #[134] ty #[.map (some B)]).run Tryd.prog w = .ok (.int .i64 ns.length) w := by
  obtain ⟨D, ho, _, h3, _⟩ := h
  rw [← h3]
  exact ho.len (k := 9) (e := 9) (by kernel_rfl) ty
theorem MapIs.look {w : World} {B : Nat} {ns : List ByteArray} (h : MapIs w B ns) (x : ByteArray) (hx : x.size ≤ maxLen) : (Instr.lookup 134 (.map (some B)) (.string x) false).run Tryd.prog w = .ok (.string ⟨(nmV ns x).toArray⟩) w := by
  obtain ⟨D, ho, h2, _, _⟩ := h
  have hz : (zeroValue 9).run Tryd.prog w = .ok (.string ByteArray.empty) w := by kernel_rfl
  obtain ⟨v, ps, hrun, hv⟩ := ho.lookup (e := 9) lawS (t := 134) (by kernel_rfl) hz (plainElem_string Tryd.underlying9 (by show 0 ≤ maxLen; exact Nat.zero_le _)) (WideMaps.keyOf_string_mk Tryd.underlying9 hx)
  obtain ⟨s, rfl, hc, _⟩ := plainElem_string_inv Tryd.underlying9 hv
  have e0 : ByteArray.empty.data.toList = [] := rfl
  rw [e0, h2 x] at hc
  simp only [Prod.mk.injEq, DataW.lit.injEq, Lit.string.injEq] at hc
  rw [hrun]
  congr 2
  apply ByteArray.ext
  apply Array.ext'
  simp [hc.1]
theorem MapIs.put {w : World} {B : Nat} {ns : List ByteArray} (h : MapIs w B ns) (x : ByteArray) (hx : x.size ≤ maxLen) (hn : ns.length < maxLen) (hnew : ¬ place x ns < ns.length) (hv : (vN (ns.length + 1)).size ≤ maxLen) :
    ∃ w', (Instr.mapUpdate 134 (.map (some B)) (.string x) (.string (vN (ns.length + 1)))).run Tryd.prog w = .ok () w' ∧ MapIs w' B (ns ++ [x]) ∧ Mod (fun b => b = B) w w' := by
  obtain ⟨D, ho, h2, h3, h4⟩ := h
  obtain ⟨w', hrun, ho', hg⟩ := ho.update (e := 9) lawS (t := 134) (by kernel_rfl) hn (WideMaps.keyOf_string_mk Tryd.underlying9 hx) (plainElem_string Tryd.underlying9 hv)
  have hpl : place x ns = ns.length := by
    by_cases hm : x ∈ ns
    · exact absurd (place_lt hm) hnew
    · exact place_out hm
  have hxn : x ∉ ns := fun hm => hnew (place_lt hm)
  have hkey : WideAt.IsKeyLit (.string x.data.toList) := lawS.key (WideMaps.keyOf_string_mk Tryd.underlying9 hx)
  have hinj : ∀ y : ByteArray, y ≠ x → (Lit.string y.data.toList) ≠ .string x.data.toList := fun y hne e => hne (by
    simp only [Lit.string.injEq] at e
    exact ByteArray.ext (Array.ext' e))
  have hplace : ∀ y, y ≠ x → (place y (ns ++ [x]) < (ns ++ [x]).length ↔ place y ns < ns.length) ∧ (place y ns < ns.length → place y (ns ++ [x]) = place y ns) := fun y hne => by
    by_cases hm : y ∈ ns
    · have h1 := place_lt hm
      rw [place_app hm]
      exact ⟨by simp; omega, fun _ => rfl⟩
    · have h1 : y ∉ ns ++ [x] := by simp [hm, hne]
      rw [place_out h1, place_out hm]
      exact ⟨by simp, fun h => by omega⟩
  refine ⟨w', hrun, ⟨_, by rw [List.length_append]; exact ho', fun y => ?_, ?_, fun y => ?_⟩, ⟨hg.os, hg.tape, hg.output, hg.size, fun k hk hs => hg.block k hk (fun e => hs (by cases e; rfl))⟩⟩
  · by_cases hy : y = x
    · subst hy
      rw [atKey_put_same ho.isMap hkey]
      unfold nmV
      rw [place_new hxn, if_pos (by simp)]
    · rw [atKey_put_other (hinj y hy), h2 y]
      unfold nmV
      by_cases hl : place y ns < ns.length
      · rw [if_pos hl, if_pos ((hplace y hy).1.2 hl), (hplace y hy).2 hl]
      · rw [if_neg hl, if_neg (fun h => hl ((hplace y hy).1.1 h))]
  · rw [size_put (ho.tidy lawS), h4 x, decide_eq_false hnew]
    simp [h3]
  · by_cases hy : y = x
    · subst hy
      rw [has_put_same ho.isMap hkey, place_new hxn]
      simp
    · rw [has_put_other (hinj y hy), h4 y]
      rw [decide_eq_decide]
      exact (hplace y hy).1.symm
end Go.Proofs.YtgplagdehfhffaaDoor
