/-
  A table of texts as it lies: its list, and the map of their numbers; the document's.
-/
import Derived.Test.YtcmgeiohcgngeaaFam
import Derived.Test.YtcmgeiohcgngeaaOrd
import Derived.Test.YtcmgeiohcgngeaaPage
import Derived.Maps.OwnSet
import Derived.Maps.StringElems
namespace Go.Proofs.Ytcmgeiohcgngeaa
open Go Go.RowKit Go.Mine Go.Maps
set_option linter.unusedVariables false
set_option maxHeartbeats 4000000
set_option maxRecDepth 100000

theorem lawKs : Keyed Try.prog 9 := string_keyed Try.underlying9
/-- a text's place -/
def plc : List ByteArray → ByteArray → Option Nat
  | [], _ => none
  | x :: l, y => if x = y then some 0 else (plc l y).map (· + 1)
theorem plc_snoc : ∀ (l : List ByteArray) (x y : ByteArray), plc (l ++ [x]) y = match plc l y with | some n => some n | none => if x = y then some l.length else none
  | [], x, y => by
    show (if x = y then some 0 else none) = _
    rfl
  | z :: l, x, y => by
    show (if z = y then some 0 else (plc (l ++ [x]) y).map (· + 1)) = _
    rw [plc_snoc l x y]
    have e : plc (z :: l) y = if z = y then some 0 else (plc l y).map (· + 1) := rfl
    rw [e]
    by_cases h : z = y
    · rw [if_pos h, if_pos h]
    · rw [if_neg h, if_neg h]
      cases plc l y with
      | some n => rfl
      | none =>
        by_cases h2 : x = y
        · rw [if_pos h2, if_pos h2]; rfl
        · rw [if_neg h2, if_neg h2]; rfl
theorem plc_mem : ∀ {l : List ByteArray} {y : ByteArray}, (plc l y).isSome = true ↔ y ∈ l
  | [], y => by simp [plc]
  | x :: l, y => by
    have ih := plc_mem (l := l) (y := y)
    unfold plc
    by_cases h : x = y
    · rw [if_pos h]; simp [h]
    · rw [if_neg h, Option.isSome_map, ih, List.mem_cons]
      constructor
      · exact .inr
      · rintro (e | e)
        · exact absurd e.symm h
        · exact e
theorem plc_get : ∀ {l : List ByteArray} {y : ByteArray} {n : Nat}, plc l y = some n → l[n]? = some y
  | [], y, n, h => by cases h
  | x :: l, y, n, h => by
    unfold plc at h
    by_cases h2 : x = y
    · rw [if_pos h2] at h; cases h; rw [h2]; rfl
    · rw [if_neg h2] at h
      cases hp : plc l y with
      | none => rw [hp] at h; cases h
      | some k =>
        rw [hp] at h
        cases h
        exact plc_get (l := l) hp
theorem plc_lt {l : List ByteArray} {y : ByteArray} {n : Nat} (h : plc l y = some n) : n < l.length := (List.getElem?_eq_some_iff.1 (plc_get h)).1
/-- the number that a text gets, and the texts then -/
def numT (l : List ByteArray) (x : ByteArray) : Nat := (plc l x).getD l.length
def addT (l : List ByteArray) (x : ByteArray) : List ByteArray := if (plc l x).isSome = true then l else l ++ [x]
def putT : List ByteArray → List ByteArray → List Nat × List ByteArray
  | l, [] => ([], l)
  | l, x :: xs => (numT l x :: (putT (addT l x) xs).1, (putT (addT l x) xs).2)
theorem putT_snoc : ∀ (l xs : List ByteArray) (x : ByteArray), putT l (xs ++ [x]) = ((putT l xs).1 ++ [numT (putT l xs).2 x], addT (putT l xs).2 x)
  | l, [], x => rfl
  | l, y :: xs, x => by
    show (numT l y :: (putT (addT l y) (xs ++ [x])).1, (putT (addT l y) (xs ++ [x])).2) = _
    rw [putT_snoc (addT l y) xs x]
    rfl
theorem putT_len : ∀ (l xs : List ByteArray), (putT l xs).1.length = xs.length
  | l, [] => rfl
  | l, x :: xs => by
    show (putT (addT l x) xs).1.length + 1 = _
    rw [putT_len (addT l x) xs]; rfl
theorem addT_nodup {l : List ByteArray} (h : l.Nodup) (x : ByteArray) : (addT l x).Nodup := by
  unfold addT
  split
  · exact h
  · rename_i hn
    rw [List.nodup_append]
    refine ⟨h, by simp, fun a ha b hb => ?_⟩
    rw [List.mem_singleton] at hb
    subst hb
    intro e; subst e
    exact hn (plc_mem.2 ha)
theorem addT_mem {l : List ByteArray} {x y : ByteArray} : y ∈ addT l x ↔ y ∈ l ∨ y = x := by
  unfold addT
  split
  · rename_i h
    have := plc_mem.1 h
    constructor
    · exact .inl
    · rintro (e | rfl)
      · exact e
      · exact this
  · rw [List.mem_append, List.mem_singleton]
theorem addT_le (l : List ByteArray) (x : ByteArray) : l.length ≤ (addT l x).length ∧ (addT l x).length ≤ l.length + 1 := by
  unfold addT
  split
  · omega
  · rw [List.length_append]; simp
theorem addT_pre (l : List ByteArray) (x : ByteArray) : l <+: addT l x := by
  unfold addT
  split
  · exact List.prefix_refl _
  · exact List.prefix_append _ _
theorem putT_nodup : ∀ {xs l : List ByteArray}, l.Nodup → (putT l xs).2.Nodup
  | [], l, h => h
  | x :: xs, l, h => putT_nodup (xs := xs) (addT_nodup h x)
theorem putT_le : ∀ (l xs : List ByteArray), l.length ≤ (putT l xs).2.length ∧ (putT l xs).2.length ≤ l.length + xs.length
  | l, [] => ⟨Nat.le_refl _, Nat.le_refl _⟩
  | l, x :: xs => by
    have h1 := putT_le (addT l x) xs
    have h2 := addT_le l x
    show l.length ≤ (putT (addT l x) xs).2.length ∧ (putT (addT l x) xs).2.length ≤ l.length + (xs.length + 1)
    omega
theorem putT_pre : ∀ (l xs : List ByteArray), l <+: (putT l xs).2
  | l, [] => List.prefix_refl _
  | l, x :: xs => (addT_pre l x).trans (putT_pre (addT l x) xs)
theorem putT_mem : ∀ {l xs : List ByteArray} {y : ByteArray}, y ∈ (putT l xs).2 ↔ y ∈ l ∨ y ∈ xs
  | l, [], y => by simp [putT]
  | l, x :: xs, y => by
    show y ∈ (putT (addT l x) xs).2 ↔ _
    rw [putT_mem, addT_mem, List.mem_cons, or_assoc]
/-- put again, they change nothing -/
theorem putT_all : ∀ {l xs : List ByteArray}, (∀ x ∈ xs, x ∈ l) → (putT l xs).2 = l
  | l, [], _ => rfl
  | l, x :: xs, h => by
    have e : addT l x = l := by unfold addT; rw [if_pos (plc_mem.2 (h x (List.mem_cons_self ..)))]
    show (putT (addT l x) xs).2 = l
    rw [e]
    exact putT_all fun y hy => h y (List.mem_cons_of_mem _ hy)
theorem putT_twice (l xs : List ByteArray) : (putT (putT l xs).2 xs).2 = (putT l xs).2 := putT_all fun x hx => putT_mem.2 (.inr hx)
/-- the first text that is too long -/
def longT (xs : List ByteArray) : Bool := xs.any fun x => decide (4096 < x.size)
theorem longT_false {xs : List ByteArray} (h : longT xs = false) : ∀ x ∈ xs, x.size ≤ 4096 := fun x hx => by
  unfold longT at h
  rw [List.any_eq_false] at h
  have := h x hx
  simpa using this
/-- texts of a table: no two alike, none too long -/
structure OkT (l : List ByteArray) : Prop where
  nd : l.Nodup
  sm : ∀ x ∈ l, x.size ≤ 4096
theorem OkT.put {l xs : List ByteArray} (h : OkT l) (hx : longT xs = false) : OkT (putT l xs).2 :=
  ⟨putT_nodup h.nd, fun x hxm => (putT_mem.1 hxm).elim (h.sm x) (longT_false hx x)⟩

/-- the map in block B holds their numbers -/
def TMap (w : World) (B : Nat) (l : List ByteArray) : Prop :=
  ∃ D : DataW Unit, w.ownsMap Try.prog 9 (plainElem Try.prog 3) B l.length D ∧ (∀ x : ByteArray, D.atKey (.string x.data.toList) (.lit (.int .i64 0)) = .lit (.int .i64 (((plc l x).getD 0 : Nat) : Int))) ∧ size D = l.length ∧ ∀ x : ByteArray, has D (.string x.data.toList) = (plc l x).isSome
theorem TMap.made (w : World) : TMap (w.alloc (.map #[] 0)) w.heap.size [] :=
  ⟨.map [], World.ownsMap_made _ _ _ _, fun x => WideAt.atKey_none _ (fun p h => by cases h), rfl, fun x => rfl⟩
theorem TMap.mod {S : Nat → Prop} {w w' : World} {B : Nat} {l : List ByteArray} (h : TMap w B l) (m : Mod S w w') (hs : ¬ S B) : TMap w' B l := by
  obtain ⟨D, ho, h2, h3, h4⟩ := h
  refine ⟨D, ?_, h2, h3, h4⟩
  obtain ⟨es, clock, hb, rest⟩ := ho
  exact ⟨es, clock, m.at hb hs, rest⟩
theorem TMap.lt {w : World} {B : Nat} {l : List ByteArray} (h : TMap w B l) : B < w.heap.size := by
  obtain ⟨D, ho, _⟩ := h
  exact ho.lt
theorem TMap.look {w : World} {B : Nat} {l : List ByteArray} (h : TMap w B l) (x : ByteArray) (hx : x.size ≤ maxLen) : (Instr.lookup 36 (.map (some B)) (.string x) true).run Try.prog w = .ok (.tuple #[.int .i64 (((plc l x).getD 0 : Nat) : Int), .bool (plc l x).isSome]) w := by
  obtain ⟨D, ho, h2, _, h4⟩ := h
  have hz : (zeroValue 3).run Try.prog w = .ok (.int .i64 0) w := by kernel_rfl
  obtain ⟨v, ps, hrun, hv⟩ := ho.look_ok (e := 3) lawKs (t := 36) (by kernel_rfl) hz (plainElem_int Try.underlying3 (by decide)) (WideMaps.keyOf_string_mk Try.underlying9 hx)
  obtain ⟨c, rfl, hc, _⟩ := plainElem_int_inv Try.underlying3 hv
  rw [h2 x] at hc
  simp only [Prod.mk.injEq, DataW.lit.injEq, Lit.int.injEq] at hc
  rw [hrun, h4 x, hc.1.2]
theorem TMap.put {w : World} {B : Nat} {l : List ByteArray} (h : TMap w B l) (x : ByteArray) (hx : x.size ≤ maxLen) (hn : l.length < 2 ^ 40) (hnew : plc l x = none) :
    ∃ w', (Instr.mapUpdate 36 (.map (some B)) (.string x) (.int .i64 l.length)).run Try.prog w = .ok () w' ∧ TMap w' B (l ++ [x]) ∧ w.grownBy w' (some B) := by
  obtain ⟨D, ho, h2, h3, h4⟩ := h
  have hwf : (Lit.int .i64 (l.length : Int)).wf = true := by
    simp only [Lit.wf, Bool.and_eq_true, decide_eq_true_eq]
    constructor
    · show (-9223372036854775808 : Int) ≤ _; omega
    · show _ ≤ (9223372036854775807 : Int); omega
  obtain ⟨w', hrun, ho', hg⟩ := ho.update (e := 3) lawKs (t := 36) (by kernel_rfl) (by unfold maxLen; omega) (WideMaps.keyOf_string_mk Try.underlying9 hx) (plainElem_int Try.underlying3 hwf)
  have hkey : WideAt.IsKeyLit (.string x.data.toList) := lawKs.key (WideMaps.keyOf_string_mk Try.underlying9 hx)
  have hinj : ∀ y : ByteArray, y ≠ x → (Lit.string y.data.toList) ≠ .string x.data.toList := fun y hne e => hne (by
    simp only [Lit.string.injEq] at e
    exact ByteArray.ext (Array.ext' e))
  refine ⟨w', hrun, ⟨_, by rw [List.length_append]; exact ho', fun y => ?_, ?_, fun y => ?_⟩, hg⟩
  · by_cases hy : y = x
    · subst hy
      rw [atKey_put_same ho.isMap hkey, plc_snoc, hnew]
      simp
    · rw [atKey_put_other (hinj y hy), h2 y, plc_snoc]
      cases plc l y with
      | some n => rfl
      | none => simp only [if_neg (fun e : x = y => hy e.symm)]
  · rw [size_put (ho.tidy lawKs), h4 x, hnew]
    simp [h3]
  · by_cases hy : y = x
    · subst hy
      rw [has_put_same ho.isMap hkey, plc_snoc, hnew]
      simp
    · rw [has_put_other (hinj y hy), h4 y, plc_snoc]
      cases plc l y with
      | some n => rfl
      | none => simp only [if_neg (fun e : x = y => hy e.symm)]
/-- a table -/
structure TbAt (w : World) (T : Nat) (a : Option Addr) (c B : Nat) (l : List ByteArray) : Prop where
  box : w.heap[T]? = some (.cells #[.slice a l.length c, .map (some B)] 38 (0, 0))
  own : Mine.Own w 9 1 a l.length c (sts l)
  map : TMap w B l
  ne : blk a ≠ some T
  neB : blk a ≠ some B
  neT : T ≠ B
/-- the document's -/
structure RbAt (w : World) (M : Nat) (a : Option Addr) (c : Nat) (l : List ByteArray) : Prop where
  box : w.heap[M]? = some (.cells #[.slice a l.length c] 32 (0, 0))
  own : Mine.Own w 9 1 a l.length c (sts l)
  ne : blk a ≠ some M
section
variable {w w' : World} {T B M c : Nat} {a : Option Addr} {l : List ByteArray}
theorem TbAt.mod {S : Nat → Prop} (h : TbAt w T a c B l) (m : Mod S w w') (hT : ¬ S T) (ha : ∀ b, blk a = some b → ¬ S b) (hB : ¬ S B) : TbAt w' T a c B l :=
  ⟨m.at h.box hT, h.own.mod m ha, h.map.mod m hB, h.ne, h.neB, h.neT⟩
theorem TbAt.mod0 (h : TbAt w T a c B l) (m : Mod (fun _ => False) w w') : TbAt w' T a c B l := h.mod m id (fun _ _ => id) id
theorem RbAt.mod {S : Nat → Prop} (h : RbAt w M a c l) (m : Mod S w w') (hM : ¬ S M) (ha : ∀ b, blk a = some b → ¬ S b) : RbAt w' M a c l := ⟨m.at h.box hM, h.own.mod m ha, h.ne⟩
theorem RbAt.mod0 (h : RbAt w M a c l) (m : Mod (fun _ => False) w w') : RbAt w' M a c l := h.mod m id (fun _ _ => id)
theorem TbAt.ltT (h : TbAt w T a c B l) : T < w.heap.size := (Array.getElem?_eq_some_iff.1 h.box).1
theorem RbAt.ltM (h : RbAt w M a c l) : M < w.heap.size := (Array.getElem?_eq_some_iff.1 h.box).1
theorem TbAt.c0 (h : TbAt w T a c B l) : w.cell? ⟨T, 0, none⟩ = some (.slice a l.length c) := cell_at h.box rfl
theorem TbAt.c1 (h : TbAt w T a c B l) : w.cell? ⟨T, 1, none⟩ = some (.map (some B)) := cell_at h.box rfl
theorem RbAt.c0 (h : RbAt w M a c l) : w.cell? ⟨M, 0, none⟩ = some (.slice a l.length c) := cell_at h.box rfl
theorem str_cell {a : Option Addr} {l : List ByteArray} (h : Rd w a (sts l)) {i : Nat} (hi : i < l.length) : ∃ b o, a = some ⟨b, o, none⟩ ∧ w.cell? ⟨b, o + i, none⟩ = some (.string l[i]) := by
  obtain ⟨b, o, e, hc⟩ := h i (.string l[i]) (by unfold sts; rw [List.getElem?_map, List.getElem?_eq_getElem hi]; rfl)
  exact ⟨b, o, e, hc⟩
end
/-- the block of texts that are handed on, if there are any -/
def blkX (a : Option Addr) : List ByteArray → Option Nat
  | [] => none
  | _ :: _ => blk a
theorem rd_modX {S : Nat → Prop} {w w' : World} {a : Option Addr} {xs : List ByteArray} (h : Rd w a (sts xs)) (m : Mod S w w') (hs : ∀ b, blkX a xs = some b → ¬ S b) : Rd w' a (sts xs) := by
  cases xs with
  | nil => exact Rd.nil _ _
  | cons x xs => exact h.mod m hs
theorem rd_ltX {w : World} {a : Option Addr} {xs : List ByteArray} (h : Rd w a (sts xs)) : ∀ b, blkX a xs = some b → b < w.heap.size := by
  cases xs with
  | nil => intro b hb; cases hb
  | cons x xs =>
    intro b hb
    obtain ⟨b', o, rfl, hc⟩ := h 0 (.string x) rfl
    have e : b' = b := by simpa [blkX, blk] using hb
    subst e
    exact World.block_lt_of_cell? w _ hc
end Go.Proofs.Ytcmgeiohcgngeaa
