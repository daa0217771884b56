/-
  Terms, atoms, literals, rules as they lie in memory.
-/
import Derived.Test.YtphgglnkdfndiaaDoorBase
namespace Go.Mine
open Go Go.RowKit

/-- cells of so many things, each of k -/
theorem flat_get {α : Type} {f : α → List Value} {k : Nat} (hf : ∀ x, (f x).length = k) : ∀ {xs : List α} {i : Nat} {x : α} {j : Nat}, xs[i]? = some x → j < k → (xs.flatMap f)[i * k + j]? = (f x)[j]?
  | [], i, x, j, h, _ => by simp at h
  | y :: xs, 0, x, j, h, hj => by
    simp at h; subst h
    rw [List.flatMap_cons, Nat.zero_mul, Nat.zero_add, List.getElem?_append_left (by rw [hf]; exact hj)]
  | y :: xs, i + 1, x, j, h, hj => by
    rw [List.flatMap_cons, List.getElem?_append_right (by rw [hf, Nat.add_mul]; omega), hf, show (i + 1) * k + j - k = i * k + j by rw [Nat.add_mul]; omega]
    exact flat_get hf (by simpa using h) hj
theorem flat_len {α : Type} {f : α → List Value} {k : Nat} (hf : ∀ x, (f x).length = k) : ∀ (xs : List α), (xs.flatMap f).length = xs.length * k
  | [] => by simp
  | x :: xs => by rw [List.flatMap_cons, List.length_append, hf, flat_len hf xs, List.length_cons, Nat.add_mul]; omega

structure Tm where
  kind : Int
  text : ByteArray
structure Am where
  pred : ByteArray
  terms : List Tm
structure Lm where
  kind : Int
  atom : Am
  op : Int
  left : Tm
  right : Tm
structure Rm where
  head : Am
  body : List Lm

def tmV (t : Tm) : Value := .agg #[.int .i64 t.kind, .string t.text]
def tmC (t : Tm) : List Value := [.int .i64 t.kind, .string t.text]
def tmsC (ts : List Tm) : List Value := ts.flatMap tmC
@[simp] theorem tmC_length (t : Tm) : (tmC t).length = 2 := rfl
@[simp] theorem tmsC_length (ts : List Tm) : (tmsC ts).length = ts.length * 2 := flat_len tmC_length ts
theorem tmsC_append (l m : List Tm) : tmsC (l ++ m) = tmsC l ++ tmsC m := by simp [tmsC]
theorem tmsC_get {ts : List Tm} {i : Nat} {t : Tm} (h : ts[i]? = some t) : (tmsC ts)[i * 2]? = some (.int .i64 t.kind) ∧ (tmsC ts)[i * 2 + 1]? = some (.string t.text) :=
  ⟨flat_get (j := 0) tmC_length h (by omega), flat_get (j := 1) tmC_length h (by omega)⟩
theorem tmsC_one (ts : List Tm) : ∀ u ∈ tmsC ts, u.oneCell' = true := by
  intro u hu
  simp only [tmsC, List.mem_flatMap, tmC] at hu
  obtain ⟨t, _, h⟩ := hu
  simp at h
  rcases h with rfl | rfl <;> rfl

/-- a slice that reads as terms -/
def TsAt (w : World) (v : Value) (ts : List Tm) : Prop := ∃ a c, v = .slice a ts.length c ∧ Rd w a (tmsC ts)
theorem TsAt.mod0 {w w' : World} {v : Value} {ts : List Tm} (h : TsAt w v ts) (m : Mod (fun _ => False) w w') : TsAt w' v ts := by
  obtain ⟨a, c, e, hr⟩ := h
  exact ⟨a, c, e, hr.mod m (fun _ _ => id)⟩
theorem TsAt.nil (w : World) : TsAt w (.slice none 0 0) [] := ⟨none, 0, rfl, Rd.nil _ _⟩
theorem rd_cell2 {w : World} {a : Option Addr} {ts : List Tm} (h : Rd w a (tmsC ts)) {i : Nat} (hi : i < ts.length) :
    ∃ b o, a = some ⟨b, o, none⟩ ∧ w.cell? ⟨b, o + i * 2, none⟩ = some (.int .i64 ts[i].kind) ∧ w.cell? ⟨b, o + i * 2 + 1, none⟩ = some (.string ts[i].text) := by
  obtain ⟨h1, h2⟩ := tmsC_get (List.getElem?_eq_getElem hi)
  obtain ⟨b, o, e, q1⟩ := h _ _ h1
  obtain ⟨b', o', e', q2⟩ := h _ _ h2
  rw [e] at e'
  cases e'
  exact ⟨b, o, e, q1, by rw [Nat.add_assoc]; exact q2⟩

def lmV (l : Lm) (s : Value) : Value := .agg #[.int .i64 l.kind, .string l.atom.pred, s, .int .i64 l.op, .int .i64 l.left.kind, .string l.left.text, .int .i64 l.right.kind, .string l.right.text]
def lmC (l : Lm × Value) : List Value := [.int .i64 l.1.kind, .string l.1.atom.pred, l.2, .int .i64 l.1.op, .int .i64 l.1.left.kind, .string l.1.left.text, .int .i64 l.1.right.kind, .string l.1.right.text]
def lmsC (xs : List (Lm × Value)) : List Value := xs.flatMap lmC
@[simp] theorem lmC_length (l : Lm × Value) : (lmC l).length = 8 := rfl
@[simp] theorem lmsC_length (xs : List (Lm × Value)) : (lmsC xs).length = xs.length * 8 := flat_len lmC_length xs
theorem lmsC_append (l m : List (Lm × Value)) : lmsC (l ++ m) = lmsC l ++ lmsC m := by simp [lmsC]
/-- a slice that reads as literals -/
def LsAt (w : World) (v : Value) (ls : List Lm) : Prop :=
  ∃ a c xs, v = .slice a ls.length c ∧ xs.map Prod.fst = ls ∧ Rd w a (lmsC xs) ∧ ∀ x ∈ xs, TsAt w x.2 x.1.atom.terms
theorem LsAt.mod0 {w w' : World} {v : Value} {ls : List Lm} (h : LsAt w v ls) (m : Mod (fun _ => False) w w') : LsAt w' v ls := by
  obtain ⟨a, c, xs, e, hx, hr, ht⟩ := h
  exact ⟨a, c, xs, e, hx, hr.mod m (fun _ _ => id), fun x hx => (ht x hx).mod0 m⟩
theorem LsAt.nil (w : World) : LsAt w (.slice none 0 0) [] := ⟨none, 0, [], rfl, rfl, Rd.nil _ _, fun _ h => by cases h⟩
theorem rd_cell8 {w : World} {a : Option Addr} {xs : List (Lm × Value)} (h : Rd w a (lmsC xs)) {i : Nat} {l : Lm} {s : Value} (hi : xs[i]? = some (l, s)) :
    ∃ b o, a = some ⟨b, o, none⟩ ∧ w.cell? ⟨b, o + i * 8, none⟩ = some (.int .i64 l.kind) ∧ w.cell? ⟨b, o + i * 8 + 1, none⟩ = some (.string l.atom.pred) ∧ w.cell? ⟨b, o + i * 8 + 2, none⟩ = some s ∧
      w.cell? ⟨b, o + i * 8 + 3, none⟩ = some (.int .i64 l.op) ∧ w.cell? ⟨b, o + i * 8 + 4, none⟩ = some (.int .i64 l.left.kind) ∧ w.cell? ⟨b, o + i * 8 + 5, none⟩ = some (.string l.left.text) ∧
      w.cell? ⟨b, o + i * 8 + 6, none⟩ = some (.int .i64 l.right.kind) ∧ w.cell? ⟨b, o + i * 8 + 7, none⟩ = some (.string l.right.text) := by
  have g : ∀ j u, j < 8 → (lmC (l, s))[j]? = some u → ∃ b o, a = some ⟨b, o, none⟩ ∧ w.cell? ⟨b, o + i * 8 + j, none⟩ = some u := fun j u hj hu => by
    obtain ⟨b, o, e, q⟩ := h (i * 8 + j) u (by rw [show lmsC xs = xs.flatMap lmC from rfl, flat_get lmC_length hi hj]; exact hu)
    exact ⟨b, o, e, by rw [Nat.add_assoc]; exact q⟩
  obtain ⟨b, o, rfl, q0⟩ := g 0 _ (by omega) rfl
  refine ⟨b, o, rfl, q0, ?_, ?_, ?_, ?_, ?_, ?_, ?_⟩
  · obtain ⟨_, _, e, q⟩ := g 1 _ (by omega) rfl; cases e; exact q
  · obtain ⟨_, _, e, q⟩ := g 2 _ (by omega) rfl; cases e; exact q
  · obtain ⟨_, _, e, q⟩ := g 3 _ (by omega) rfl; cases e; exact q
  · obtain ⟨_, _, e, q⟩ := g 4 _ (by omega) rfl; cases e; exact q
  · obtain ⟨_, _, e, q⟩ := g 5 _ (by omega) rfl; cases e; exact q
  · obtain ⟨_, _, e, q⟩ := g 6 _ (by omega) rfl; cases e; exact q
  · obtain ⟨_, _, e, q⟩ := g 7 _ (by omega) rfl; cases e; exact q
/-- the i-th of literals -/
theorem xs_get {α β : Type} {xs : List (α × β)} {ls : List α} (h : xs.map Prod.fst = ls) {i : Nat} (hi : i < ls.length) : ∃ s, xs[i]? = some (ls[i], s) ∧ (ls[i], s) ∈ xs := by
  subst h
  have hi' : i < xs.length := by simpa using hi
  refine ⟨xs[i].2, ?_, ?_⟩
  · rw [List.getElem?_eq_getElem hi']; simp
  · have h2 := List.getElem_mem hi'
    rw [List.getElem_map]
    exact h2

def rmV (r : Rm) (s b : Value) : Value := .agg #[.string r.head.pred, s, b]
def rmC (r : Rm × Value × Value) : List Value := [.string r.1.head.pred, r.2.1, r.2.2]
def rmsC (xs : List (Rm × Value × Value)) : List Value := xs.flatMap rmC
@[simp] theorem rmC_length (r : Rm × Value × Value) : (rmC r).length = 3 := rfl
@[simp] theorem rmsC_length (xs : List (Rm × Value × Value)) : (rmsC xs).length = xs.length * 3 := flat_len rmC_length xs
theorem rmsC_append (l m : List (Rm × Value × Value)) : rmsC (l ++ m) = rmsC l ++ rmsC m := by simp [rmsC]
/-- a slice that reads as rules -/
def RsAt (w : World) (v : Value) (rs : List Rm) : Prop :=
  ∃ a c xs, v = .slice a rs.length c ∧ xs.map Prod.fst = rs ∧ Rd w a (rmsC xs) ∧ ∀ x ∈ xs, TsAt w x.2.1 x.1.head.terms ∧ LsAt w x.2.2 x.1.body
theorem RsAt.mod0 {w w' : World} {v : Value} {rs : List Rm} (h : RsAt w v rs) (m : Mod (fun _ => False) w w') : RsAt w' v rs := by
  obtain ⟨a, c, xs, e, hx, hr, ht⟩ := h
  exact ⟨a, c, xs, e, hx, hr.mod m (fun _ _ => id), fun x hx => ⟨(ht x hx).1.mod0 m, (ht x hx).2.mod0 m⟩⟩
theorem rd_cellR {w : World} {a : Option Addr} {xs : List (Rm × Value × Value)} (h : Rd w a (rmsC xs)) {i : Nat} {r : Rm} {s t : Value} (hi : xs[i]? = some (r, s, t)) :
    ∃ b o, a = some ⟨b, o, none⟩ ∧ w.cell? ⟨b, o + i * 3, none⟩ = some (.string r.head.pred) ∧ w.cell? ⟨b, o + i * 3 + 1, none⟩ = some s ∧ w.cell? ⟨b, o + i * 3 + 2, none⟩ = some t := by
  have g : ∀ j u, j < 3 → (rmC (r, s, t))[j]? = some u → ∃ b o, a = some ⟨b, o, none⟩ ∧ w.cell? ⟨b, o + i * 3 + j, none⟩ = some u := fun j u hj hu => by
    obtain ⟨b, o, e, q⟩ := h (i * 3 + j) u (by rw [show rmsC xs = xs.flatMap rmC from rfl, flat_get rmC_length hi hj]; exact hu)
    exact ⟨b, o, e, by rw [Nat.add_assoc]; exact q⟩
  obtain ⟨b, o, rfl, q0⟩ := g 0 _ (by omega) rfl
  refine ⟨b, o, rfl, q0, ?_, ?_⟩
  · obtain ⟨_, _, e, q⟩ := g 1 _ (by omega) rfl; cases e; exact q
  · obtain ⟨_, _, e, q⟩ := g 2 _ (by omega) rfl; cases e; exact q
end Go.Mine
