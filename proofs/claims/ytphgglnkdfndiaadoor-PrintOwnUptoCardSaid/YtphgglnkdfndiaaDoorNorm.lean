/-
  The plain law of normal forms: names as they come, 'V' and a number for each.
-/
import Derived.Test.YtphgglnkdfndiaaDoorMayL
import Derived.Lib.ItoaNum
namespace Go.Proofs.YtphgglnkdfndiaaDoor
open Go Go.RowKit Go.Mine
set_option linter.unusedVariables false

/-- the n-th name -/
def vN (n : Nat) : ByteArray := ⟨(86 :: Lib.decDigits n).toArray⟩
def asIs (k : Int) : Prop := k = 2 ∨ k = 3 ∨ k = 4
instance (k : Int) : Decidable (asIs k) := by unfold asIs; infer_instance
/-- where a name stands -/
def place (x : ByteArray) : List ByteArray → Nat
  | [] => 0
  | y :: l => if y = x then 0 else place x l + 1
theorem place_lt {x : ByteArray} : ∀ {l : List ByteArray}, x ∈ l → place x l < l.length
  | [], h => by cases h
  | y :: l, h => by
    unfold place
    split
    · simp
    · rename_i hne
      have := place_lt (x := x) (l := l) (by rcases List.mem_cons.1 h with e | h; exact absurd e.symm hne; exact h)
      simp; omega
theorem place_get {x : ByteArray} : ∀ {l : List ByteArray}, x ∈ l → l[place x l]? = some x
  | [], h => by cases h
  | y :: l, h => by
    unfold place
    split
    · rename_i e; simp [e]
    · rename_i hne
      simpa using place_get (x := x) (l := l) (by rcases List.mem_cons.1 h with e | h; exact absurd e.symm hne; exact h)
theorem place_before {x : ByteArray} : ∀ {l : List ByteArray} {i : Nat} {y : ByteArray}, i < place x l → l[i]? = some y → y ≠ x
  | [], i, y, h, _ => by simp [place] at h
  | z :: l, 0, y, h, hy => by
    unfold place at h
    split at h
    · omega
    · rename_i hne; simp at hy; subst hy; exact hne
  | z :: l, i + 1, y, h, hy => by
    unfold place at h
    split at h
    · omega
    · exact place_before (x := x) (l := l) (i := i) (by omega) (by simpa using hy)
theorem place_out {x : ByteArray} : ∀ {l : List ByteArray}, x ∉ l → place x l = l.length
  | [], _ => rfl
  | y :: l, h => by
    unfold place
    rw [if_neg (fun e => h (by rw [e]; exact List.mem_cons_self ..)), place_out (fun hm => h (List.mem_cons_of_mem _ hm))]
    rfl
theorem place_app {x : ByteArray} : ∀ {l m : List ByteArray}, x ∈ l → place x (l ++ m) = place x l
  | [], _, h => by cases h
  | y :: l, m, h => by
    show (if y = x then 0 else place x (l ++ m) + 1) = (if y = x then 0 else place x l + 1)
    split
    · rfl
    · rename_i hne
      rw [place_app (l := l) (by rcases List.mem_cons.1 h with e | h; exact absurd e.symm hne; exact h)]
theorem place_new {x : ByteArray} : ∀ {l : List ByteArray}, x ∉ l → place x (l ++ [x]) = l.length
  | [], _ => by simp [place]
  | y :: l, h => by
    show (if y = x then 0 else place x (l ++ [x]) + 1) = _
    rw [if_neg (fun e => h (by rw [e]; exact List.mem_cons_self ..)), place_new (fun hm => h (List.mem_cons_of_mem _ hm))]
    rfl
/-- the names, and this one, if it is new -/
def more (ns : List ByteArray) (x : ByteArray) : List ByteArray := if place x ns < ns.length then ns else ns ++ [x]
theorem place_iff {x : ByteArray} {l : List ByteArray} : place x l < l.length ↔ x ∈ l := by
  refine ⟨fun h => ?_, place_lt⟩
  by_cases hm : x ∈ l
  · exact hm
  · rw [place_out hm] at h; omega
theorem more_mem (ns : List ByteArray) (x : ByteArray) : x ∈ more ns x := by
  unfold more
  split
  · rename_i h; exact place_iff.1 h
  · simp
theorem more_nodup {ns : List ByteArray} (h : ns.Nodup) (x : ByteArray) : (more ns x).Nodup := by
  unfold more
  split
  · exact h
  · rename_i hx
    rw [List.nodup_append]
    exact ⟨h, by simp, fun a ha b hb => by simp at hb; subst hb; exact fun e => hx (place_iff.2 (e ▸ ha))⟩
theorem more_len (ns : List ByteArray) (x : ByteArray) : (more ns x).length ≤ ns.length + 1 := by
  unfold more
  split <;> simp

def nmTm (ns : List ByteArray) (t : Tm) : Tm × List ByteArray :=
  if asIs t.kind then (t, ns) else (⟨t.kind, vN (place t.text (more ns t.text) + 1)⟩, more ns t.text)
def nmTs : List ByteArray → List Tm → List Tm × List ByteArray
  | ns, [] => ([], ns)
  | ns, t :: ts => ((nmTm ns t).1 :: (nmTs (nmTm ns t).2 ts).1, (nmTs (nmTm ns t).2 ts).2)
theorem nmTs_snoc : ∀ (ns : List ByteArray) (ts : List Tm) (t : Tm), nmTs ns (ts ++ [t]) = ((nmTs ns ts).1 ++ [(nmTm (nmTs ns ts).2 t).1], (nmTm (nmTs ns ts).2 t).2)
  | ns, [], t => rfl
  | ns, u :: ts, t => by
    simp only [List.cons_append, nmTs, nmTs_snoc (nmTm ns u).2 ts t]
theorem nmTs_len : ∀ (ns : List ByteArray) (ts : List Tm), (nmTs ns ts).1.length = ts.length
  | _, [] => rfl
  | ns, t :: ts => by show _ + 1 = _ + 1; rw [nmTs_len]
def nmLm (ns : List ByteArray) (l : Lm) : Lm × List ByteArray :=
  if l.kind = 3 then (⟨l.kind, ⟨emptyB, []⟩, l.op, (nmTm ns l.left).1, (nmTm (nmTm ns l.left).2 l.right).1⟩, (nmTm (nmTm ns l.left).2 l.right).2)
  else (⟨l.kind, ⟨l.atom.pred, (nmTs ns l.atom.terms).1⟩, l.op, l.left, l.right⟩, (nmTs ns l.atom.terms).2)
def nmLs : List ByteArray → List Lm → List Lm × List ByteArray
  | ns, [] => ([], ns)
  | ns, l :: ls => ((nmLm ns l).1 :: (nmLs (nmLm ns l).2 ls).1, (nmLs (nmLm ns l).2 ls).2)
theorem nmLs_snoc : ∀ (ns : List ByteArray) (ls : List Lm) (l : Lm), nmLs ns (ls ++ [l]) = ((nmLs ns ls).1 ++ [(nmLm (nmLs ns ls).2 l).1], (nmLm (nmLs ns ls).2 l).2)
  | ns, [], t => rfl
  | ns, u :: ts, t => by
    simp only [List.cons_append, nmLs, nmLs_snoc (nmLm ns u).2 ts t]
def nmRm (r : Rm) : Rm := ⟨⟨r.head.pred, (nmTs [] r.head.terms).1⟩, (nmLs (nmTs [] r.head.terms).2 r.body).1⟩
/-- names stay few, and are no two alike -/
theorem nmTm_names (ns : List ByteArray) (t : Tm) (h : ns.Nodup) : (nmTm ns t).2.Nodup ∧ ns.length ≤ (nmTm ns t).2.length ∧ (nmTm ns t).2.length ≤ ns.length + 1 := by
  unfold nmTm
  split
  · exact ⟨h, Nat.le_refl _, Nat.le_succ _⟩
  · refine ⟨more_nodup h _, ?_, more_len _ _⟩
    show ns.length ≤ (more ns t.text).length
    unfold more; split <;> simp
theorem nmTs_names : ∀ (ns : List ByteArray) (ts : List Tm), ns.Nodup → (nmTs ns ts).2.Nodup ∧ ns.length ≤ (nmTs ns ts).2.length ∧ (nmTs ns ts).2.length ≤ ns.length + ts.length
  | ns, [], h => ⟨h, Nat.le_refl _, Nat.le_refl _⟩
  | ns, t :: ts, h => by
    have h1 := nmTm_names ns t h
    have h2 := nmTs_names _ ts h1.1
    refine ⟨h2.1, ?_, ?_⟩
    · show _ ≤ (nmTs (nmTm ns t).2 ts).2.length; omega
    · show (nmTs (nmTm ns t).2 ts).2.length ≤ _; simp; omega
theorem vN_pos (n : Nat) : vN n ≠ emptyB := by
  intro h
  have := congrArg (fun b : ByteArray => b.data.toList) h
  simp [vN, emptyB] at this
end Go.Proofs.YtphgglnkdfndiaaDoor
