import Derived.Test.YtjoiaejbahdjkaaGreatPut
import Derived.WalkLawsBesides
import Derived.Sort.Walk0
namespace Go.Proofs.YtjoiaejbahdjkaaGreat
open Go Go.RowKit Go.Mine
set_option maxHeartbeats 400000
set_option maxRecDepth 100000
set_option linter.unusedVariables false
def blt (q s : ByteArray) : Bool := Op.bytesLess q.toList s.toList
theorem ble_not (q s : ByteArray) : (Op.bytesLess s.toList q.toList || s.toList == q.toList) = !blt q s := by
 unfold blt
 rw [bytesLess_eq, bytesLess_eq, Bool.eq_iff_iff]
 simp [Std.not_lt, Std.le_iff_lt_or_eq]
def pgErr : Option ByteArray → List ByteArray → Nat
 | _, [] => 0
 | p, s :: r => if 4096 < s.size then 3 else if (match p with | none => false | some q => !blt q s) then 2 else pgErr (some s) r
theorem pgErr_cons (p : Option ByteArray) (s : ByteArray) (r : List ByteArray) : pgErr p (s :: r) = if 4096 < s.size then 3 else if (match p with | none => false | some q => !blt q s) then 2 else pgErr (some s) r := by cases p <;> rfl
def pgBody (l : List ByteArray) : List UInt8 := l.flatMap fun s => lebl s.size ++ s.data.toList
def pgBytes (l : List ByteArray) : List UInt8 := lebl l.length ++ pgBody l
def prevAt (l : List ByteArray) (k : Nat) : Option ByteArray := if k = 0 then none else l[k - 1]?
structure PgRes (w w' : World) (l : List ByteArray) (v : Value) : Prop where
 mod : Mod (fun _ => False) w w'
 val : ∃ a c, v = .slice a (if pgErr none l = 0 then pgBytes l else []).length c ∧ Rd w' a (bts (if pgErr none l = 0 then pgBytes l else []))
theorem PgRes.err {w w' : World} {l : List ByteArray} (m : Mod (fun _ => False) w w') (h : pgErr none l ≠ 0) : PgRes w w' l (.slice none 0 0) :=
 ⟨m, none, 0, by rw [if_neg h]; rfl, by rw [if_neg h]; exact Rd.nil _ _⟩
theorem PgRes.ok {w w' : World} {l : List ByteArray} {a : Option Addr} {c : Nat} (m : Mod (fun _ => False) w w') (h : pgErr none l = 0) (hr : Rd w' a (bts (pgBytes l))) : PgRes w w' l (.slice a (pgBytes l).length c) :=
 ⟨m, a, c, by rw [if_pos h], by rw [if_pos h]; exact hr⟩
theorem pgBody_len {l : List ByteArray} (h : ∀ s ∈ l, s.size ≤ 4096) : (pgBody l).length ≤ 4106 * l.length := by
 induction l with
 | nil => simp [pgBody]
 | cons s l ih =>
   have h1 := h s (by simp)
   have h2 := ih (fun x hx => h x (by simp [hx]))
   have h3 := lebl_len64 s.size (by omega)
   have h4 : s.data.toList.length = s.size := (Lib.size_eq s).symm
   simp only [pgBody, List.flatMap_cons, List.length_append, List.length_cons] at h2 ⊢
   omega
theorem pgBody_snoc (l : List ByteArray) (k : Nat) (h : k < l.length) : pgBody (l.take (k + 1)) = pgBody (l.take k) ++ lebl l[k].size ++ l[k].data.toList := by
 unfold pgBody
 rw [List.take_succ_eq_append_getElem h, List.flatMap_append]; simp
end Go.Proofs.YtjoiaejbahdjkaaGreat
