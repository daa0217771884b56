/-
  append within a region that is walked in one order.
-/
import Derived.Test.YtjoiaejbahdjkaaGreatOrd
namespace Go.Mine
open Go Go.RowKit
section
variable {P : Program} {w : World}
theorem wpO_append {o : Oper} {A : Act} {K : Act → World → Prop} {Q : Exit → Act → World → Prop} (s x : Operand) (t tx : TypeId)
 (ho : o.op = .call { callee := .builtin .append, args := #[s, x], argTypes := #[t, tx] }) {e : TypeId} {k bytes : Nat} (ti : TI P t e k bytes)
 {a : Option Addr} {n c : Nat} {xs : List Value} (hs : A.eval s = .slice a n c) (h : Own w e k a n c xs)
 {xv : Value} {m : Nat} {news : List Value} (hx : A.eval x = xv) (hsrc : Src P k tx xv m news w) (hb : (n + m) * bytes ≤ 140737488355328) (h63 : n + m ≤ maxLen)
 (hk : ∀ a' c' w', Own w' e k a' (n + m) c' (xs ++ news) → Grow w a w' a' → (a' = none → n + m = 0) → K (A.put o.dst (.slice a' (n + m) c')) w') : o.wp P A w K Q := by
 obtain ⟨a', c', w', hr, h2, h3, h4, h5⟩ := run_append_mine (ty := o.type) ti h hsrc hb h63
 unfold Oper.wp execOp
 simp only [ho, resolve, invoke, builtin, Sem.run_bind, Sem.run_pure, Result.andThen_ok, List.map_toArray, List.map_cons, List.map_nil, hs, hx, hr]
 exact hk a' c' w' h2 ⟨h3, h4⟩ h5
theorem Rd.dr {w : World} {a : Option Addr} {xs : List Value} (h : Rd w a xs) : Rd w.drew a xs := h
end
end Go.Mine
