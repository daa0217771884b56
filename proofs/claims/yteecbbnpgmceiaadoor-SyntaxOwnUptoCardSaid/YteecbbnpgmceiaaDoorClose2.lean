/-
  How a row whose argument is a []byte is opened.
-/
import Derived.Test.YteecbbnpgmceiaaDoorClose
namespace Go.Proofs.YteecbbnpgmceiaaDoor
open Go Go.RowKit Go.Mine Go.ChangeShapes Go.WideShapes Go.ChangeAt
set_option linter.unusedVariables false

def u8s (zs : List Int) : List UInt8 := zs.map fun n => UInt8.ofNat n.toNat
@[simp] theorem u8s_length (zs : List Int) : (u8s zs).length = zs.length := by simp [u8s]
theorem u8_back {n : Int} (h : (Lit.int .u8 n).wf = true) : (((UInt8.ofNat n.toNat).toNat : Nat) : Int) = n := by
  have h2 : 0 ≤ n ∧ n ≤ 255 := by
    simp only [Lit.wf, Bool.and_eq_true] at h
    exact ⟨of_decide_eq_true h.1, of_decide_eq_true h.2⟩
  have : (UInt8.ofNat n.toNat).toNat = n.toNat := by
    rw [UInt8.toNat_ofNat']; omega
  rw [this]; omega
theorem Rd.ofBytes {w : World} {a : Addr} {zs : List Int} {n : Nat} (hcell : ∀ i, i < zs.length → w.cell? (a.add i) = some (.int .u8 (zs.getD i 0))) (hwf : ∀ n ∈ zs, (Lit.int .u8 n).wf = true) :
    Rd w (some a) (bts (u8s (zs.take n))) := by
  have h : Rd w (some a) (bts (u8s zs)) := Rd.ofAdd fun i u hi => by
    simp only [bts, u8s, List.getElem?_map] at hi
    cases hs : zs[i]? with
    | none => rw [hs] at hi; simp at hi
    | some s =>
      rw [hs] at hi; simp only [Option.map_some, Option.some.injEq] at hi
      have hlt : i < zs.length := (List.getElem?_eq_some_iff.1 hs).1
      rw [u8_back (hwf s (List.mem_of_getElem? hs))] at hi
      rw [hcell i hlt, ← hi]
      simp [List.getD, hs]
  have := h.take n
  simpa [bts, u8s, List.map_take] using this
theorem bulk_ints {H : Type} (k : IntKind) (zs : List Int) : zs.length ≤ Rows.uptoBulkAll (lits (H := H) k zs) := by
  induction zs with
  | nil => simp
  | cons z zs ih =>
    have e : Rows.uptoBulkAll (lits (H := H) k (z :: zs)) = 1 + Rows.uptoBulkAll (lits (H := H) k zs) := by
      simp only [lits, List.map_cons, Rows.uptoBulkAll, Rows.uptoBulk]
    rw [e]; simp; omega
end Go.Proofs.YteecbbnpgmceiaaDoor
