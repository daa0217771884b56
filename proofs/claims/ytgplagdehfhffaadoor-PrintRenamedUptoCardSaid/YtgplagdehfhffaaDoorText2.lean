/-
  print.Program, Rule, Atom.
-/
import Derived.Test.YtgplagdehfhffaaDoorText
namespace Go.Proofs.YtgplagdehfhffaaDoor
open Go Go.RowKit Go.Mine
set_option linter.unusedVariables false
set_option maxHeartbeats 4000000
set_option maxRecDepth 100000

theorem pmT_take (rs : List Rm) {k : Nat} (hk : k < rs.length) : pmT (rs.take (k + 1)) = pmT (rs.take k) ++ rmT rs[k] ++ [10] := by
  rw [List.take_succ_eq_append_getElem hk]
  unfold pmT
  rw [List.flatMap_append, List.append_assoc]
  simp
theorem pmT_le (rs : List Rm) (k : Nat) : (pmT (rs.take k)).length ≤ (pmT rs).length := by
  have e : pmT rs = pmT (rs.take k) ++ pmT (rs.drop k) := by
    unfold pmT
    rw [← List.flatMap_append, List.take_append_drop]
  rw [e, List.length_append]
  omega
/-- what Program, Rule, Atom answer -/
def outP (e : Int) (l : List UInt8) : List UInt8 × Int := if e ≠ 0 then ([], e) else fitT l
def SayP (x : List UInt8 × Int) (w : World) (e : Ending) (w' : World) : Prop := e = .returned (.tuple #[.string ⟨x.1.toArray⟩, .int .i64 x.2]) ∧ Mod (fun _ => False) w w'
theorem Rule_any (r : Rm) (s b : Value) (w : World) (hs : SmallRm r) (ht : TsAt w s r.head.terms) (hl : LsAt w b r.body) :
    Calls Tryd.prog 81 #[rmV r s b] w (SayP (outP (mayRm r) (rmT r)) w) := by
  unfold rmV
  have hm0 : Mod (fun _ => False) w (w.alloc (.cells #[.string r.head.pred, s, b] 40)) := (Mod.refl _ w).alloc _
  have HA := Lib.hid (MayRule_any r s b _ hs (ht.mod0 hm0) (hl.mod0 hm0))
  unfold rmV at HA
  have hmf : ∀ (fn : Fn) (first cap : Array Value) (w : World), (Instr.makeFunc fn first cap).run Tryd.prog w = .ok (.func fn first cap) w := fun _ _ _ _ => rfl
  have HT := Lib.hid ht; have HL := Lib.hid hl
  have HN := Lib.hid (heap_alloc_new w (.cells #[.string r.head.pred, s, b] 40))
  have HM0 := Lib.hid hm0
  have HOK := Lib.hid (fun h => okRm (r := r) h)
  obtain ⟨ad, c, rfl, _⟩ := ht
  obtain ⟨bd, bc, _, rfl, _⟩ := hl
  clear hm0
  unfold SayP outP
  generalize mayRm r = x at *
  by_cases hx : x = 0
  · subst hx
    rw [if_neg (by simp)]
    have HTX := Lib.hid (fun (w1 : World) (m : Mod (fun _ => False) (w.alloc (.cells #[.string r.head.pred, .slice ad r.head.terms.length c, .slice bd r.body.length bc] 40)) w1) => text_any 132 (.pointer (some ⟨w.heap.size, 0, none⟩)) (rmT r) w1 (fun _ _ => by go_simp) (fun w0 w2 p h1 h2 => ruleC_any r (HOK.out rfl) _ _ w0 w2 w1 w.heap.size p (m.at HN.out id) (HT.out.mod0 (HM0.out.trans m)) (HL.out.mod0 (HM0.out.trans m)) h1 h2))
    go_enter Tryd.func81, Tryd.ntmps81
    go_wp2_with fail
    refine HA.out.mono ?_
    rintro e w1 ⟨rfl, hM1⟩
    have HTX2 := Lib.hid (HTX.out w1 hM1)
    have HM1 := Lib.hid hM1; clear hM1 HTX
    go_wp2_with fail
    refine HTX2.out.mono ?_
    rintro e w2 ⟨rfl, hM2⟩
    have HM2 := Lib.hid hM2; clear hM2 HTX2
    go_wp2_with fail
    go_ret2
    exact ⟨rfl, HM0.out.trans (HM1.out.trans HM2.out)⟩
  · rw [if_pos hx]
    have hxb : (x != 0) = true := by simpa using hx
    clear hx
    go_enter Tryd.func81, Tryd.ntmps81
    go_wp2_with fail
    refine HA.out.mono ?_
    rintro e w1 ⟨rfl, hM1⟩
    have HM1 := Lib.hid hM1; clear hM1
    go_wp2_with fail
    go_ret2
    exact ⟨rfl, HM0.out.trans HM1.out⟩
end Go.Proofs.YtgplagdehfhffaaDoor
