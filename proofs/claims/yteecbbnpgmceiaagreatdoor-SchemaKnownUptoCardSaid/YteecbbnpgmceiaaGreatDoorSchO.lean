/- SchemaOrder answers true of every program of bulk at most 1048576, where the tables of utf8 lie. -/
import Derived.Test.YteecbbnpgmceiaaGreatDoorSWith
import Derived.Test.YteecbbnpgmceiaaGreatDoorSchA
import Derived.Test.YteecbbnpgmceiaaGreatDoorSch6
import Derived.Test.YteecbbnpgmceiaaGreatDoorSchR4
import Derived.Test.YteecbbnpgmceiaaGreatDoorOrdA
import Derived.Test.YteecbbnpgmceiaaGreatDoorOrdG
namespace Go.Proofs.YteecbbnpgmceiaaGreatDoor
open Go Go.RowKit Go.Mine
set_option maxHeartbeats 8000000
set_option maxRecDepth 100000
set_option linter.unusedVariables false

theorem bl_lt {x y : ByteArray} (h : bl x < bl y) : Op.bytesLess y.toList x.toList = false ∧ (y.toList == x.toList) = false := by
  have e1 : x.toList = bl x := ByteArray.toList_eq x
  have e2 : y.toList = bl y := ByteArray.toList_eq y
  rw [e1, e2, bytesLess_eq]
  refine ⟨decide_eq_false fun h2 => ?_, ?_⟩
  · exact absurd (List.lt_trans h h2) (List.lt_irrefl _)
  · simp only [beq_eq_false_iff_ne]
    intro e
    rw [e] at h
    exact absurd h (List.lt_irrefl _)
theorem addr_add0 (x : Addr) : x.add 0 = x := by
  unfold Addr.add
  split <;> simp_all
theorem run_slice_hi' {P : Program} {t e : TypeId} {k bytes : Nat} (ti : TI P t e k bytes) (a : Option Addr) (n c : Nat) (hi : Nat) (h2 : hi ≤ c) (w : World) :
    (Instr.slice t (.slice a n c) none (some (.int .i64 hi)) none).run P w = .ok (.slice a hi c) w := by
  obtain ⟨i, z, hinf, hz, rfl, rfl, hzs⟩ := ti.ex
  have h3 : (0 : Int) ≤ hi := by omega
  have h4 : (hi : Int) ≤ c := by omega
  simp [Instr.slice, run_underlying ti.ht, Instr.sliceBounds, Instr.sliceBound, asIntOf, h3, sizeOf, typeInfo, hinf, h2]
  intro _
  cases a with
  | none => rfl
  | some x => simp [addr_add0]
theorem rmsC_drop (xs : List (Rm × Value × Value)) (k : Nat) : (rmsC xs).drop (k * 3) = rmsC (xs.drop k) := by
  by_cases h : k ≤ xs.length
  · have e : rmsC xs = rmsC (xs.take k) ++ rmsC (xs.drop k) := by rw [← rmsC_append, List.take_append_drop]
    rw [e, List.drop_append_of_le_length (by rw [rmsC_length, List.length_take, Nat.min_eq_left h]; omega), List.drop_eq_nil_of_le (by rw [rmsC_length, List.length_take, Nat.min_eq_left h]; omega), List.nil_append]
  · rw [List.drop_eq_nil_of_le (by rw [rmsC_length]; omega), List.drop_eq_nil_of_le (by omega)]; rfl
theorem rmsC_take (xs : List (Rm × Value × Value)) (k : Nat) : (rmsC xs).take (k * 3) = rmsC (xs.take k) := by
  by_cases h : k ≤ xs.length
  · have e : rmsC xs = rmsC (xs.take k) ++ rmsC (xs.drop k) := by rw [← rmsC_append, List.take_append_drop]
    rw [e, List.take_append_of_le_length (by rw [rmsC_length, List.length_take, Nat.min_eq_left h]; omega), List.take_of_length_le (by rw [rmsC_length, List.length_take, Nat.min_eq_left h]; omega)]
  · rw [List.take_of_length_le (by rw [rmsC_length]; omega), List.take_of_length_le (by omega)]
theorem rms_one {w : World} {xs : List (Rm × Value × Value)} (h : ∀ x ∈ xs, TsAt w x.2.1 x.1.head.terms ∧ LsAt w x.2.2 x.1.body) : ∀ u ∈ rmsC xs, u.oneCell' = true := by
  intro u hu
  simp only [rmsC, List.mem_flatMap, rmC] at hu
  obtain ⟨x, hx, hu⟩ := hu
  obtain ⟨⟨a1, c1, h1, _⟩, ⟨a2, c2, _, h2, _⟩⟩ := h x hx
  rw [h1, h2] at hu
  simp at hu
  rcases hu with rfl | rfl | rfl <;> rfl
theorem own_ne {w : World} {e : TypeId} {k : Nat} {a : Option Addr} {n c : Nat} {xs : List Value} (h : Mine.Own w e k a n c xs) {g : Nat} {cs : Array Value} {e' : TypeId} {fz : Nat × Nat} (hb : w.heap[g]? = some (.cells cs e' fz)) (hne : e ≠ e') : ¬ (blk a = some g) := by
  intro hh
  rcases h.2 with ⟨rfl, _⟩ | ⟨b, cur, rfl, hg, _⟩
  · simp at hh
  · simp at hh; subst hh
    rw [hg] at hb; cases hb
    exact hne rfl
theorem app_fin {u x : World} {g : Nat} {a : Option Addr} {n c : Nat} {ys zs : List (Rm × Value × Value)} {lst : List Rm} (HB : x.heap[g]? = some (.cells #[.slice none 0 0] 24 (0, 0))) (HO : Mine.Own x 46 3 a n c (rmsC ys ++ rmsC zs)) (HC : Mod (fun _ => False) u x)
    (hl : (ys ++ zs).map Prod.fst = lst) (hN : lst.length = n) (ht : ∀ y ∈ ys ++ zs, TsAt u y.2.1 y.1.head.terms ∧ LsAt u y.2.2 y.1.body) (hg : u.heap.size ≤ g) :
    ∃ g' a' c', Value.pointer (some ⟨g, 0, none⟩) = .pointer (some ⟨g', 0, none⟩) ∧ Hid ((x.setCell ⟨g, 0, none⟩ (.slice a n c)).cell? ⟨g', 0, none⟩ = some (.slice a' lst.length c')) ∧ Hid (RsAt (x.setCell ⟨g, 0, none⟩ (.slice a n c)) (.slice a' lst.length c') lst) ∧ Hid (Mod (fun _ => False) u (x.setCell ⟨g, 0, none⟩ (.slice a n c))) := by
  have hm : Mod (fun b => b = g) x (x.setCell ⟨g, 0, none⟩ (.slice a n c)) := (Mod.refl (fun b => b = g) x).setCell (p := ⟨g, 0, none⟩) (fun _ => rfl) _
  have hmu : Mod (fun _ => False) u (x.setCell ⟨g, 0, none⟩ (.slice a n c)) := HC.step hm (fun i hi e => by omega)
  refine ⟨g, a, c, rfl, Lib.hid ?_, Lib.hid ?_, Lib.hid hmu⟩
  · have h1 := heap_setCell_at (j := 0) (Value.slice a n c) HB
    rw [hN]
    exact cell_at h1 rfl
  · subst hl
    refine ⟨a, c, ys ++ zs, rfl, rfl, ?_, fun y hy => ⟨(ht y hy).1.mod0 hmu, (ht y hy).2.mod0 hmu⟩⟩
    have h1 := HO.rd
    rw [← rmsC_append] at h1
    exact h1.mod hm (fun b hb e => by subst e; exact own_ne HO HB (by decide) hb)
theorem sl_lo {ad : Option Addr} {n c k : Nat} {xv : List (Rm × Value × Value)} {w : World} (hR : Rd w ad (rmsC xv)) (hxl : xv.length = n) (hnc : n ≤ c) (hk : k ≤ n) (ht : ∀ y ∈ xv, TsAt w y.2.1 y.1.head.terms ∧ LsAt w y.2.2 y.1.body) {z : Int} (hz : z = (k : Int)) :
    ∃ A C N, N = n - k ∧ (∀ W, (Instr.slice 22 (.slice ad n c) (some (.int .i64 z)) none none).run Tryz.prog W = .ok (.slice A N C) W) ∧ ∀ W, Mod (fun _ => False) w W → Src Tryz.prog 3 22 (.slice A N C) N (rmsC (xv.drop k)) W := by
  subst hz
  refine ⟨subA ad c k 3, c - k, n - k, rfl, fun W => ?_, fun W m => ?_⟩
  · have := run_slice_lo' tiR ad n c (k : Int) (by omega) (by omega) W
    simpa using this
  · have h1 : Rd W (subA ad c k 3) ((rmsC xv).drop (k * 3)) := subA_rd (hR.mod m (fun _ _ => id)) (fun e => by rw [rmsC_length, hxl]; exact Nat.mul_le_mul_right _ (by omega))
    rw [rmsC_drop] at h1
    exact Src.ofRd tiR.ht (n - k) (c - k) h1 (by rw [rmsC_length, List.length_drop, hxl]) (rms_one (w := w) (fun x hx => ht x (List.mem_of_mem_drop hx)))
theorem sl_hi {ad : Option Addr} {n c k : Nat} {xv : List (Rm × Value × Value)} {w : World} (hR : Rd w ad (rmsC xv)) (hxl : xv.length = n) (hnc : n ≤ c) (hk : k ≤ n) (ht : ∀ y ∈ xv, TsAt w y.2.1 y.1.head.terms ∧ LsAt w y.2.2 y.1.body) :
    ∃ A C N, N = k ∧ (∀ W, (Instr.slice 22 (.slice ad n c) none (some (.int .i64 k)) none).run Tryz.prog W = .ok (.slice A N C) W) ∧ ∀ W, Mod (fun _ => False) w W → Src Tryz.prog 3 22 (.slice A N C) N (rmsC (xv.take k)) W := by
  refine ⟨ad, c, k, rfl, fun W => run_slice_hi' tiR ad n c k (by omega) W, fun W m => ?_⟩
  have h1 := (hR.mod m (fun _ _ => id)).take (k * 3)
  rw [rmsC_take] at h1
  exact Src.ofRd tiR.ht k c h1 (by rw [rmsC_length, List.length_take, hxl, Nat.min_eq_left hk]) (rms_one (w := w) (fun x hx => ht x (List.mem_of_mem_take hx)))
/-- what With answers, read as a list and a number -/
def psOf (R : Option (List PdZ)) : List PdZ := R.getD []
def ffOf (R : Option (List PdZ)) : Int := if R.isSome = true then 0 else 110
theorem WPost.flat {w w' : World} {e : Ending} {R : Option (List PdZ)} (h : WPost w w' e R) : ∃ a, e = .returned (.tuple #[.slice a (psOf R).length (psOf R).length, .int .i64 (ffOf R)]) ∧ Rd w' a (pzsC (psOf R)) := by
  cases R with
  | none => exact ⟨none, h, Rd.nil _ _⟩
  | some ps =>
    obtain ⟨a, he, hC, _⟩ := h
    exact ⟨a, he, hC.rd⟩
theorem usesAll_le {rs : List Rm} (hs : ∀ r ∈ rs, SchOk r) (hn : rs.length ≤ 2 ^ 20) : (usesAll rs).length ≤ 2 ^ 41 := by
  have key : ∀ l : List Rm, (∀ r ∈ l, SchOk r) → (usesAll l).length ≤ l.length * (2 ^ 20 + 1) := by
    intro l
    induction l with
    | nil => intro _; simp [usesAll]
    | cons r l ih =>
      intro h
      rw [usesAll_cons, List.length_append, List.length_cons]
      have h1 := usesL_le r
      have h2 := (h r (by simp)).b0
      have h3 := ih (fun q hq => h q (by simp [hq]))
      rw [Nat.add_mul]; omega
  have := key rs hs
  have h2 : rs.length * (2 ^ 20 + 1) ≤ 2 ^ 20 * (2 ^ 20 + 1) := Nat.mul_le_mul_right _ hn
  omega
end Go.Proofs.YteecbbnpgmceiaaGreatDoor
