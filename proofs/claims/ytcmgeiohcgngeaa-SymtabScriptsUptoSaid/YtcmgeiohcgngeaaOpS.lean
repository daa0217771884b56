/-
  How a script that a row hands in is opened: its operations out of what memory holds.
-/
import Derived.Test.YtcmgeiohcgngeaaClose
import Derived.Test.YtcmgeiohcgngeaaSymE3
import Derived.Deep.Slices
import Derived.Lib.SmallJoins
namespace Go.Proofs.Ytcmgeiohcgngeaa
open Go Go.RowKit Go.Mine Go.Joins Go.ChangeShapes Go.WideShapes Go.ChangeAt Go.Deep
set_option linter.unusedVariables false
set_option maxRecDepth 100000

theorem flat_len {α : Type} {f : α → List Value} {k : Nat} (hf : ∀ y, (f y).length = k) : ∀ xs : List α, (xs.flatMap f).length = xs.length * k
  | [] => by simp
  | x :: xs => by rw [List.flatMap_cons, List.length_append, hf, flat_len hf xs, List.length_cons, Nat.add_mul]; omega
theorem flat_get {α : Type} {f : α → List Value} {k : Nat} (hf : ∀ y, (f y).length = k) : ∀ {xs : List α} {i : Nat} {y : α} {j : Nat}, xs[i]? = some y → j < k → (xs.flatMap f)[i * k + j]? = (f y)[j]?
  | [], i, y, j, h, _ => by simp at h
  | x :: xs, 0, y, j, h, hj => by
    simp at h
    subst h
    rw [List.flatMap_cons, List.getElem?_append_left (by rw [hf]; omega)]
    simp
  | x :: xs, i + 1, y, j, h, hj => by
    rw [List.flatMap_cons, List.getElem?_append_right (by rw [hf, Nat.add_mul]; omega), hf]
    have e : (i + 1) * k + j - k = i * k + j := by rw [Nat.add_mul]; omega
    rw [e]
    exact flat_get hf (by simpa using h) hj
theorem bulk_pos {H : Type} (d : DataW H) : 1 ≤ Rows.uptoBulk d := by
  cases d with
  | lit l => cases l <;> simp [Rows.uptoBulk]
  | _ => simp [Rows.uptoBulk]
theorem bulk_mem {H : Type} {l : List (DataW H)} : ∀ {d : DataW H}, d ∈ l → Rows.uptoBulk d ≤ Rows.uptoBulkAll l := by
  induction l with
  | nil => intro d h; cases h
  | cons x l ih =>
    intro d h
    simp only [Rows.uptoBulkAll]
    rcases List.mem_cons.1 h with rfl | h
    · omega
    · have := ih h; omega
theorem bulk_len {H : Type} (l : List (DataW H)) : l.length ≤ Rows.uptoBulkAll l := by
  induction l with
  | nil => simp
  | cons x l ih => simp only [Rows.uptoBulkAll, List.length_cons]; have := bulk_pos x; omega

section
variable {H : Type} {enc : TypeId × Value → H} {w : World} {base : Nat} {spare : Nat → Bool} {held : Bool}

theorem slice_open {α : Type} {f : α → List Value} {kk : Nat} (hf : ∀ y, (f y).length = kk) (hkk : 0 < kk) (Q : α → Nat → Prop) (hQ : ∀ y a b, Q y a → a ≤ b → Q y b) {t e : TypeId} (ht : Try.prog.underlying t = some (.slice e)) (hC : Try.prog.cellsOf e = kk)
    (hel : ∀ n cs d p, DataW.trod enc Try.prog w base spare held n e cs = some (d, p) → ∃ y, cs = f y ∧ Q y (Rows.uptoBulk (d, p).1)) {fuel : Nat} {cs : List Value} {d : DataW H} {p : List MemPlace} (h : DataW.trod enc Try.prog w base spare held fuel t cs = some (d, p)) :
    ∃ (a : Option Addr) (c : Nat) (ys : List α), cs = [.slice a ys.length c] ∧ Rd w a (ys.flatMap f) ∧ (∀ y ∈ ys, Q y (Rows.uptoBulk d)) ∧ ys.length ≤ Rows.uptoBulk d := by
  rcases open_slice ht h with ⟨rfl, he⟩ | ⟨a, len, cap, m, n, D, Pl, rfl, hb, hlc, hcm, hm, hx, hi⟩
  · exact ⟨none, 0, [], rfl, Rd.nil _ _, (fun _ h => by cases h), Nat.zero_le _⟩
  have hlm : len ≤ m := by rw [hm]; split <;> omega
  have hdb : Rows.uptoBulkAll ((List.range len).map D) ≤ Rows.uptoBulk d := by
    simp only [Prod.mk.injEq] at hx
    rw [hx.1]
    simp only [Rows.uptoBulk]
    omega
  have hstep : ∀ i : Fin len, ∃ y, (∀ r u, (f y)[r]? = some u → w.cell? (a.add (i.1 * kk + r)) = some u) ∧ Q y (Rows.uptoBulk (D i.1)) := by
    intro ⟨i, hil⟩
    obtain ⟨cs', hc, htr⟩ := hi i (by omega)
    obtain ⟨y, rfl, hq⟩ := hel _ _ _ _ htr
    refine ⟨y, fun r u hu => ?_, hq⟩
    obtain ⟨_, hcl, hat⟩ := World.cells?_some hc
    rw [hC] at hat
    have hr : r < kk := by rw [← hf y]; exact (List.getElem?_eq_some_iff.1 hu).1
    have := hat r hr
    rw [add_add] at this
    exact this.trans hu
  have hys : ∃ ys : List α, ys.length = len ∧ ∀ i (h : i < len), ∃ y, ys[i]? = some y ∧ (∀ r u, (f y)[r]? = some u → w.cell? (a.add (i * kk + r)) = some u) ∧ Q y (Rows.uptoBulk (D i)) := by
    refine ⟨List.ofFn fun i : Fin len => (hstep i).choose, by simp, fun i h => ⟨(hstep ⟨i, h⟩).choose, by simp [h], (hstep ⟨i, h⟩).choose_spec⟩⟩
  obtain ⟨ys, hl, hy⟩ := hys
  refine ⟨some a, cap, ys, by rw [hl], ?_, ?_, ?_⟩
  · refine Rd.ofAdd fun i u hu => ?_
    have hlen : i < ys.length * kk := by
      have := (List.getElem?_eq_some_iff.1 hu).1
      rwa [flat_len hf] at this
    have hq : i / kk < len := by
      rw [← hl]; exact Nat.div_lt_of_lt_mul (by rw [Nat.mul_comm]; exact hlen)
    have hr : i % kk < kk := Nat.mod_lt _ hkk
    obtain ⟨y, hy1, hy2, _⟩ := hy _ hq
    have e : i / kk * kk + i % kk = i := Nat.div_add_mod' i kk
    have h1 := flat_get (xs := ys) (j := i % kk) hf hy1 hr
    rw [e] at h1
    have h2 := hy2 (i % kk) u (by rw [← h1]; exact hu)
    rw [e] at h2
    exact h2
  · intro y hm
    obtain ⟨i, hi, rfl⟩ := List.getElem_of_mem hm
    obtain ⟨y, hy1, _, hy3⟩ := hy i (by omega)
    rw [List.getElem?_eq_getElem hi] at hy1
    cases hy1
    refine hQ _ _ _ hy3 (Nat.le_trans (bulk_mem (List.mem_map.2 ⟨i, List.mem_range.2 (by omega), rfl⟩)) hdb)
  · rw [hl]
    have := bulk_len ((List.range len).map D)
    simp at this
    omega

theorem el_string {n : Nat} {cs : List Value} {x : DataW H × List MemPlace} (h : DataW.trod enc Try.prog w base spare held n 9 cs = some x) : ∃ s : ByteArray, cs = [.string s] ∧ s.size ≤ Rows.uptoBulk x.1 := by
  obtain ⟨s, rfl, rfl, _⟩ := DataW.trod_string Try.underlying9 h
  exact ⟨s, rfl, by simp only [Rows.uptoBulk]; rw [← Lib.size_eq]; omega⟩
theorem el_int {n : Nat} {cs : List Value} {x : DataW H × List MemPlace} (h : DataW.trod enc Try.prog w base spare held n 3 cs = some x) : ∃ k : Int, cs = [.int .i64 k] := by
  obtain ⟨k, rfl, _⟩ := DataW.trod_int Try.underlying3 h
  exact ⟨k, rfl⟩
theorem st2 {t : TypeId} {fs : Array Field} {n : Nat} {cs : List Value} {d : DataW H} {p : List MemPlace} (ht : Try.prog.underlying t = some (.struct fs)) (h : DataW.trod enc Try.prog w base spare held n t cs = some (d, p)) :
    ∃ (xs : List (DataW H × List MemPlace)) (n' : Nat), d = .agg (xs.map (·.1)) ∧ cs.length = Try.prog.cellsOf t ∧ xs.length = fs.size ∧ ∀ (i : Nat) (f : Field), fs[i]? = some f → DataW.trod enc Try.prog w base spare held n' f.type ((cs.drop f.offset).take (Try.prog.cellsOf f.type)) = xs[i]? := by
  obtain ⟨xs, n', _, hx, hl, hxl, hfd⟩ := DataW.trod_struct ht h
  exact ⟨xs, n', congrArg Prod.fst hx, hl, hxl, hfd⟩
theorem el_txs {n : Nat} {cs : List Value} {x : DataW H × List MemPlace} (h : DataW.trod enc Try.prog w base spare held n 30 cs = some x) : ∃ (a : Option Addr) (c : Nat) (xs : List ByteArray), cs = [.slice a xs.length c] ∧ Rd w a (sts xs) ∧ xs.length ≤ Rows.uptoBulk x.1 ∧ ∀ s ∈ xs, s.size ≤ Rows.uptoBulk x.1 := by
  obtain ⟨d, p⟩ := x
  obtain ⟨a, c, xs, rfl, hr, hq, hl⟩ := slice_open (f := fun s : ByteArray => [Value.string s]) (kk := 1) (fun _ => rfl) (by omega) (fun (s : ByteArray) N => s.size ≤ N) (fun _ _ _ h1 h2 => Nat.le_trans h1 h2) Try.underlying30 (by kernel_rfl) (fun n cs d p h => el_string h) h
  have e : xs.flatMap (fun s : ByteArray => [Value.string s]) = sts xs := by
    have h0 : ∀ ys : List ByteArray, ys.flatMap (fun s : ByteArray => [Value.string s]) = ys.map .string := fun ys => by
      induction ys with
      | nil => rfl
      | cons y ys ih => rw [List.flatMap_cons, ih]; rfl
    exact h0 xs
  rw [e] at hr
  exact ⟨a, c, xs, rfl, hr, hl, hq⟩
theorem el_op {n : Nat} {cs : List Value} {x : DataW H × List MemPlace} (h : DataW.trod enc Try.prog w base spare held n 34 cs = some x) : ∃ o : OpS, cs = opC o ∧ Rd w o.ta (sts o.xs) ∧ o.xs.length ≤ Rows.uptoBulk x.1 ∧ ∀ s ∈ o.xs, s.size ≤ Rows.uptoBulk x.1 := by
  obtain ⟨d, p⟩ := x
  obtain ⟨xs, n', rfl, hl, hxl, hfd⟩ := st2 Try.underlying34 h
  have c4 : Try.prog.cellsOf 34 = 4 := by kernel_rfl
  have ci : Try.prog.cellsOf 3 = 1 := by kernel_rfl
  have cx : Try.prog.cellsOf 30 = 1 := by kernel_rfl
  rw [c4] at hl
  match cs, hl with
  | [v0, v1, v2, v3], _ =>
  match xs, hxl with
  | [y0, y1, y2, y3], _ =>
  have h0 : DataW.trod enc Try.prog w base spare held n' 3 (List.take (Try.prog.cellsOf 3) [v0, v1, v2, v3]) = some y0 := hfd 0 _ rfl
  have h1 : DataW.trod enc Try.prog w base spare held n' 3 (List.take (Try.prog.cellsOf 3) [v1, v2, v3]) = some y1 := hfd 1 _ rfl
  have h2 : DataW.trod enc Try.prog w base spare held n' 30 (List.take (Try.prog.cellsOf 30) [v2, v3]) = some y2 := hfd 2 _ rfl
  have h3 : DataW.trod enc Try.prog w base spare held n' 3 (List.take (Try.prog.cellsOf 3) [v3]) = some y3 := hfd 3 _ rfl
  rw [ci] at h0 h1 h3
  rw [cx] at h2
  obtain ⟨k0, e0⟩ := el_int h0
  obtain ⟨k1, e1⟩ := el_int h1
  obtain ⟨a, c, ts, e2, hr, hl2, hq⟩ := el_txs h2
  obtain ⟨k3, e3⟩ := el_int h3
  cases e0; cases e1; cases e2; cases e3
  have hb : Rows.uptoBulk (DataW.agg [y0.1, y1.1, y2.1, y3.1]) = Rows.uptoBulk y0.1 + (Rows.uptoBulk y1.1 + (Rows.uptoBulk y2.1 + (Rows.uptoBulk y3.1 + 0))) + 1 := rfl
  refine ⟨⟨k0, k1, k3, a, c, ts⟩, rfl, hr, ?_, fun s hs => ?_⟩
  · show ts.length ≤ Rows.uptoBulk (DataW.agg [y0.1, y1.1, y2.1, y3.1])
    rw [hb]; omega
  · show s.size ≤ Rows.uptoBulk (DataW.agg [y0.1, y1.1, y2.1, y3.1])
    have := hq s hs
    rw [hb]; omega
/-- a script -/
theorem el_ops {n : Nat} {cs : List Value} {x : DataW H × List MemPlace} (h : DataW.trod enc Try.prog w base spare held n 22 cs = some x) : ∃ (a : Option Addr) (c : Nat) (os : List OpS), cs = [.slice a os.length c] ∧ Rd w a (opsC os) ∧ os.length ≤ Rows.uptoBulk x.1 ∧ ∀ o ∈ os, Rd w o.ta (sts o.xs) ∧ o.xs.length ≤ Rows.uptoBulk x.1 ∧ ∀ s ∈ o.xs, s.size ≤ Rows.uptoBulk x.1 := by
  obtain ⟨d, p⟩ := x
  obtain ⟨a, c, os, rfl, hr, hq, hl⟩ := slice_open (f := opC) (kk := 4) (fun _ => rfl) (by omega) (fun (o : OpS) N => Rd w o.ta (sts o.xs) ∧ o.xs.length ≤ N ∧ ∀ s ∈ o.xs, s.size ≤ N) (fun _ _ _ h1 h2 => ⟨h1.1, Nat.le_trans h1.2.1 h2, fun s hs => Nat.le_trans (h1.2.2 s hs) h2⟩) Try.underlying22 (by kernel_rfl) (fun n cs d p h => el_op h) h
  exact ⟨a, c, os, rfl, hr, hl, hq⟩
end
end Go.Proofs.Ytcmgeiohcgngeaa
