/-
  How an api.Program that a row hands in is opened: terms, atoms, literals, rules out of what memory holds.
-/
import Derived.Test.YtphgglnkdfndiaaDoorClG
import Derived.Test.YtphgglnkdfndiaaDoorData
import Derived.Deep.Slices
import Derived.Lib.SmallJoins
import Derived.Test.YtphgglnkdfndiaaDoorNorm
import Derived.Test.YtphgglnkdfndiaaDoorMayG
namespace Go.Proofs.YtphgglnkdfndiaaDoor
open Go Go.RowKit Go.Mine Go.Joins Go.ChangeShapes Go.WideShapes Go.ChangeAt Go.Deep
set_option linter.unusedVariables false
set_option maxRecDepth 100000

theorem bulk_pos {H : Type} (d : DataW H) : 1 ≤ Rows.uptoBulk d := by
  cases d with
  | lit l => cases l <;> simp [Rows.uptoBulk]
  | _ => simp [Rows.uptoBulk]
theorem bulk_mem {H : Type} {l : List (DataW H)} : ∀ {d : DataW H}, d ∈ l → Rows.uptoBulk d ≤ Rows.uptoBulkAll l := by
  induction l with
  | nil => intro d h; cases h
  | cons x l ih =>
    intro d h
    simp only [Rows.uptoBulkAll]
    rcases List.mem_cons.1 h with rfl | h
    · omega
    · have := ih h; omega
theorem bulk_len {H : Type} (l : List (DataW H)) : l.length ≤ Rows.uptoBulkAll l := by
  induction l with
  | nil => simp
  | cons x l ih => simp only [Rows.uptoBulkAll, List.length_cons]; have := bulk_pos x; omega

section
variable {H : Type} {enc : TypeId × Value → H} {w : World} {base : Nat} {spare : Nat → Bool} {held : Bool}

theorem slice_open {α : Type} {f : α → List Value} {kk : Nat} (hf : ∀ y, (f y).length = kk) (hkk : 0 < kk) (Q : α → Nat → Prop) (hQ : ∀ y a b, Q y a → a ≤ b → Q y b) {t e : TypeId} (ht : Tryd.prog.underlying t = some (.slice e)) (hC : Tryd.prog.cellsOf e = kk)
    (hel : ∀ n cs d p, DataW.trod enc Tryd.prog w base spare held n e cs = some (d, p) → ∃ y, cs = f y ∧ Q y (Rows.uptoBulk (d, p).1)) {fuel : Nat} {cs : List Value} {d : DataW H} {p : List MemPlace} (h : DataW.trod enc Tryd.prog w base spare held fuel t cs = some (d, p)) :
    ∃ (a : Option Addr) (c : Nat) (ys : List α), cs = [.slice a ys.length c] ∧ Rd w a (ys.flatMap f) ∧ (∀ y ∈ ys, Q y (Rows.uptoBulk d)) ∧ ys.length ≤ Rows.uptoBulk d := by
  rcases open_slice ht h with ⟨rfl, he⟩ | ⟨a, len, cap, m, n, D, Pl, rfl, hb, hlc, hcm, hm, hx, hi⟩
  · exact ⟨none, 0, [], rfl, Rd.nil _ _, (fun _ h => by cases h), Nat.zero_le _⟩
  have hlm : len ≤ m := by rw [hm]; split <;> omega
  have hdb : Rows.uptoBulkAll ((List.range len).map D) ≤ Rows.uptoBulk d := by
    simp only [Prod.mk.injEq] at hx
    rw [hx.1]
    simp only [Rows.uptoBulk]
    omega
  have hstep : ∀ i : Fin len, ∃ y, (∀ r u, (f y)[r]? = some u → w.cell? (a.add (i.1 * kk + r)) = some u) ∧ Q y (Rows.uptoBulk (D i.1)) := by
    intro ⟨i, hil⟩
    obtain ⟨cs', hc, htr⟩ := hi i (by omega)
    obtain ⟨y, rfl, hq⟩ := hel _ _ _ _ htr
    refine ⟨y, fun r u hu => ?_, hq⟩
    obtain ⟨_, hcl, hat⟩ := World.cells?_some hc
    rw [hC] at hat
    have hr : r < kk := by rw [← hf y]; exact (List.getElem?_eq_some_iff.1 hu).1
    have := hat r hr
    rw [add_add] at this
    exact this.trans hu
  have hys : ∃ ys : List α, ys.length = len ∧ ∀ i (h : i < len), ∃ y, ys[i]? = some y ∧ (∀ r u, (f y)[r]? = some u → w.cell? (a.add (i * kk + r)) = some u) ∧ Q y (Rows.uptoBulk (D i)) := by
    refine ⟨List.ofFn fun i : Fin len => (hstep i).choose, by simp, fun i h => ⟨(hstep ⟨i, h⟩).choose, by simp [h], (hstep ⟨i, h⟩).choose_spec⟩⟩
  obtain ⟨ys, hl, hy⟩ := hys
  refine ⟨some a, cap, ys, by rw [hl], ?_, ?_, ?_⟩
  · refine Rd.ofAdd fun i u hu => ?_
    have hlen : i < ys.length * kk := by
      have := (List.getElem?_eq_some_iff.1 hu).1
      rwa [flat_len hf] at this
    have hq : i / kk < len := by
      rw [← hl]; exact Nat.div_lt_of_lt_mul (by rw [Nat.mul_comm]; exact hlen)
    have hr : i % kk < kk := Nat.mod_lt _ hkk
    obtain ⟨y, hy1, hy2, _⟩ := hy _ hq
    have e : i / kk * kk + i % kk = i := Nat.div_add_mod' i kk
    have h1 := flat_get (xs := ys) (j := i % kk) hf hy1 hr
    rw [e] at h1
    have h2 := hy2 (i % kk) u (by rw [← h1]; exact hu)
    rw [e] at h2
    exact h2
  · intro y hm
    obtain ⟨i, hi, rfl⟩ := List.getElem_of_mem hm
    obtain ⟨y, hy1, _, hy3⟩ := hy i (by omega)
    rw [List.getElem?_eq_getElem hi] at hy1
    cases hy1
    refine hQ _ _ _ hy3 (Nat.le_trans (bulk_mem (List.mem_map.2 ⟨i, List.mem_range.2 (by omega), rfl⟩)) hdb)
  · rw [hl]
    have := bulk_len ((List.range len).map D)
    simp at this
    omega

theorem el_string {n : Nat} {cs : List Value} {x : DataW H × List MemPlace} (h : DataW.trod enc Tryd.prog w base spare held n 9 cs = some x) : ∃ s : ByteArray, cs = [.string s] ∧ s.size ≤ Rows.uptoBulk x.1 := by
  obtain ⟨s, rfl, rfl, _⟩ := DataW.trod_string Tryd.underlying9 h
  exact ⟨s, rfl, by simp only [Rows.uptoBulk]; rw [← Lib.size_eq]; omega⟩
theorem el_int {n : Nat} {cs : List Value} {x : DataW H × List MemPlace} (h : DataW.trod enc Tryd.prog w base spare held n 3 cs = some x) : ∃ k : Int, cs = [.int .i64 k] := by
  obtain ⟨k, rfl, _⟩ := DataW.trod_int Tryd.underlying3 h
  exact ⟨k, rfl⟩
theorem c1 : Tryd.prog.cellsOf 3 = 1 ∧ Tryd.prog.cellsOf 9 = 1 ∧ Tryd.prog.cellsOf 33 = 1 ∧ Tryd.prog.cellsOf 36 = 1 ∧ Tryd.prog.cellsOf 22 = 1 := by
  refine ⟨?_, ?_, ?_, ?_, ?_⟩ <;> kernel_rfl
theorem c2 : Tryd.prog.cellsOf 42 = 2 := by kernel_rfl
theorem cA : Tryd.prog.cellsOf 35 = 2 := by kernel_rfl
theorem cL : Tryd.prog.cellsOf 44 = 8 := by kernel_rfl
theorem cR : Tryd.prog.cellsOf 38 = 3 := by kernel_rfl
theorem cP : Tryd.prog.cellsOf 24 = 1 := by kernel_rfl
theorem st2 {t : TypeId} {fs : Array Field} {n : Nat} {cs : List Value} {d : DataW H} {p : List MemPlace} (ht : Tryd.prog.underlying t = some (.struct fs)) (h : DataW.trod enc Tryd.prog w base spare held n t cs = some (d, p)) :
    ∃ (xs : List (DataW H × List MemPlace)) (n' : Nat), d = .agg (xs.map (·.1)) ∧ cs.length = Tryd.prog.cellsOf t ∧ xs.length = fs.size ∧ ∀ (i : Nat) (f : Field), fs[i]? = some f → DataW.trod enc Tryd.prog w base spare held n' f.type ((cs.drop f.offset).take (Tryd.prog.cellsOf f.type)) = xs[i]? := by
  obtain ⟨xs, n', _, hx, hl, hxl, hfd⟩ := DataW.trod_struct ht h
  exact ⟨xs, n', congrArg Prod.fst hx, hl, hxl, hfd⟩
theorem el_tm {n : Nat} {cs : List Value} {x : DataW H × List MemPlace} (h : DataW.trod enc Tryd.prog w base spare held n 42 cs = some x) : ∃ t : Tm, cs = tmC t ∧ t.text.size ≤ Rows.uptoBulk x.1 := by
  obtain ⟨d, p⟩ := x
  obtain ⟨xs, n', rfl, hl, hxl, hfd⟩ := st2 Tryd.underlying42 h
  rw [c2] at hl
  match cs, hl with
  | [v0, v1], _ =>
  match xs, hxl with
  | [y0, y1], _ =>
  have h0 : DataW.trod enc Tryd.prog w base spare held n' 3 (List.take (Tryd.prog.cellsOf 3) [v0, v1]) = some y0 := hfd 0 _ rfl
  have h1 : DataW.trod enc Tryd.prog w base spare held n' 9 (List.take (Tryd.prog.cellsOf 9) [v1]) = some y1 := hfd 1 _ rfl
  rw [c1.1] at h0
  rw [c1.2.1] at h1
  obtain ⟨k, e0⟩ := el_int h0
  obtain ⟨s, e1, hs⟩ := el_string h1
  cases e0; cases e1
  refine ⟨⟨k, s⟩, rfl, ?_⟩
  show s.size ≤ Rows.uptoBulkAll [y0.1, y1.1] + 1
  simp only [Rows.uptoBulkAll]
  omega
def AmQ (N : Nat) (a : Am) : Prop := a.pred.size ≤ N ∧ a.terms.length ≤ N ∧ ∀ t ∈ a.terms, t.text.size ≤ N
def LmQ (N : Nat) (l : Lm) : Prop := AmQ N l.atom ∧ l.left.text.size ≤ N ∧ l.right.text.size ≤ N
def RmQ (N : Nat) (r : Rm) : Prop := AmQ N r.head ∧ r.body.length ≤ N ∧ ∀ l ∈ r.body, LmQ N l
theorem AmQ.mono {a b : Nat} {x : Am} (h : AmQ a x) (hab : a ≤ b) : AmQ b x := ⟨by have := h.1; omega, by have := h.2.1; omega, fun t ht => by have := h.2.2 t ht; omega⟩
theorem LmQ.mono {a b : Nat} {x : Lm} (h : LmQ a x) (hab : a ≤ b) : LmQ b x := ⟨h.1.mono hab, by have := h.2.1; omega, by have := h.2.2; omega⟩
theorem RmQ.mono {a b : Nat} {x : Rm} (h : RmQ a x) (hab : a ≤ b) : RmQ b x := ⟨h.1.mono hab, by have := h.2.1; omega, fun t ht => (h.2.2 t ht).mono hab⟩
theorem el_ts {n : Nat} {cs : List Value} {x : DataW H × List MemPlace} (h : DataW.trod enc Tryd.prog w base spare held n 33 cs = some x) : ∃ (s : Value) (ts : List Tm), cs = [s] ∧ TsAt w s ts ∧ ts.length ≤ Rows.uptoBulk x.1 ∧ ∀ t ∈ ts, t.text.size ≤ Rows.uptoBulk x.1 := by
  obtain ⟨d, p⟩ := x
  obtain ⟨a, c, ts, rfl, hr, hq, hl⟩ := slice_open tmC_length (by omega) (fun (t : Tm) N => t.text.size ≤ N) (fun _ _ _ h1 h2 => Nat.le_trans h1 h2) Tryd.underlying33 c2 (fun n cs d p h => el_tm h) h
  exact ⟨_, ts, rfl, ⟨a, c, rfl, hr⟩, hl, hq⟩
theorem el_am {n : Nat} {cs : List Value} {x : DataW H × List MemPlace} (h : DataW.trod enc Tryd.prog w base spare held n 35 cs = some x) : ∃ (a : Am) (s : Value), cs = [.string a.pred, s] ∧ TsAt w s a.terms ∧ AmQ (Rows.uptoBulk x.1) a := by
  obtain ⟨d, p⟩ := x
  obtain ⟨xs, n', rfl, hl, hxl, hfd⟩ := st2 Tryd.underlying35 h
  rw [cA] at hl
  match cs, hl with
  | [v0, v1], _ =>
  match xs, hxl with
  | [y0, y1], _ =>
  have h0 : DataW.trod enc Tryd.prog w base spare held n' 9 (List.take (Tryd.prog.cellsOf 9) [v0, v1]) = some y0 := hfd 0 _ rfl
  have h1 : DataW.trod enc Tryd.prog w base spare held n' 33 (List.take (Tryd.prog.cellsOf 33) [v1]) = some y1 := hfd 1 _ rfl
  rw [c1.2.1] at h0
  rw [c1.2.2.1] at h1
  obtain ⟨k, e0, hk⟩ := el_string h0
  obtain ⟨s, ts, e1, hs, hl1, hl2⟩ := el_ts h1
  cases e0; cases e1
  have hb : Rows.uptoBulk (DataW.agg [y0.1, y1.1]) = Rows.uptoBulk y0.1 + (Rows.uptoBulk y1.1 + 0) + 1 := rfl
  refine ⟨⟨k, ts⟩, _, rfl, hs, ?_⟩
  show AmQ (Rows.uptoBulk (DataW.agg [y0.1, y1.1])) _
  rw [hb]
  exact ⟨by show k.size ≤ _; omega, by show ts.length ≤ _; omega, fun t ht => by have := hl2 t ht; omega⟩
theorem el_lm {n : Nat} {cs : List Value} {x : DataW H × List MemPlace} (h : DataW.trod enc Tryd.prog w base spare held n 44 cs = some x) : ∃ l : Lm × Value, cs = lmC l ∧ TsAt w l.2 l.1.atom.terms ∧ LmQ (Rows.uptoBulk x.1) l.1 := by
  obtain ⟨d, p⟩ := x
  obtain ⟨xs, n', rfl, hl, hxl, hfd⟩ := st2 Tryd.underlying44 h
  rw [cL] at hl
  match cs, hl with
  | [v0, v1, v2, v3, v4, v5, v6, v7], _ =>
  match xs, hxl with
  | [y0, y1, y2, y3, y4], _ =>
  have h0 : DataW.trod enc Tryd.prog w base spare held n' 3 (List.take (Tryd.prog.cellsOf 3) [v0, v1, v2, v3, v4, v5, v6, v7]) = some y0 := hfd 0 _ rfl
  have h1 : DataW.trod enc Tryd.prog w base spare held n' 35 (List.take (Tryd.prog.cellsOf 35) [v1, v2, v3, v4, v5, v6, v7]) = some y1 := hfd 1 _ rfl
  have h2 : DataW.trod enc Tryd.prog w base spare held n' 3 (List.take (Tryd.prog.cellsOf 3) [v3, v4, v5, v6, v7]) = some y2 := hfd 2 _ rfl
  have h3 : DataW.trod enc Tryd.prog w base spare held n' 42 (List.take (Tryd.prog.cellsOf 42) [v4, v5, v6, v7]) = some y3 := hfd 3 _ rfl
  have h4 : DataW.trod enc Tryd.prog w base spare held n' 42 (List.take (Tryd.prog.cellsOf 42) [v6, v7]) = some y4 := hfd 4 _ rfl
  rw [c1.1] at h0 h2
  rw [cA] at h1
  rw [c2] at h3 h4
  obtain ⟨k0, e0⟩ := el_int h0
  obtain ⟨a, s, e1, hs, hq1⟩ := el_am h1
  obtain ⟨k2, e2⟩ := el_int h2
  obtain ⟨t3, e3, hq3⟩ := el_tm h3
  obtain ⟨t4, e4, hq4⟩ := el_tm h4
  cases e0; cases e1; cases e2; cases e3; cases e4
  have hb : Rows.uptoBulk (DataW.agg [y0.1, y1.1, y2.1, y3.1, y4.1]) = Rows.uptoBulk y0.1 + (Rows.uptoBulk y1.1 + (Rows.uptoBulk y2.1 + (Rows.uptoBulk y3.1 + (Rows.uptoBulk y4.1 + 0)))) + 1 := rfl
  refine ⟨(⟨k0, a, k2, t3, t4⟩, _), rfl, hs, ?_⟩
  show LmQ (Rows.uptoBulk (DataW.agg [y0.1, y1.1, y2.1, y3.1, y4.1])) _
  rw [hb]
  exact ⟨hq1.mono (by omega), by show t3.text.size ≤ _; omega, by show t4.text.size ≤ _; omega⟩
theorem el_ls {n : Nat} {cs : List Value} {x : DataW H × List MemPlace} (h : DataW.trod enc Tryd.prog w base spare held n 36 cs = some x) : ∃ (s : Value) (ls : List Lm), cs = [s] ∧ LsAt w s ls ∧ ls.length ≤ Rows.uptoBulk x.1 ∧ ∀ t ∈ ls, LmQ (Rows.uptoBulk x.1) t := by
  obtain ⟨d, p⟩ := x
  obtain ⟨a, c, ys, rfl, hr, hq, hl⟩ := slice_open lmC_length (by omega) (fun (l : Lm × Value) N => TsAt w l.2 l.1.atom.terms ∧ LmQ N l.1) (fun _ _ _ h1 h2 => ⟨h1.1, h1.2.mono h2⟩) Tryd.underlying36 cL (fun n cs d p h => el_lm h) h
  refine ⟨_, ys.map Prod.fst, rfl, ⟨a, c, ys, by rw [List.length_map], rfl, hr, fun y hy => (hq y hy).1⟩, by rw [List.length_map]; exact hl, fun t ht => ?_⟩
  obtain ⟨y, hy, rfl⟩ := List.mem_map.1 ht
  exact (hq y hy).2
theorem el_rm {n : Nat} {cs : List Value} {x : DataW H × List MemPlace} (h : DataW.trod enc Tryd.prog w base spare held n 38 cs = some x) : ∃ r : Rm × Value × Value, cs = rmC r ∧ TsAt w r.2.1 r.1.head.terms ∧ LsAt w r.2.2 r.1.body ∧ RmQ (Rows.uptoBulk x.1) r.1 := by
  obtain ⟨d, p⟩ := x
  obtain ⟨xs, n', rfl, hl, hxl, hfd⟩ := st2 Tryd.underlying38 h
  rw [cR] at hl
  match cs, hl with
  | [v0, v1, v2], _ =>
  match xs, hxl with
  | [y0, y1], _ =>
  have h0 : DataW.trod enc Tryd.prog w base spare held n' 35 (List.take (Tryd.prog.cellsOf 35) [v0, v1, v2]) = some y0 := hfd 0 _ rfl
  have h1 : DataW.trod enc Tryd.prog w base spare held n' 36 (List.take (Tryd.prog.cellsOf 36) [v2]) = some y1 := hfd 1 _ rfl
  rw [cA] at h0
  rw [c1.2.2.2.1] at h1
  obtain ⟨a, s, e0, hs, hq0⟩ := el_am h0
  obtain ⟨b, ls, e1, hb1, hl1, hl2⟩ := el_ls h1
  cases e0; cases e1
  have hb : Rows.uptoBulk (DataW.agg [y0.1, y1.1]) = Rows.uptoBulk y0.1 + (Rows.uptoBulk y1.1 + 0) + 1 := rfl
  refine ⟨(⟨a, ls⟩, _, _), rfl, hs, hb1, ?_⟩
  show RmQ (Rows.uptoBulk (DataW.agg [y0.1, y1.1])) _
  rw [hb]
  exact ⟨hq0.mono (by omega), by show ls.length ≤ _; omega, fun t ht => (hl2 t ht).mono (by omega)⟩
theorem el_rs {n : Nat} {cs : List Value} {x : DataW H × List MemPlace} (h : DataW.trod enc Tryd.prog w base spare held n 22 cs = some x) : ∃ (s : Value) (rs : List Rm), cs = [s] ∧ RsAt w s rs ∧ rs.length ≤ Rows.uptoBulk x.1 ∧ ∀ t ∈ rs, RmQ (Rows.uptoBulk x.1) t := by
  obtain ⟨d, p⟩ := x
  obtain ⟨a, c, ys, rfl, hr, hq, hl⟩ := slice_open rmC_length (by omega) (fun (r : Rm × Value × Value) N => (TsAt w r.2.1 r.1.head.terms ∧ LsAt w r.2.2 r.1.body) ∧ RmQ N r.1) (fun _ _ _ h1 h2 => ⟨h1.1, h1.2.mono h2⟩) Tryd.underlying22 cR (fun n cs d p h => by obtain ⟨r, h1, h2, h3, h4⟩ := el_rm h; exact ⟨r, h1, ⟨h2, h3⟩, h4⟩) h
  refine ⟨_, ys.map Prod.fst, rfl, ⟨a, c, ys, by rw [List.length_map], rfl, hr, fun y hy => (hq y hy).1⟩, by rw [List.length_map]; exact hl, fun t ht => ?_⟩
  obtain ⟨y, hy, rfl⟩ := List.mem_map.1 ht
  exact (hq y hy).2
/-- a program that a row hands in -/
theorem el_pm {r : Reach} {b0 : Nat} {v : Value} {d : DataW H} {p : List MemPlace} (hv : Value.okWide Tryd.prog w r b0 24 v) (h : DataW.Trod enc Tryd.prog w base spare held 24 v d p) :
    ∃ (s : Value) (rs : List Rm), v = .agg #[s] ∧ RsAt w s rs ∧ rs.length ≤ Rows.uptoBulk d ∧ ∀ t ∈ rs, RmQ (Rows.uptoBulk d) t := by
  obtain ⟨cs, rfl, hsz⟩ := okWide_struct Tryd.underlying24 hv
  obtain ⟨fuel, hf⟩ := h
  obtain ⟨xs, n', rfl, hl, hxl, hfd⟩ := st2 Tryd.underlying24 hf
  rw [cP] at hsz
  obtain ⟨l⟩ := cs
  match l, hsz with
  | [v0], _ =>
  match xs, hxl with
  | [y0], _ =>
  have h0 : DataW.trod enc Tryd.prog w base spare held n' 22 (List.take (Tryd.prog.cellsOf 22) [v0]) = some y0 := hfd 0 _ rfl
  rw [c1.2.2.2.2] at h0
  obtain ⟨s, rs, e0, hs, hl1, hl2⟩ := el_rs h0
  cases e0
  have hb : Rows.uptoBulk (DataW.agg [y0.1]) = Rows.uptoBulk y0.1 + 0 + 1 := rfl
  refine ⟨_, rs, rfl, hs, ?_, fun t ht => ?_⟩
  · show _ ≤ Rows.uptoBulk (DataW.agg [y0.1]); omega
  · show RmQ (Rows.uptoBulk (DataW.agg [y0.1])) t
    exact (hl2 t ht).mono (by omega)
end
end Go.Proofs.YtphgglnkdfndiaaDoor
/- How a rule that a row hands in is opened. -/
namespace Go.Proofs.YtphgglnkdfndiaaDoor
open Go Go.RowKit Go.Mine Go.Joins Go.ChangeShapes Go.WideShapes Go.ChangeAt Go.Deep
set_option linter.unusedVariables false
set_option maxRecDepth 100000

theorem ar_rm {H : Type} {enc : TypeId × Value → H} {w : World} {base : Nat} {spare : Nat → Bool} {held : Bool} {r : Reach} {b0 : Nat} {v : Value} {d : DataW H} {p : List MemPlace} (hv : Value.okWide Tryd.prog w r b0 38 v) (h : DataW.Trod enc Tryd.prog w base spare held 38 v d p) :
    ∃ (q : Rm) (s b : Value), v = rmV q s b ∧ TsAt w s q.head.terms ∧ LsAt w b q.body ∧ RmQ (Rows.uptoBulk d) q := by
  obtain ⟨cs, rfl, hsz⟩ := okWide_struct Tryd.underlying38 hv
  obtain ⟨fuel, hf⟩ := h
  obtain ⟨⟨q, s, b⟩, e, h1, h2, h3⟩ := el_rm hf
  obtain ⟨l⟩ := cs
  have e' : l = rmC (q, s, b) := e
  subst e'
  exact ⟨q, s, b, rfl, h1, h2, h3⟩
theorem RmQ.small {N : Nat} {r : Rm} (h : RmQ N r) (hN : N < 2 ^ 30) : SmallRm r :=
  ⟨⟨by have := h.1.1; omega, by have := h.1.2.1; omega, fun t ht => by have := h.1.2.2 t ht; omega⟩, by have := h.2.1; omega,
    fun l hl => ⟨⟨by have := (h.2.2 l hl).1.1; omega, by have := (h.2.2 l hl).1.2.1; omega, fun t ht => by have := (h.2.2 l hl).1.2.2 t ht; omega⟩, by have := (h.2.2 l hl).2.1; omega, by have := (h.2.2 l hl).2.2; omega⟩⟩
theorem SmallPm.ofQ {N : Nat} {rs : List Rm} (hl : rs.length ≤ N) (hq : ∀ t ∈ rs, RmQ N t) (hN : N < 2 ^ 30) : SmallPm rs := ⟨by omega, fun r hr => (hq r hr).small hN⟩
end Go.Proofs.YtphgglnkdfndiaaDoor
/- How whole numbers, several, that a row hands in are opened. -/
namespace Go.Proofs.YtphgglnkdfndiaaDoor
open Go Go.RowKit Go.Mine Go.Joins Go.ChangeShapes Go.WideShapes Go.ChangeAt Go.Deep
set_option linter.unusedVariables false
set_option maxRecDepth 100000
theorem el_ints {H : Type} {enc : TypeId × Value → H} {w : World} {base : Nat} {spare : Nat → Bool} {held : Bool} {r : Reach} {b0 : Nat} {v : Value} {d : DataW H} {p : List MemPlace} (hv : Value.okWide Tryd.prog w r b0 49 v) (h : DataW.Trod enc Tryd.prog w base spare held 49 v d p) :
    ∃ (a : Option Addr) (c : Nat) (zs : List Int), v = .slice a zs.length c ∧ Rd w a (zs.map fun z => .int .i64 z) ∧ zs.length ≤ Rows.uptoBulk d := by
  obtain ⟨a0, n0, c0, rfl⟩ := okWide_slice Tryd.underlying49 hv
  obtain ⟨fuel, hf⟩ := h
  obtain ⟨a, c, ys, e, hr, hq, hl⟩ := slice_open (f := fun z : Int => [Value.int .i64 z]) (kk := 1) (fun _ => rfl) (by omega) (fun _ _ => True) (fun _ _ _ _ _ => trivial) Tryd.underlying49 c1.1 (fun n cs d p h => by obtain ⟨k, hk⟩ := el_int h; exact ⟨k, hk, trivial⟩) hf
  have e' : Value.slice a0 n0 c0 = .slice a ys.length c := by simpa [Value.cells] using e
  have hm : ∀ l : List Int, l.flatMap (fun z : Int => [Value.int .i64 z]) = l.map fun z => .int .i64 z := by
    intro l
    induction l with
    | nil => rfl
    | cons y l ih => rw [List.flatMap_cons, ih]; rfl
  rw [hm] at hr
  exact ⟨a, c, ys, e', hr, hl⟩
end Go.Proofs.YtphgglnkdfndiaaDoor
