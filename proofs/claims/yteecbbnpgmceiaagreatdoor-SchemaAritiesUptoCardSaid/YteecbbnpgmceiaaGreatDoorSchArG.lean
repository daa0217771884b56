/-
  How an api.Program that a row hands in is opened: terms, atoms, literals, rules out of what memory holds.
-/
import Derived.Test.YteecbbnpgmceiaaGreatDoorClG
import Derived.Test.YteecbbnpgmceiaaGreatDoorData
import Derived.Deep.Slices
import Derived.Lib.SmallJoins
import Derived.Test.YteecbbnpgmceiaaGreatDoorNorm
import Derived.Test.YteecbbnpgmceiaaGreatDoorMayG
import Derived.Test.YteecbbnpgmceiaaGreatDoorCards
import Derived.Test.YteecbbnpgmceiaaGreatDoorTie
import Derived.Test.YteecbbnpgmceiaaGreatDoorLexG
import Derived.Deep.DeepHandedRow
import Derived.Lib.LaidU8
import Derived.MakeChecks
import Derived.Test.YteecbbnpgmceiaaGreatDoorSch6
import Derived.Test.YteecbbnpgmceiaaGreatDoorSAr1
import Derived.Test.YteecbbnpgmceiaaGreatDoorSchAW
namespace Go.Proofs.YteecbbnpgmceiaaGreatDoor
open Go Go.RowKit Go.Mine Go.Joins Go.ChangeShapes Go.WideShapes Go.ChangeAt Go.Deep
set_option linter.unusedVariables false
set_option maxRecDepth 100000

theorem bulk_pos {H : Type} (d : DataW H) : 1 ≤ Rows.uptoBulk d := by
  cases d with
  | lit l => cases l <;> simp [Rows.uptoBulk]
  | _ => simp [Rows.uptoBulk]
theorem bulk_mem {H : Type} {l : List (DataW H)} : ∀ {d : DataW H}, d ∈ l → Rows.uptoBulk d ≤ Rows.uptoBulkAll l := by
  induction l with
  | nil => intro d h; cases h
  | cons x l ih =>
    intro d h
    simp only [Rows.uptoBulkAll]
    rcases List.mem_cons.1 h with rfl | h
    · omega
    · have := ih h; omega
theorem bulk_len {H : Type} (l : List (DataW H)) : l.length ≤ Rows.uptoBulkAll l := by
  induction l with
  | nil => simp
  | cons x l ih => simp only [Rows.uptoBulkAll, List.length_cons]; have := bulk_pos x; omega

section
variable {H : Type} {enc : TypeId × Value → H} {w : World} {base : Nat} {spare : Nat → Bool} {held : Bool}

theorem slice_open {α : Type} {f : α → List Value} {kk : Nat} (hf : ∀ y, (f y).length = kk) (hkk : 0 < kk) (Q : α → Nat → Prop) (hQ : ∀ y a b, Q y a → a ≤ b → Q y b) {t e : TypeId} (ht : Tryz.prog.underlying t = some (.slice e)) (hC : Tryz.prog.cellsOf e = kk)
    (hel : ∀ n cs d p, DataW.trod enc Tryz.prog w base spare held n e cs = some (d, p) → ∃ y, cs = f y ∧ Q y (Rows.uptoBulk (d, p).1)) {fuel : Nat} {cs : List Value} {d : DataW H} {p : List MemPlace} (h : DataW.trod enc Tryz.prog w base spare held fuel t cs = some (d, p)) :
    ∃ (a : Option Addr) (c : Nat) (ys : List α), cs = [.slice a ys.length c] ∧ Rd w a (ys.flatMap f) ∧ (∀ y ∈ ys, Q y (Rows.uptoBulk d)) ∧ ys.length ≤ Rows.uptoBulk d := by
  rcases open_slice ht h with ⟨rfl, he⟩ | ⟨a, len, cap, m, n, D, Pl, rfl, hb, hlc, hcm, hm, hx, hi⟩
  · exact ⟨none, 0, [], rfl, Rd.nil _ _, (fun _ h => by cases h), Nat.zero_le _⟩
  have hlm : len ≤ m := by rw [hm]; split <;> omega
  have hdb : Rows.uptoBulkAll ((List.range len).map D) ≤ Rows.uptoBulk d := by
    simp only [Prod.mk.injEq] at hx
    rw [hx.1]
    simp only [Rows.uptoBulk]
    omega
  have hstep : ∀ i : Fin len, ∃ y, (∀ r u, (f y)[r]? = some u → w.cell? (a.add (i.1 * kk + r)) = some u) ∧ Q y (Rows.uptoBulk (D i.1)) := by
    intro ⟨i, hil⟩
    obtain ⟨cs', hc, htr⟩ := hi i (by omega)
    obtain ⟨y, rfl, hq⟩ := hel _ _ _ _ htr
    refine ⟨y, fun r u hu => ?_, hq⟩
    obtain ⟨_, hcl, hat⟩ := World.cells?_some hc
    rw [hC] at hat
    have hr : r < kk := by rw [← hf y]; exact (List.getElem?_eq_some_iff.1 hu).1
    have := hat r hr
    rw [add_add] at this
    exact this.trans hu
  have hys : ∃ ys : List α, ys.length = len ∧ ∀ i (h : i < len), ∃ y, ys[i]? = some y ∧ (∀ r u, (f y)[r]? = some u → w.cell? (a.add (i * kk + r)) = some u) ∧ Q y (Rows.uptoBulk (D i)) := by
    refine ⟨List.ofFn fun i : Fin len => (hstep i).choose, by simp, fun i h => ⟨(hstep ⟨i, h⟩).choose, by simp [h], (hstep ⟨i, h⟩).choose_spec⟩⟩
  obtain ⟨ys, hl, hy⟩ := hys
  refine ⟨some a, cap, ys, by rw [hl], ?_, ?_, ?_⟩
  · refine Rd.ofAdd fun i u hu => ?_
    have hlen : i < ys.length * kk := by
      have := (List.getElem?_eq_some_iff.1 hu).1
      rwa [flat_len hf] at this
    have hq : i / kk < len := by
      rw [← hl]; exact Nat.div_lt_of_lt_mul (by rw [Nat.mul_comm]; exact hlen)
    have hr : i % kk < kk := Nat.mod_lt _ hkk
    obtain ⟨y, hy1, hy2, _⟩ := hy _ hq
    have e : i / kk * kk + i % kk = i := Nat.div_add_mod' i kk
    have h1 := flat_get (xs := ys) (j := i % kk) hf hy1 hr
    rw [e] at h1
    have h2 := hy2 (i % kk) u (by rw [← h1]; exact hu)
    rw [e] at h2
    exact h2
  · intro y hm
    obtain ⟨i, hi, rfl⟩ := List.getElem_of_mem hm
    obtain ⟨y, hy1, _, hy3⟩ := hy i (by omega)
    rw [List.getElem?_eq_getElem hi] at hy1
    cases hy1
    refine hQ _ _ _ hy3 (Nat.le_trans (bulk_mem (List.mem_map.2 ⟨i, List.mem_range.2 (by omega), rfl⟩)) hdb)
  · rw [hl]
    have := bulk_len ((List.range len).map D)
    simp at this
    omega

theorem el_string {n : Nat} {cs : List Value} {x : DataW H × List MemPlace} (h : DataW.trod enc Tryz.prog w base spare held n 9 cs = some x) : ∃ s : ByteArray, cs = [.string s] ∧ s.size ≤ Rows.uptoBulk x.1 := by
  obtain ⟨s, rfl, rfl, _⟩ := DataW.trod_string Tryz.underlying9 h
  exact ⟨s, rfl, by simp only [Rows.uptoBulk]; rw [← Lib.size_eq]; omega⟩
theorem el_int {n : Nat} {cs : List Value} {x : DataW H × List MemPlace} (h : DataW.trod enc Tryz.prog w base spare held n 3 cs = some x) : ∃ k : Int, cs = [.int .i64 k] := by
  obtain ⟨k, rfl, _⟩ := DataW.trod_int Tryz.underlying3 h
  exact ⟨k, rfl⟩
theorem c1 : Tryz.prog.cellsOf 3 = 1 ∧ Tryz.prog.cellsOf 9 = 1 ∧ Tryz.prog.cellsOf 41 = 1 ∧ Tryz.prog.cellsOf 44 = 1 ∧ Tryz.prog.cellsOf 22 = 1 := by
  refine ⟨?_, ?_, ?_, ?_, ?_⟩ <;> kernel_rfl
theorem c2 : Tryz.prog.cellsOf 100 = 2 := by kernel_rfl
theorem cA : Tryz.prog.cellsOf 43 = 2 := by kernel_rfl
theorem cL : Tryz.prog.cellsOf 102 = 8 := by kernel_rfl
theorem cR : Tryz.prog.cellsOf 46 = 3 := by kernel_rfl
theorem cP : Tryz.prog.cellsOf 24 = 1 := by kernel_rfl
theorem st2 {t : TypeId} {fs : Array Field} {n : Nat} {cs : List Value} {d : DataW H} {p : List MemPlace} (ht : Tryz.prog.underlying t = some (.struct fs)) (h : DataW.trod enc Tryz.prog w base spare held n t cs = some (d, p)) :
    ∃ (xs : List (DataW H × List MemPlace)) (n' : Nat), d = .agg (xs.map (·.1)) ∧ cs.length = Tryz.prog.cellsOf t ∧ xs.length = fs.size ∧ ∀ (i : Nat) (f : Field), fs[i]? = some f → DataW.trod enc Tryz.prog w base spare held n' f.type ((cs.drop f.offset).take (Tryz.prog.cellsOf f.type)) = xs[i]? := by
  obtain ⟨xs, n', _, hx, hl, hxl, hfd⟩ := DataW.trod_struct ht h
  exact ⟨xs, n', congrArg Prod.fst hx, hl, hxl, hfd⟩
theorem el_tm {n : Nat} {cs : List Value} {x : DataW H × List MemPlace} (h : DataW.trod enc Tryz.prog w base spare held n 100 cs = some x) : ∃ t : Tm, cs = tmC t ∧ t.text.size ≤ Rows.uptoBulk x.1 := by
  obtain ⟨d, p⟩ := x
  obtain ⟨xs, n', rfl, hl, hxl, hfd⟩ := st2 Tryz.underlying100 h
  rw [c2] at hl
  match cs, hl with
  | [v0, v1], _ =>
  match xs, hxl with
  | [y0, y1], _ =>
  have h0 : DataW.trod enc Tryz.prog w base spare held n' 3 (List.take (Tryz.prog.cellsOf 3) [v0, v1]) = some y0 := hfd 0 _ rfl
  have h1 : DataW.trod enc Tryz.prog w base spare held n' 9 (List.take (Tryz.prog.cellsOf 9) [v1]) = some y1 := hfd 1 _ rfl
  rw [c1.1] at h0
  rw [c1.2.1] at h1
  obtain ⟨k, e0⟩ := el_int h0
  obtain ⟨s, e1, hs⟩ := el_string h1
  cases e0; cases e1
  refine ⟨⟨k, s⟩, rfl, ?_⟩
  show s.size ≤ Rows.uptoBulkAll [y0.1, y1.1] + 1
  simp only [Rows.uptoBulkAll]
  omega
def AmQ (N : Nat) (a : Am) : Prop := a.pred.size ≤ N ∧ a.terms.length ≤ N ∧ ∀ t ∈ a.terms, t.text.size ≤ N
def LmQ (N : Nat) (l : Lm) : Prop := AmQ N l.atom ∧ l.left.text.size ≤ N ∧ l.right.text.size ≤ N
def RmQ (N : Nat) (r : Rm) : Prop := AmQ N r.head ∧ r.body.length ≤ N ∧ ∀ l ∈ r.body, LmQ N l
theorem AmQ.mono {a b : Nat} {x : Am} (h : AmQ a x) (hab : a ≤ b) : AmQ b x := ⟨by have := h.1; omega, by have := h.2.1; omega, fun t ht => by have := h.2.2 t ht; omega⟩
theorem LmQ.mono {a b : Nat} {x : Lm} (h : LmQ a x) (hab : a ≤ b) : LmQ b x := ⟨h.1.mono hab, by have := h.2.1; omega, by have := h.2.2; omega⟩
theorem RmQ.mono {a b : Nat} {x : Rm} (h : RmQ a x) (hab : a ≤ b) : RmQ b x := ⟨h.1.mono hab, by have := h.2.1; omega, fun t ht => (h.2.2 t ht).mono hab⟩
theorem el_ts {n : Nat} {cs : List Value} {x : DataW H × List MemPlace} (h : DataW.trod enc Tryz.prog w base spare held n 41 cs = some x) : ∃ (s : Value) (ts : List Tm), cs = [s] ∧ TsAt w s ts ∧ ts.length ≤ Rows.uptoBulk x.1 ∧ ∀ t ∈ ts, t.text.size ≤ Rows.uptoBulk x.1 := by
  obtain ⟨d, p⟩ := x
  obtain ⟨a, c, ts, rfl, hr, hq, hl⟩ := slice_open tmC_length (by omega) (fun (t : Tm) N => t.text.size ≤ N) (fun _ _ _ h1 h2 => Nat.le_trans h1 h2) Tryz.underlying41 c2 (fun n cs d p h => el_tm h) h
  exact ⟨_, ts, rfl, ⟨a, c, rfl, hr⟩, hl, hq⟩
theorem el_am {n : Nat} {cs : List Value} {x : DataW H × List MemPlace} (h : DataW.trod enc Tryz.prog w base spare held n 43 cs = some x) : ∃ (a : Am) (s : Value), cs = [.string a.pred, s] ∧ TsAt w s a.terms ∧ AmQ (Rows.uptoBulk x.1) a := by
  obtain ⟨d, p⟩ := x
  obtain ⟨xs, n', rfl, hl, hxl, hfd⟩ := st2 Tryz.underlying43 h
  rw [cA] at hl
  match cs, hl with
  | [v0, v1], _ =>
  match xs, hxl with
  | [y0, y1], _ =>
  have h0 : DataW.trod enc Tryz.prog w base spare held n' 9 (List.take (Tryz.prog.cellsOf 9) [v0, v1]) = some y0 := hfd 0 _ rfl
  have h1 : DataW.trod enc Tryz.prog w base spare held n' 41 (List.take (Tryz.prog.cellsOf 41) [v1]) = some y1 := hfd 1 _ rfl
  rw [c1.2.1] at h0
  rw [c1.2.2.1] at h1
  obtain ⟨k, e0, hk⟩ := el_string h0
  obtain ⟨s, ts, e1, hs, hl1, hl2⟩ := el_ts h1
  cases e0; cases e1
  have hb : Rows.uptoBulk (DataW.agg [y0.1, y1.1]) = Rows.uptoBulk y0.1 + (Rows.uptoBulk y1.1 + 0) + 1 := rfl
  refine ⟨⟨k, ts⟩, _, rfl, hs, ?_⟩
  show AmQ (Rows.uptoBulk (DataW.agg [y0.1, y1.1])) _
  rw [hb]
  exact ⟨by show k.size ≤ _; omega, by show ts.length ≤ _; omega, fun t ht => by have := hl2 t ht; omega⟩
theorem el_lm {n : Nat} {cs : List Value} {x : DataW H × List MemPlace} (h : DataW.trod enc Tryz.prog w base spare held n 102 cs = some x) : ∃ l : Lm × Value, cs = lmC l ∧ TsAt w l.2 l.1.atom.terms ∧ LmQ (Rows.uptoBulk x.1) l.1 := by
  obtain ⟨d, p⟩ := x
  obtain ⟨xs, n', rfl, hl, hxl, hfd⟩ := st2 Tryz.underlying102 h
  rw [cL] at hl
  match cs, hl with
  | [v0, v1, v2, v3, v4, v5, v6, v7], _ =>
  match xs, hxl with
  | [y0, y1, y2, y3, y4], _ =>
  have h0 : DataW.trod enc Tryz.prog w base spare held n' 3 (List.take (Tryz.prog.cellsOf 3) [v0, v1, v2, v3, v4, v5, v6, v7]) = some y0 := hfd 0 _ rfl
  have h1 : DataW.trod enc Tryz.prog w base spare held n' 43 (List.take (Tryz.prog.cellsOf 43) [v1, v2, v3, v4, v5, v6, v7]) = some y1 := hfd 1 _ rfl
  have h2 : DataW.trod enc Tryz.prog w base spare held n' 3 (List.take (Tryz.prog.cellsOf 3) [v3, v4, v5, v6, v7]) = some y2 := hfd 2 _ rfl
  have h3 : DataW.trod enc Tryz.prog w base spare held n' 100 (List.take (Tryz.prog.cellsOf 100) [v4, v5, v6, v7]) = some y3 := hfd 3 _ rfl
  have h4 : DataW.trod enc Tryz.prog w base spare held n' 100 (List.take (Tryz.prog.cellsOf 100) [v6, v7]) = some y4 := hfd 4 _ rfl
  rw [c1.1] at h0 h2
  rw [cA] at h1
  rw [c2] at h3 h4
  obtain ⟨k0, e0⟩ := el_int h0
  obtain ⟨a, s, e1, hs, hq1⟩ := el_am h1
  obtain ⟨k2, e2⟩ := el_int h2
  obtain ⟨t3, e3, hq3⟩ := el_tm h3
  obtain ⟨t4, e4, hq4⟩ := el_tm h4
  cases e0; cases e1; cases e2; cases e3; cases e4
  have hb : Rows.uptoBulk (DataW.agg [y0.1, y1.1, y2.1, y3.1, y4.1]) = Rows.uptoBulk y0.1 + (Rows.uptoBulk y1.1 + (Rows.uptoBulk y2.1 + (Rows.uptoBulk y3.1 + (Rows.uptoBulk y4.1 + 0)))) + 1 := rfl
  refine ⟨(⟨k0, a, k2, t3, t4⟩, _), rfl, hs, ?_⟩
  show LmQ (Rows.uptoBulk (DataW.agg [y0.1, y1.1, y2.1, y3.1, y4.1])) _
  rw [hb]
  exact ⟨hq1.mono (by omega), by show t3.text.size ≤ _; omega, by show t4.text.size ≤ _; omega⟩
theorem el_ls {n : Nat} {cs : List Value} {x : DataW H × List MemPlace} (h : DataW.trod enc Tryz.prog w base spare held n 44 cs = some x) : ∃ (s : Value) (ls : List Lm), cs = [s] ∧ LsAt w s ls ∧ ls.length ≤ Rows.uptoBulk x.1 ∧ ∀ t ∈ ls, LmQ (Rows.uptoBulk x.1) t := by
  obtain ⟨d, p⟩ := x
  obtain ⟨a, c, ys, rfl, hr, hq, hl⟩ := slice_open lmC_length (by omega) (fun (l : Lm × Value) N => TsAt w l.2 l.1.atom.terms ∧ LmQ N l.1) (fun _ _ _ h1 h2 => ⟨h1.1, h1.2.mono h2⟩) Tryz.underlying44 cL (fun n cs d p h => el_lm h) h
  refine ⟨_, ys.map Prod.fst, rfl, ⟨a, c, ys, by rw [List.length_map], rfl, hr, fun y hy => (hq y hy).1⟩, by rw [List.length_map]; exact hl, fun t ht => ?_⟩
  obtain ⟨y, hy, rfl⟩ := List.mem_map.1 ht
  exact (hq y hy).2
theorem el_rm {n : Nat} {cs : List Value} {x : DataW H × List MemPlace} (h : DataW.trod enc Tryz.prog w base spare held n 46 cs = some x) : ∃ r : Rm × Value × Value, cs = rmC r ∧ TsAt w r.2.1 r.1.head.terms ∧ LsAt w r.2.2 r.1.body ∧ RmQ (Rows.uptoBulk x.1) r.1 := by
  obtain ⟨d, p⟩ := x
  obtain ⟨xs, n', rfl, hl, hxl, hfd⟩ := st2 Tryz.underlying46 h
  rw [cR] at hl
  match cs, hl with
  | [v0, v1, v2], _ =>
  match xs, hxl with
  | [y0, y1], _ =>
  have h0 : DataW.trod enc Tryz.prog w base spare held n' 43 (List.take (Tryz.prog.cellsOf 43) [v0, v1, v2]) = some y0 := hfd 0 _ rfl
  have h1 : DataW.trod enc Tryz.prog w base spare held n' 44 (List.take (Tryz.prog.cellsOf 44) [v2]) = some y1 := hfd 1 _ rfl
  rw [cA] at h0
  rw [c1.2.2.2.1] at h1
  obtain ⟨a, s, e0, hs, hq0⟩ := el_am h0
  obtain ⟨b, ls, e1, hb1, hl1, hl2⟩ := el_ls h1
  cases e0; cases e1
  have hb : Rows.uptoBulk (DataW.agg [y0.1, y1.1]) = Rows.uptoBulk y0.1 + (Rows.uptoBulk y1.1 + 0) + 1 := rfl
  refine ⟨(⟨a, ls⟩, _, _), rfl, hs, hb1, ?_⟩
  show RmQ (Rows.uptoBulk (DataW.agg [y0.1, y1.1])) _
  rw [hb]
  exact ⟨hq0.mono (by omega), by show ls.length ≤ _; omega, fun t ht => (hl2 t ht).mono (by omega)⟩
theorem el_rs {n : Nat} {cs : List Value} {x : DataW H × List MemPlace} (h : DataW.trod enc Tryz.prog w base spare held n 22 cs = some x) : ∃ (s : Value) (rs : List Rm), cs = [s] ∧ RsAt w s rs ∧ rs.length ≤ Rows.uptoBulk x.1 ∧ ∀ t ∈ rs, RmQ (Rows.uptoBulk x.1) t := by
  obtain ⟨d, p⟩ := x
  obtain ⟨a, c, ys, rfl, hr, hq, hl⟩ := slice_open rmC_length (by omega) (fun (r : Rm × Value × Value) N => (TsAt w r.2.1 r.1.head.terms ∧ LsAt w r.2.2 r.1.body) ∧ RmQ N r.1) (fun _ _ _ h1 h2 => ⟨h1.1, h1.2.mono h2⟩) Tryz.underlying22 cR (fun n cs d p h => by obtain ⟨r, h1, h2, h3, h4⟩ := el_rm h; exact ⟨r, h1, ⟨h2, h3⟩, h4⟩) h
  refine ⟨_, ys.map Prod.fst, rfl, ⟨a, c, ys, by rw [List.length_map], rfl, hr, fun y hy => (hq y hy).1⟩, by rw [List.length_map]; exact hl, fun t ht => ?_⟩
  obtain ⟨y, hy, rfl⟩ := List.mem_map.1 ht
  exact (hq y hy).2
/-- a program that a row hands in -/
theorem el_pm {r : Reach} {b0 : Nat} {v : Value} {d : DataW H} {p : List MemPlace} (hv : Value.okWide Tryz.prog w r b0 24 v) (h : DataW.Trod enc Tryz.prog w base spare held 24 v d p) :
    ∃ (s : Value) (rs : List Rm), v = .agg #[s] ∧ RsAt w s rs ∧ rs.length ≤ Rows.uptoBulk d ∧ ∀ t ∈ rs, RmQ (Rows.uptoBulk d) t := by
  obtain ⟨cs, rfl, hsz⟩ := okWide_struct Tryz.underlying24 hv
  obtain ⟨fuel, hf⟩ := h
  obtain ⟨xs, n', rfl, hl, hxl, hfd⟩ := st2 Tryz.underlying24 hf
  rw [cP] at hsz
  obtain ⟨l⟩ := cs
  match l, hsz with
  | [v0], _ =>
  match xs, hxl with
  | [y0], _ =>
  have h0 : DataW.trod enc Tryz.prog w base spare held n' 22 (List.take (Tryz.prog.cellsOf 22) [v0]) = some y0 := hfd 0 _ rfl
  rw [c1.2.2.2.2] at h0
  obtain ⟨s, rs, e0, hs, hl1, hl2⟩ := el_rs h0
  cases e0
  have hb : Rows.uptoBulk (DataW.agg [y0.1]) = Rows.uptoBulk y0.1 + 0 + 1 := rfl
  refine ⟨_, rs, rfl, hs, ?_, fun t ht => ?_⟩
  · show _ ≤ Rows.uptoBulk (DataW.agg [y0.1]); omega
  · show RmQ (Rows.uptoBulk (DataW.agg [y0.1])) t
    exact (hl2 t ht).mono (by omega)
end
end Go.Proofs.YteecbbnpgmceiaaGreatDoor
/- How a rule that a row hands in is opened. -/
namespace Go.Proofs.YteecbbnpgmceiaaGreatDoor
open Go Go.RowKit Go.Mine Go.Joins Go.ChangeShapes Go.WideShapes Go.ChangeAt Go.Deep
set_option linter.unusedVariables false
set_option maxRecDepth 100000

theorem ar_rm {H : Type} {enc : TypeId × Value → H} {w : World} {base : Nat} {spare : Nat → Bool} {held : Bool} {r : Reach} {b0 : Nat} {v : Value} {d : DataW H} {p : List MemPlace} (hv : Value.okWide Tryz.prog w r b0 46 v) (h : DataW.Trod enc Tryz.prog w base spare held 46 v d p) :
    ∃ (q : Rm) (s b : Value), v = rmV q s b ∧ TsAt w s q.head.terms ∧ LsAt w b q.body ∧ RmQ (Rows.uptoBulk d) q := by
  obtain ⟨cs, rfl, hsz⟩ := okWide_struct Tryz.underlying46 hv
  obtain ⟨fuel, hf⟩ := h
  obtain ⟨⟨q, s, b⟩, e, h1, h2, h3⟩ := el_rm hf
  obtain ⟨l⟩ := cs
  have e' : l = rmC (q, s, b) := e
  subst e'
  exact ⟨q, s, b, rfl, h1, h2, h3⟩
theorem RmQ.small {N : Nat} {r : Rm} (h : RmQ N r) (hN : N < 2 ^ 30) : SmallRm r :=
  ⟨⟨by have := h.1.1; omega, by have := h.1.2.1; omega, fun t ht => by have := h.1.2.2 t ht; omega⟩, by have := h.2.1; omega,
    fun l hl => ⟨⟨by have := (h.2.2 l hl).1.1; omega, by have := (h.2.2 l hl).1.2.1; omega, fun t ht => by have := (h.2.2 l hl).1.2.2 t ht; omega⟩, by have := (h.2.2 l hl).2.1; omega, by have := (h.2.2 l hl).2.2; omega⟩⟩
theorem SmallPm.ofQ {N : Nat} {rs : List Rm} (hl : rs.length ≤ N) (hq : ∀ t ∈ rs, RmQ N t) (hN : N < 2 ^ 30) : SmallPm rs := ⟨by omega, fun r hr => (hq r hr).small hN⟩
end Go.Proofs.YteecbbnpgmceiaaGreatDoor
/-
  What the cards of lex share: the tables of utf8 out of the row's list; a world that holds them.
-/
namespace Go.Proofs.YteecbbnpgmceiaaGreatDoor
open Go Go.RowKit Go.Mine Go.ChangeShapes Go.WideShapes Go.ChangeAt Go.Shelf
set_option linter.unusedVariables false

theorem lays260 : Lays.n260 Tryz.prog lays197_ren :=
  have L := lays197
  { mixed := L.mixed, f260 := L.f260, t0 := L.t0, a0 := L.a0, z0 := L.z0, v0 := L.v0, t3 := L.t3, a3 := L.a3, z3 := L.z3, v3 := L.v3, t4 := L.t4, a4 := L.a4, z4 := L.z4, v4 := L.v4, t5 := L.t5, a5 := L.a5, z5 := L.z5, v5 := L.v5, t9 := L.t9, a9 := L.a9, z9 := L.z9, v9 := L.v9, t21 := L.t21, a21 := L.a21, z21 := L.z21, v21 := L.v21, t46 := L.t46, a46 := L.a46, z46 := L.z46, v46 := L.v46, t119 := L.t119, a119 := L.a119, z119 := L.z119, t138 := L.t138, a138 := L.a138, z138 := L.z138, v138 := L.v138, t139 := L.t139, a139 := L.a139, z139 := L.z139, v139 := L.v139, g3 := L.g3, g4 := L.g4 }
theorem u8x : U8Extra Tryz.prog lays197_ren where
  n3 := by kernel_rfl
  n4 := by kernel_rfl
  y3 := by kernel_rfl
  y4 := by kernel_rfl
  c5 := by kernel_rfl
  c119 := by kernel_rfl
  c138 := by kernel_rfl
/-- what the rows of this seat list -/
def laidL : List (String × DataW Unit) := [("unicode/utf8.acceptRanges", Rows.laid_unicode_utf8_acceptRanges), ("unicode/utf8.first", Rows.laid_unicode_utf8_first)]
theorem first_eq : Rows.laid_unicode_utf8_first = Lib.firstData := by kernel_rfl
theorem accept_eq : (Rows.laid_unicode_utf8_acceptRanges : DataW Unit) = Lib.acceptData := by kernel_rfl
theorem tabs_of_laid {W : World} (h : laidMetH Tryz.prog laidL W) : Lib.Utf8Tabs 1 2 W := by
  rw [MakeChecks.laidMetH_plain _ _ _ (by kernel_rfl)] at h
  have h3 := Lib.laidMet.reads h (n := "unicode/utf8.first") (d := Rows.laid_unicode_utf8_first) (.tail _ (.head _))
  have h4 := Lib.laidMet.reads h (n := "unicode/utf8.acceptRanges") (d := Rows.laid_unicode_utf8_acceptRanges) (.head _)
  rw [first_eq] at h3
  rw [accept_eq] at h4
  exact utf8Tabs_of_reads lays260 u8x h3 h4
def layCells (cs : Array Value) : Obj → Obj
  | .cells _ t frozen => .cells cs t frozen
  | o => o
def laidHeap (h : Array Obj) : Array Obj :=
  (h.modify 1 (layCells (Lib.firstTab.map fun z => Value.int .u8 z).toArray)).modify 2 (layCells ((List.range 16).flatMap fun i => [Value.int .u8 (Lib.accLo i), Value.int .u8 (Lib.accHi i)]).toArray)
/-- a world for the witness -/
noncomputable def laidWorld (os : Os) : World :=
  { World.holding Tryz.prog os ⟨#[], #[], []⟩ with heap := laidHeap (World.holding Tryz.prog os ⟨#[], #[], []⟩).heap }
theorem laid_met (os : Os) (args : Array Value) : laidMet Tryz.prog laidL ((laidWorld os).forCall (fun _ _ => 0) ⟨#[], args, []⟩).memory :=
  laidMet_of_run' 8 (by kernel_rfl) (by kernel_rfl)
end Go.Proofs.YteecbbnpgmceiaaGreatDoor
/- How a row's arguments are opened: bytes, an int. -/
namespace Go.Proofs.YteecbbnpgmceiaaGreatDoor
open Go Go.RowKit Go.Mine Go.ChangeShapes Go.WideShapes Go.ChangeAt
set_option linter.unusedVariables false
set_option maxRecDepth 100000

theorem arg_bytes {H : Type} {enc : TypeId × Value → H} {W : World} {a0 : Option Addr} {len cap : Nat} {d : DataW H} {p : List MemPlace} (h : DataW.Trod enc Tryz.prog W 0 (fun _ => true) true 34 (.slice a0 len cap) d p) :
    ∃ l : List UInt8, l.length = len ∧ Rd W a0 (bts l) ∧ l.length ≤ Rows.uptoBulk d := by
  obtain ⟨fuel, hf⟩ := h
  rcases open_ints Tryz.underlying34 Tryz.underlying5 (by kernel_rfl) hf with ⟨hcs, hx⟩ | ⟨a, len', cap', zs, hcs, _, hl, hm, hz, hx, hcell, hws⟩
  · simp [Value.cells] at hcs
    obtain ⟨rfl, rfl, rfl⟩ := hcs
    exact ⟨[], rfl, Rd.nil _ _, Nat.zero_le _⟩
  · simp [Value.cells] at hcs
    obtain ⟨rfl, rfl, rfl⟩ := hcs
    simp only [Prod.mk.injEq] at hx
    obtain ⟨rfl, _⟩ := hx
    simp only [if_true] at hz
    have b1 := bulk_ints (H := H) .u8 (zs.take len)
    have hlen : (zs.take len).length = len := by rw [List.length_take, hz]; omega
    have hrd : Rd W (some a) (bts (u8s (zs.take len))) := Rd.ofBytes hcell hws
    refine ⟨u8s (zs.take len), by rw [u8s_length, hlen], hrd, ?_⟩
    rw [u8s_length]
    simp only [Rows.uptoBulk]
    omega
theorem arg_int {H : Type} {enc : TypeId × Value → H} {W : World} {v : Value} {r : Reach} {b0 : Nat} {d : DataW H} {p : List MemPlace} (hv : Value.okWide Tryz.prog W r b0 3 v) (h : DataW.Trod enc Tryz.prog W 0 (fun _ => true) true 3 v d p) :
    ∃ z : Int, v = .int .i64 z ∧ d = .lit (.int .i64 z) ∧ p = [] ∧ (-9223372036854775808 ≤ z ∧ z ≤ 9223372036854775807) := by
  obtain ⟨n, h1, h2, h3, h4⟩ := open_int Tryz.underlying3 hv h
  refine ⟨n, h1, h2, h3, ?_⟩
  simp [Lit.wf] at h4
  have hm : IntKind.i64.min = -9223372036854775808 := by decide
  rw [hm] at h4
  exact h4
end Go.Proofs.YteecbbnpgmceiaaGreatDoor
/- Of a program that a row hands in: its list of rules is no longer than its room; its sizes. -/
namespace Go.Proofs.YteecbbnpgmceiaaGreatDoor
open Go Go.RowKit Go.Mine Go.Joins Go.ChangeShapes Go.WideShapes Go.ChangeAt Go.Deep
set_option linter.unusedVariables false
set_option maxRecDepth 100000

theorem pm_cap {H : Type} {enc : TypeId × Value → H} {w : World} {base : Nat} {spare : Nat → Bool} {held : Bool} {r : Reach} {b0 : Nat} {v : Value} {d : DataW H} {p : List MemPlace} (hv : Value.okWide Tryz.prog w r b0 24 v) (h : DataW.Trod enc Tryz.prog w base spare held 24 v d p) :
    ∀ s, v = .agg #[s] → ∀ a n c, s = .slice a n c → n ≤ c := by
  obtain ⟨cs, rfl, hsz⟩ := okWide_struct Tryz.underlying24 hv
  obtain ⟨fuel, hf⟩ := h
  obtain ⟨xs, n', rfl, hl, hxl, hfd⟩ := st2 Tryz.underlying24 hf
  rw [cP] at hsz
  obtain ⟨l⟩ := cs
  match l, hsz with
  | [v0], _ =>
  match xs, hxl with
  | [y0], _ =>
  have h0 : DataW.trod enc Tryz.prog w base spare held n' 22 (List.take (Tryz.prog.cellsOf 22) [v0]) = some y0 := hfd 0 _ rfl
  rw [c1.2.2.2.2] at h0
  intro s hs a n c hsl
  simp only [Value.agg.injEq, Array.mk.injEq, List.cons.injEq, and_true] at hs
  subst hs
  subst hsl
  rcases open_slice Tryz.underlying22 h0 with ⟨e, _⟩ | ⟨a', len, cap, m, n2, D, Pl, e, hb, hlc, _⟩
  · simp at e; obtain ⟨_, rfl, rfl⟩ := e; exact Nat.le_refl _
  · simp at e; obtain ⟨_, rfl, rfl⟩ := e; exact hlc
theorem schOk_ofQ {N : Nat} {r : Rm} (h : RmQ N r) (hN : N ≤ 2 ^ 20) : SchOk r := by
  have h1 := h.1.1; have h2 := h.1.2.1; have h3 := h.2.1
  exact ⟨h.small (by omega), ⟨⟨by unfold maxLen; omega, by omega⟩, by omega, fun l hl => ⟨by have := (h.2.2 l hl).1.1; unfold maxLen; omega, by have := (h.2.2 l hl).1.2.1; omega⟩⟩, by omega, by omega, fun l hl => by have := (h.2.2 l hl).1.2.1; omega⟩
end Go.Proofs.YteecbbnpgmceiaaGreatDoor
/- How relations that a row hands in are opened: names, arities, the headers of their rows. -/
namespace Go.Proofs.YteecbbnpgmceiaaGreatDoor
open Go Go.RowKit Go.Mine Go.Joins Go.ChangeShapes Go.WideShapes Go.ChangeAt Go.Deep
set_option linter.unusedVariables false
set_option maxRecDepth 100000
section
variable {H : Type} {enc : TypeId × Value → H} {w : World} {base : Nat} {spare : Nat → Bool} {held : Bool}
theorem el_int64 {n : Nat} {cs : List Value} {x : DataW H × List MemPlace} (h : DataW.trod enc Tryz.prog w base spare held n 3 cs = some x) : ∃ k : Int, cs = [.int .i64 k] ∧ In64 k := by
  obtain ⟨k, rfl, hd⟩ := DataW.trod_int Tryz.underlying3 h
  refine ⟨k, rfl, ?_⟩
  have h4 := hd.2
  simp [Lit.wf] at h4
  have hm : IntKind.i64.min = -9223372036854775808 := by decide
  rw [hm] at h4
  exact h4
theorem cRe : Tryz.prog.cellsOf 60 = 3 := by kernel_rfl
theorem cRows : Tryz.prog.cellsOf 58 = 1 := by kernel_rfl
def ReQ (N : Nat) (x : Re) : Prop := x.1.size ≤ N ∧ In64 x.2.1
theorem el_re {n : Nat} {cs : List Value} {x : DataW H × List MemPlace} (h : DataW.trod enc Tryz.prog w base spare held n 60 cs = some x) : ∃ y : Re, cs = reC y ∧ ReQ (Rows.uptoBulk x.1) y := by
  obtain ⟨d, p⟩ := x
  obtain ⟨xs, n', rfl, hl, hxl, hfd⟩ := st2 Tryz.underlying60 h
  rw [cRe] at hl
  match cs, hl with
  | [v0, v1, v2], _ =>
  match xs, hxl with
  | [y0, y1, y2], _ =>
  have h0 : DataW.trod enc Tryz.prog w base spare held n' 9 (List.take (Tryz.prog.cellsOf 9) [v0, v1, v2]) = some y0 := hfd 0 _ rfl
  have h1 : DataW.trod enc Tryz.prog w base spare held n' 3 (List.take (Tryz.prog.cellsOf 3) [v1, v2]) = some y1 := hfd 1 _ rfl
  have h2 : DataW.trod enc Tryz.prog w base spare held n' 58 (List.take (Tryz.prog.cellsOf 58) [v2]) = some y2 := hfd 2 _ rfl
  rw [c1.2.1] at h0
  rw [c1.1] at h1
  rw [cRows] at h2
  obtain ⟨k, e0, hk⟩ := el_string h0
  obtain ⟨z, e1, hz⟩ := el_int64 h1
  have e2 : ∃ a n c, v2 = .slice a n c := by
    rcases open_slice Tryz.underlying58 h2 with ⟨e, _⟩ | ⟨a', len, cap, m, n2, D, Pl, e, _⟩
    · simp at e; exact ⟨_, _, _, e⟩
    · simp at e; exact ⟨_, _, _, e⟩
  obtain ⟨a, m, c, rfl⟩ := e2
  cases e0; cases e1
  refine ⟨(k, z, a, m, c), rfl, ?_, hz⟩
  have hb : Rows.uptoBulk (DataW.agg [y0.1, y1.1, y2.1]) = Rows.uptoBulk y0.1 + (Rows.uptoBulk y1.1 + (Rows.uptoBulk y2.1 + 0)) + 1 := rfl
  show k.size ≤ Rows.uptoBulk (DataW.agg [y0.1, y1.1, y2.1])
  rw [hb]; omega
theorem el_res {r : Reach} {b0 : Nat} {v : Value} {d : DataW H} {p : List MemPlace} (hv : Value.okWide Tryz.prog w r b0 57 v) (h : DataW.Trod enc Tryz.prog w base spare held 57 v d p) :
    ∃ (a : Option Addr) (c : Nat) (ls : List Re), v = .slice a ls.length c ∧ Rd w a (resC ls) ∧ ls.length ≤ Rows.uptoBulk d ∧ ∀ x ∈ ls, ReQ (Rows.uptoBulk d) x := by
  obtain ⟨a0, n0, c0, rfl⟩ := okWide_slice Tryz.underlying57 hv
  obtain ⟨fuel, hf⟩ := h
  obtain ⟨a, c, ys, e, hr, hq, hl⟩ := slice_open reC_length (by omega) (fun (y : Re) N => ReQ N y) (fun _ _ _ h1 h2 => ⟨Nat.le_trans h1.1 h2, h1.2⟩) Tryz.underlying57 cRe (fun n cs d p h => el_re h) hf
  have e' : Value.slice a0 n0 c0 = .slice a ys.length c := by simpa [Value.cells] using e
  exact ⟨a, c, ys, e', hr, hl, hq⟩
end
end Go.Proofs.YteecbbnpgmceiaaGreatDoor
/- SchemaArities answers true, where what it reads is of bulk at most 1048576; the variables that its row lists are tied to the text by the card. -/
namespace Go.Proofs.YteecbbnpgmceiaaGreatDoor.schemaArities
open Go Go.RowKit Go.Mine Go.ChangeShapes Go.WideShapes Go.ChangeAt
set_option linter.unusedVariables false

set_option maxRecDepth 100000 in
theorem contract (H : Type) (enc : TypeId × Value → H) (W : World) (base : Nat) (args : Array Value) (ds gs : List (DataW H)) (before : List MemPlace)
    (hval : ∀ (j : Nat) t v, Tryz.f5.params[j]? = some t → args[j]? = some v → Value.okWide Tryz.prog W .any base t v)
    (hW : DataW.Whole enc Tryz.prog Tryz.f5.params.toList Rows.schemaAritiesSpec.vars false W args.toList ds gs before) (hk : Rows.uptoSmall H (ds ++ gs) = true)
    (hL : laidMetH Tryz.prog laidL W) :
    Calls Tryz.prog 5 args W fun e W' => ∃ v, e = .returned v ∧ Rows.schemaAritiesSpec.post enc Tryz.prog Tryz.f5 false true false false W args v W' := by
  have hW' := hW
  have hbulk := bulk_bound hk
  have hT := tabs_of_laid hL
  obtain ⟨p, q, hA0, hV, rfl, hfz, hnd⟩ := hW
  have hA : DataW.TrodAll enc Tryz.prog W 0 (fun _ => true) true Tryz.f5.params.toList args.toList ds p := hA0
  rw [Tryz.params5] at hA hval
  obtain ⟨v0, v1, d0, d1, p0, p1, rfl, rfl, rfl, h0, h1⟩ := trodAll_two hA
  obtain ⟨rfl, rfl⟩ := trodVars_none hV
  obtain ⟨s0, rs0, rfl, hr0, hl0, hb0⟩ := el_pm (hval 0 24 v0 rfl rfl) h0
  obtain ⟨qa1, qc1, ls1, rfl, hr1, hl1, hb1⟩ := el_res (hval 1 57 v1 rfl rfl) h1
  try simp only [List.append_nil, Rows.uptoBulkAll] at hbulk
  exact (schArities_walk rs0 s0 ls1 qa1 qc1 W hr0 (SmallPm.ofQ hl0 hb0 (by omega)) (fun r hr => schOk_ofQ (hb0 r hr) (by omega)) (by omega) hr1 (by omega) (fun x hx => ⟨by have := (hb1 x hx).1; omega, (hb1 x hx).2⟩) hT).mono fun e W' ⟨he, hM⟩ => ⟨_, he,
    law_fin (by rw [Tryz.params5]; intro t ht; simp at ht; rcases ht with rfl | rfl <;> exact ⟨by kernel_rfl, of_decide_eq_true (by kernel_rfl)⟩) rfl rfl rfl rfl rfl hW' hM⟩

theorem reads (os : Os) {H : Type} (enc : TypeId × Value → H) : ∃ places, DataW.whole enc Tryz.prog ((laidWorld os).forCall (fun _ _ => 0) ⟨#[], #[.agg #[.slice none 0 0], .slice none 0 0], []⟩).memory Tryz.f5.params.toList Rows.schemaAritiesSpec.vars false #[Value.agg #[.slice none 0 0], Value.slice none 0 0].toList 8 = some ([.agg [.nil], .nil], [], places) :=
  ⟨[], by kernel_rfl⟩
set_option maxRecDepth 100000 in
theorem lifted (os : Os) (started : os.Started) (H : Type) (enc : TypeId × Value → H) (F : Stop.Interp) :
    ReturnsInHanded {} Tryz.checked os 5 .any ((Rows.OpenSpec.upto Rows.schemaAritiesSpec).preRow enc Tryz.prog Tryz.f5 Rows.schemaAritiesUptoRow.domain false Rows.schemaAritiesUptoRow.laid) (((Rows.OpenSpec.upto Rows.schemaAritiesSpec).at F).post enc Tryz.prog Tryz.f5 false true false false) := by
  obtain ⟨places, hx⟩ := reads os enc
  refine returnsInHanded_of_row (C := Tryz.checked) (s := Rows.OpenSpec.upto Rows.schemaAritiesSpec) own started (by kernel_rfl) Tryz.func5
    (witness_row_at (enc := enc) (C := Tryz.checked) false (laidWorld os) #[.agg #[.slice none 0 0], .slice none 0 0] rfl (by kernel_rfl) (by kernel_rfl) (by kernel_rfl)
      (OpenSpec.preRow_of_cond 8 hx (by kernel_rfl) (fun k hk => by cases hk; kernel_rfl) (by kernel_rfl) (laid_met os _))) ?_
  intro W base args ds gs before hval hW _ hcond _ hL _ _
  exact contract H enc W base args ds gs before hval hW (hcond _ rfl) hL
theorem saidUpto : Rows.SchemaAritiesUptoSaid :=
  OpenClaim.holds_of_cond 5 Tryz.f5 rfl rfl rfl rfl rfl rfl rfl ⟨rfl, rfl, rfl, rfl, rfl⟩ rfl rfl rfl rfl rfl (by kernel_rfl) Tryz.func5 (by kernel_rfl)
    (of_decide_eq_true (by kernel_rfl)) (by unfold Func.isWrapper; first | (rw [if_pos (by decide +kernel)]; kernel_rfl) | (rw [if_neg (by decide +kernel)]; exact ⟨rfl, rfl⟩))
    (fun os started H enc _ F => by rw [OpenClaim.pre_eq_preRow]; exact lifted os started H enc F)
theorem plain (f : FuncId) (fn : Func) (hf : Tryz.pinned.checked.prog.funcNamed "sibyl/sibyllaw11.SchemaArities" = some f) (hfn : Tryz.pinned.checked.prog.funcs[f]? = some fn) :
    true = Tryz.pinned.checked.prog.looks [] ∧ ∀ (j : Nat) t, fn.params[j]? = some t → Tryz.pinned.checked.prog.wantsStandIn t = false := by
  obtain rfl : f = 5 := Option.some.inj ((show Tryz.prog.funcNamed "sibyl/sibyllaw11.SchemaArities" = some 5 by kernel_rfl).symm.trans hf) |>.symm
  obtain rfl : fn = Tryz.f5 := (Option.some.inj (Tryz.func5.symm.trans hfn)).symm
  refine ⟨by kernel_rfl, fun j t ht => ?_⟩
  rw [Tryz.params5] at ht
  have hm := Array.mem_of_getElem? ht
  simp at hm
  rcases hm with rfl | rfl
  · exact (show Tryz.prog.wantsStandIn 24 = false by kernel_rfl)
  · exact (show Tryz.prog.wantsStandIn 57 = false by kernel_rfl)
theorem proved : Rows.SchemaAritiesUptoCardSaid :=
  Claim7.holds_tied_plain_at .later [] _ _ _ _ saidUpto (fun _ h => by cases h) (by kernel_rfl) (fun _ h => by cases h) schemaAritiesUpto_row_tie rfl ⟨rfl, rfl⟩ (by kernel_rfl) rfl plain (by kernel_rfl)
end Go.Proofs.YteecbbnpgmceiaaGreatDoor.schemaArities
