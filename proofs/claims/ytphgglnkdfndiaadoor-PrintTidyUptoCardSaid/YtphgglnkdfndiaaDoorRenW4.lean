/-
  PrintRenamed, walked.
-/
import Derived.Test.YtphgglnkdfndiaaDoorRnW
import Derived.Test.YtphgglnkdfndiaaDoorKnow9
import Derived.Test.YtphgglnkdfndiaaDoorAlike
namespace Go.Proofs.YtphgglnkdfndiaaDoor
open Go Go.RowKit Go.Mine
set_option linter.unusedVariables false
set_option maxHeartbeats 8000000
set_option maxRecDepth 100000

theorem RnI.ls {w : World} {lo gb cb : Nat} {sh : Value} {hts : List Tm} {L : List (Lm × Value)} {ls : List Lm} (h : RnI w lo gb cb ls.length sh hts L) (hx : L.map Prod.fst = ls) : LsAt w (.slice (some ⟨gb, 0, none⟩) ls.length cb) ls := by
  refine ⟨some ⟨gb, 0, none⟩, cb, L, rfl, hx, ?_, fun x hx => (h.each x hx).at⟩
  have h1 := h.own.rd.take (L.length * 8)
  rw [lmsC_append, List.take_left' (lmsC_length L)] at h1
  exact h1
/-- a rule of one's own -/
theorem own9 (r : Rm) (s b : Value) (w : World) (ht : TsAt w s r.head.terms) (hl : LsAt w b r.body) (hs : SmallRm r) :
    Calls Tryd.prog 15 #[rmV r s b] w fun e w' => ∃ gh ch gb cb, e = .returned (rmV r (.slice (some ⟨gh, 0, none⟩) r.head.terms.length ch) (.slice (some ⟨gb, 0, none⟩) r.body.length cb)) ∧
      TsAt w' (.slice (some ⟨gh, 0, none⟩) r.head.terms.length ch) r.head.terms ∧ LsAt w' (.slice (some ⟨gb, 0, none⟩) r.body.length cb) r.body ∧ Mod (fun _ => False) w w' := by
  refine (own_any r s b w ht hl hs.1.2.1 hs.2.1 (fun l hl => (hs.2.2 l hl).1.2.1)).mono ?_
  rintro e w' ⟨gh, ch, gb, cb, xs, rfl, hO, hM⟩
  have hI := RnI.ofOwn (lo := 0) hO (fun _ _ => Nat.zero_le _)
  refine ⟨gh, ch, gb, cb, rfl, hO.head.at, hI.ls ?_, hM⟩
  rw [← hO.hx, xsV, List.map_map]; rfl
theorem few_names {r : Rm} (h : mayRm r = 0) : (namesR r).length < 90000 := by
  obtain ⟨h1, h2, h3⟩ := may_rule h
  have e1 := nmTs_le [] r.head.terms
  have e2 := nmLs_le (nmTs [] r.head.terms).2 r.body h3
  have e3 := (okAm h1).few
  unfold namesR
  simp at e1
  omega
theorem OkTm.sm {t : Tm} (h : OkTm t) : t.text.size < 2 ^ 30 := by have := h.len; omega
theorem small_of_may {r : Rm} (h : mayRm r = 0) : SmallRm r := by
  obtain ⟨h1, h2, h3⟩ := may_rule h
  have o1 := okAm h1
  refine ⟨⟨by have := o1.plen; omega, by have := o1.few; omega, fun t ht => (o1.all t ht).sm⟩, by omega, fun l hl => ?_⟩
  rcases may_lit (h3 l hl) with ⟨_, _, hl0, hr0, _, hb, hm⟩ | ⟨_, p1, p2, hl0, hr0⟩
  · have o2 := okAm hm
    have e : emptyB.size = 0 := rfl
    refine ⟨⟨by have := o2.plen; omega, by have := o2.few; omega, fun t ht => (o2.all t ht).sm⟩, ?_, ?_⟩
    · rw [hb.2.1.2, e]; decide
    · rw [hb.2.2.2, e]; decide
  · have e : emptyB.size = 0 := rfl
    refine ⟨⟨by rw [p1, e]; decide, by rw [p2]; simp, fun t ht => by rw [p2] at ht; cases ht⟩, hl0.sm, hr0.sm⟩
theorem rnG_sm {t : Tm} (h : t.text.size ≤ 4096) : (rnG nameB t).text.size < 2 ^ 30 := by
  unfold rnG
  split
  · show (nameL t.text.data.toList).toArray.size < 2 ^ 30
    rw [List.size_toArray, nameL_len]
    have : t.text.data.toList.length = t.text.size := rfl
    omega
  · omega
theorem small_rn {r : Rm} (h : mayRm r = 0) : SmallRm (rnRm nameB r) := by
  obtain ⟨h1, h2, h3⟩ := may_rule h
  have o1 := okAm h1
  refine ⟨⟨by have := o1.plen; show r.head.pred.size < _; omega, by have := o1.few; show (r.head.terms.map _).length < _; rw [List.length_map]; omega, fun t ht => ?_⟩, by show (r.body.map _).length < _; rw [List.length_map]; omega, fun l hl => ?_⟩
  · obtain ⟨x, hx, rfl⟩ := List.mem_map.1 ht
    exact rnG_sm (o1.all x hx).len
  · obtain ⟨x, hx, rfl⟩ := List.mem_map.1 hl
    have e : emptyB.size = 0 := rfl
    rcases may_lit (h3 x hx) with ⟨_, _, hl0, hr0, _, hb, hm⟩ | ⟨_, p1, p2, hl0, hr0⟩
    · have o2 := okAm hm
      refine ⟨⟨by have := o2.plen; show x.atom.pred.size < _; omega, by have := o2.few; show (x.atom.terms.map _).length < _; rw [List.length_map]; omega, fun t ht => ?_⟩, rnG_sm (by rw [hb.2.1.2, e]; decide), rnG_sm (by rw [hb.2.2.2, e]; decide)⟩
      obtain ⟨y, hy, rfl⟩ := List.mem_map.1 ht
      exact rnG_sm (o2.all y hy).len
    · refine ⟨⟨by show x.atom.pred.size < _; rw [p1, e]; decide, by show (x.atom.terms.map _).length < _; rw [p2]; simp, fun t ht => ?_⟩, rnG_sm hl0.len, rnG_sm hr0.len⟩
      have ht' : t ∈ x.atom.terms.map (rnG nameB) := ht
      rw [p2] at ht'; cases ht'
theorem bx3 {w W : World} {B : Nat} {p : ByteArray} {a b : Value} (h : w.heap[B]? = some (.cells #[.string p, a, b] 38 (0, 0))) (m : Mod (fun _ => False) w W) :
    W.cell? ⟨B, 0, none⟩ = some (.string p) ∧ W.cell? ⟨B, 1, none⟩ = some (a) ∧ W.cell? ⟨B, 2, none⟩ = some (b) :=
  ⟨cell_at (m.at h id) rfl, cell_at (m.at h id) rfl, cell_at (m.at h id) rfl⟩
/-- rules in boxes, and what is known of them -/
structure Bx (u : World) (r : Rm) (B : Nat) (a b : Value) : Prop where
  box : u.heap[B]? = some (.cells #[.string r.head.pred, a, b] 38 (0, 0))
  ts : TsAt u a r.head.terms
  ls : LsAt u b r.body
  sm : SmallRm r
theorem Bx.cells {u W : World} {r : Rm} {B : Nat} {a b : Value} (h : Bx u r B a b) (m : Mod (fun _ => False) u W) : W.cell? ⟨B, 0, none⟩ = some (.string r.head.pred) ∧ W.cell? ⟨B, 1, none⟩ = some (a) ∧ W.cell? ⟨B, 2, none⟩ = some (b) := bx3 h.box m
theorem Bx.own {u W : World} {r : Rm} {B : Nat} {a b : Value} (h : Bx u r B a b) (m : Mod (fun _ => False) u W) :
    Calls Tryd.prog 15 #[.agg #[.string r.head.pred, a, b]] W fun e w' => ∃ gh ch gb cb, e = .returned (.agg #[.string r.head.pred, .slice (some ⟨gh, 0, none⟩) r.head.terms.length ch, .slice (some ⟨gb, 0, none⟩) r.body.length cb]) ∧
      TsAt w' (.slice (some ⟨gh, 0, none⟩) r.head.terms.length ch) r.head.terms ∧ LsAt w' (.slice (some ⟨gb, 0, none⟩) r.body.length cb) r.body ∧ Mod (fun _ => False) W w' :=
  own9 r a b W (h.ts.mod0 m) (h.ls.mod0 m) h.sm
theorem Bx.mod {u W : World} {r : Rm} {B : Nat} {a b : Value} (h : Bx u r B a b) (m : Mod (fun _ => False) u W) : Bx W r B a b := ⟨m.at h.box id, h.ts.mod0 m, h.ls.mod0 m, h.sm⟩
theorem alike9 {r q : Rm} {a b c d : Value} {W : World} (hr : SmallRm r) (hq : SmallRm q) (h1 : TsAt W a r.head.terms) (h2 : LsAt W b r.body) (h3 : TsAt W c q.head.terms) (h4 : LsAt W d q.body) (hp : Pow W) :
    Calls Tryd.prog 31 #[.agg #[.string r.head.pred, a, b], .agg #[.string q.head.pred, c, d]] W (SayAl r q W) := Alike_any r q a b c d W hr hq h1 h2 h3 h4 hp
theorem normal9 {r : Rm} {a b : Value} {W : World} (hr : SmallRm r) (h1 : TsAt W a r.head.terms) (h2 : LsAt W b r.body) (hp : Pow W) :
    Calls Tryd.prog 8 #[.agg #[.string r.head.pred, a, b]] W fun e w' => ∃ na nc nb nd, e = .returned (.tuple #[.agg #[.string (nmR0 r).head.pred, .slice na (nmR0 r).head.terms.length nc, .slice nb (nmR0 r).body.length nd], .int .i64 (mayRm r)]) ∧
      TsAt w' (.slice na (nmR0 r).head.terms.length nc) (nmR0 r).head.terms ∧ LsAt w' (.slice nb (nmR0 r).body.length nd) (nmR0 r).body ∧ Mod (fun _ => False) W w' := by
  refine (Normal_any r a b W hr h1 h2 hp).mono ?_
  rintro e w' ⟨s', b', rfl, hF, hM⟩
  have ht := hF.1.at
  have hl := hF.2.at
  obtain ⟨na, nc, rfl, _⟩ := id ht
  obtain ⟨nb, nd, _, rfl, _⟩ := id hl
  exact ⟨na, nc, nb, nd, rfl, ht, hl, hM⟩
theorem same9 {r : Rm} {a b c d : Value} {W : World} (hr : SmallRm r) (h1 : TsAt W a r.head.terms) (h2 : LsAt W b r.body) (h3 : TsAt W c r.head.terms) (h4 : LsAt W d r.body) :
    Calls Tryd.prog 27 #[.agg #[.string r.head.pred, a, b], .agg #[.string r.head.pred, c, d]] W fun e w' => e = .returned (.bool true) ∧ Mod (fun _ => False) W w' := by
  refine (Same_any r r a c b d W h1 h3 h2 h4 hr.1.2.1 hr.1.2.1 hr.2.1 hr.2.1 (fun l hl => (hr.2.2 l hl).1.2.1) (fun l hl => (hr.2.2 l hl).1.2.1)).mono ?_
  rintro e w' ⟨t, rfl, ht, hM⟩
  rw [ht.2 rfl]
  exact ⟨rfl, hM⟩
theorem alikeT {r q : Rm} {a b c d : Value} {W : World} (hr : SmallRm r) (hq : SmallRm q) (h1 : TsAt W a r.head.terms) (h2 : LsAt W b r.body) (h3 : TsAt W c q.head.terms) (h4 : LsAt W d q.body) (hp : Pow W) (hal : Al r q) :
    Calls Tryd.prog 31 #[.agg #[.string r.head.pred, a, b], .agg #[.string q.head.pred, c, d]] W fun e w' => e = .returned (.bool true) ∧ Mod (fun _ => False) W w' := by
  refine (alike9 hr hq h1 h2 h3 h4 hp).mono ?_
  rintro e w' ⟨t, rfl, ht, hM⟩
  rw [ht.2 hal]
  exact ⟨rfl, hM⟩
theorem Al.symm' {r q : Rm} (h : Al r q) : Al q r := ⟨h.2.1, h.1, h.2.2.symm⟩
def BXC (W : World) (r : Rm) (B : Nat) (a b : Value) : Prop := W.cell? ⟨B, 0, none⟩ = some (.string r.head.pred) ∧ W.cell? ⟨B, 1, none⟩ = some (a) ∧ W.cell? ⟨B, 2, none⟩ = some (b)
end Go.Proofs.YtphgglnkdfndiaaDoor
