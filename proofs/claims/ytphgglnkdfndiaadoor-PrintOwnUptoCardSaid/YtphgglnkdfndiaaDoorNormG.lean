/-
  What a normal form gathers: literals renamed so far, apart from where the names are kept.
-/
import Derived.Test.YtphgglnkdfndiaaDoorRenG
namespace Go.Proofs.YtphgglnkdfndiaaDoor
open Go Go.RowKit Go.Mine
set_option linter.unusedVariables false
set_option maxRecDepth 100000

/-- blocks from lo on, not the names', not the list's, not the box of what is answered -/
def Gd (lo : Nat) (NB : Nat → Prop) (al : Option Addr) (go : Nat) (b : Nat) : Prop := lo ≤ b ∧ ¬ NB b ∧ blk al ≠ some b ∧ b ≠ go
structure NG (w wr : World) (lo : Nat) (NB : Nat → Prop) (k : Nat) (pr : ByteArray) (hts : List Tm) (sh : Value) (go : Nat) (al : Option Addr) (cl : Nat) (xs : List (Lm × Value)) : Prop where
  lits : Mine.Own wr 44 8 al k cl (lmsC xs)
  each : ∀ x ∈ xs, TsF wr (Gd lo NB al go) x.2 x.1.atom.terms
  head : TsF wr (Gd lo NB al go) sh hts
  out : wr.heap[go]? = some (.cells #[.string pr, sh, .slice al k cl] 38 (0, 0))
  la : ∀ b, blk al = some b → lo ≤ b ∧ ¬ NB b ∧ b ≠ go
  nb : ∀ b, NB b → lo ≤ b ∧ b ≠ go
  lgo : lo ≤ go
  mod : Mod (fun b => lo ≤ b) w wr
theorem NG.ltgo {w wr : World} {lo : Nat} {NB : Nat → Prop} {k : Nat} {pr : ByteArray} {hts : List Tm} {sh : Value} {go : Nat} {al : Option Addr} {cl : Nat} {xs : List (Lm × Value)} (h : NG w wr lo NB k pr hts sh go al cl xs) : go < wr.heap.size := (Array.getElem?_eq_some_iff.1 h.out).1
/-- names have been sought and added -/
theorem NG.named {w wr v : World} {lo : Nat} {NB NB' : Nat → Prop} {k : Nat} {pr : ByteArray} {hts : List Tm} {sh : Value} {go : Nat} {al : Option Addr} {cl : Nat} {xs : List (Lm × Value)} (h : NG w wr lo NB k pr hts sh go al cl xs)
    (m : Mod NB wr v) (h1 : ∀ b, b < wr.heap.size → NB' b → NB b) (h2 : ∀ b, NB' b → lo ≤ b ∧ b ≠ go) : NG w v lo NB' k pr hts sh go al cl xs := by
  have hal : ∀ b, blk al = some b → b < wr.heap.size := h.lits.lt
  have hG : ∀ b, b < wr.heap.size → Gd lo NB al go b → Gd lo NB' al go b := fun b hb g => ⟨g.1, fun n => g.2.1 (h1 b hb n), g.2.2⟩
  have hS : ∀ b, b < wr.heap.size → Gd lo NB al go b → ¬ NB b := fun b _ g => g.2.1
  exact ⟨h.lits.mod m (fun b hb => (h.la b hb).2.1), fun x hx => (h.each x hx).step m hS hG, h.head.step m hS hG, m.at h.out (fun n => (h.nb go n).2 rfl),
    fun b hb => ⟨(h.la b hb).1, fun n => (h.la b hb).2.1 (h1 b (hal b hb) n), (h.la b hb).2.2⟩, h2, h.lgo, h.mod.step m (fun i hi n => (h.nb i n).1)⟩
/-- one more literal -/
theorem NG.push {w wr v w4 : World} {lo : Nat} {NB : Nat → Prop} {k : Nat} {pr : ByteArray} {hts : List Tm} {sh : Value} {go : Nat} {al al' : Option Addr} {cl cl' : Nat} {xs : List (Lm × Value)} {t : Lm} {sv : Value} (h : NG w wr lo NB k pr hts sh go al cl xs)
    (m : Mod (fun _ => False) wr v) (hT : TsF v (Gd lo NB al go) sv t.atom.terms) (hnb : ∀ b, NB b → b < v.heap.size)
    (hO : Mine.Own w4 44 8 al' (k + 1) cl' (lmsC xs ++ lmC (t, sv))) (hG : Grow v al w4 al') :
    NG w (w4.setCell ⟨go, 2, none⟩ (.slice al' (k + 1) cl')) lo NB (k + 1) pr hts sh go al' cl' (xs ++ [(t, sv)]) := by
  have hgo := h.ltgo
  have hsz := m.size
  have hal : ∀ b, blk al = some b → b < v.heap.size := fun b hb => Nat.lt_of_lt_of_le (h.lits.lt b hb) hsz
  have hal' : ∀ b, blk al' = some b → lo ≤ b ∧ ¬ NB b ∧ b ≠ go := fun b hb => by
    rcases hG.pos with e | ⟨g, e, hg⟩
    · rw [e] at hb; exact h.la b hb
    · rw [e] at hb; cases hb
      have h3 := h.lgo
      exact ⟨by omega, fun n => by have := hnb _ n; omega, by omega⟩
  have hm : Mod (fun b => b = go) w4 (w4.setCell ⟨go, 2, none⟩ (.slice al' (k + 1) cl')) := (Mod.refl (fun b => b = go) w4).setCell (p := ⟨go, 2, none⟩) (fun _ => rfl) _
  have hMs : Mod (fun b => blk al = some b ∨ b = go) v (w4.setCell ⟨go, 2, none⟩ (.slice al' (k + 1) cl')) := (hG.mod.mono (fun _ _ h => .inl h)).step hm (fun _ _ e => .inr e)
  have hS : ∀ b, b < v.heap.size → Gd lo NB al go b → ¬ (blk al = some b ∨ b = go) := fun b _ g h => h.elim g.2.2.1 g.2.2.2
  have hGG : ∀ b, b < v.heap.size → Gd lo NB al go b → Gd lo NB al' go b := fun b hb g => ⟨g.1, g.2.1, hG.ne hb g.2.2.1, g.2.2.2⟩
  have hgoal : blk al ≠ some go := fun e => (h.la go e).2.2 rfl
  refine ⟨?_, ?_, ?_, ?_, hal', h.nb, h.lgo, ?_⟩
  · rw [lmsC_append]
    exact Mine.Own.mod (n := k + 1) hO hm (fun b hb e => (hal' b hb).2.2 e)
  · intro x hx
    rcases List.mem_append.1 hx with hx | hx
    · exact ((h.each x hx).mod0 m).step hMs hS hGG
    · simp at hx; subst hx
      exact hT.step hMs hS hGG
  · exact (h.head.mod0 m).step hMs hS hGG
  · have := heap_setCell_at (j := 2) (.slice al' (k + 1) cl') (hG.mod.at (m.at h.out id) hgoal)
    exact this
  · exact (h.mod.step m (fun _ _ f => f.elim)).step hMs (fun i hi e => by
      rcases e with e | e
      · exact (h.la i e).1
      · rw [e]; exact h.lgo)
/-- the rule that is answered -/
def RmF (w : World) (lo : Nat) (s b : Value) (r : Rm) : Prop := TsF w (fun x => lo ≤ x) s r.head.terms ∧ LsF w (fun x => lo ≤ x) b r.body
theorem NG.fin {w wr : World} {lo : Nat} {NB : Nat → Prop} {pr : ByteArray} {hts : List Tm} {sh : Value} {go : Nat} {al : Option Addr} {cl : Nat} {xs : List (Lm × Value)} {ls : List Lm} {l0 : Nat} (h : NG w wr lo NB ls.length pr hts sh go al cl xs) (hlo : l0 ≤ lo) (hx : xs.map Prod.fst = ls) :
    RmF wr l0 sh (.slice al ls.length cl) ⟨⟨pr, hts⟩, ls⟩ :=
  ⟨h.head.mono (fun b _ g => Nat.le_trans hlo g.1), al, cl, xs, rfl, hx, h.lits.rd, fun _ b hb => Nat.le_trans hlo (h.la b hb).1, fun x hx => (h.each x hx).mono (fun b _ g => Nat.le_trans hlo g.1)⟩
theorem RmF.step {S : Nat → Prop} {w w' : World} {lo : Nat} {s b : Value} {r : Rm} (h : RmF w lo s b r) (m : Mod S w w') (hs : ∀ x, x < w.heap.size → lo ≤ x → ¬ S x) : RmF w' lo s b r :=
  ⟨h.1.step m hs (fun _ _ => id), h.2.step m hs (fun _ _ => id)⟩
def emR : Rm := ⟨⟨emptyB, []⟩, []⟩
/-- the normal form, or nothing -/
def nmR0 (r : Rm) : Rm := if mayRm r = 0 then nmRm r else emR
theorem may_each : ∀ {ls : List Lm}, mayLs ls = 0 → ∀ l ∈ ls, mayLm l = 0
  | [], _, l, hl => by cases hl
  | x :: ls, h, l, hl => by
    rw [mayLs] at h
    by_cases hm : mayLm x ≠ 0
    · rw [if_pos hm] at h; exact absurd h hm
    · rw [if_neg hm] at h
      rcases List.mem_cons.1 hl with rfl | hl
      · simpa using hm
      · exact may_each h l hl
theorem may_rule {r : Rm} (h : mayRm r = 0) : mayAm true r.head = 0 ∧ r.body.length ≤ 64 ∧ ∀ l ∈ r.body, mayLm l = 0 := by
  unfold mayRm at h
  by_cases h1 : mayAm true r.head ≠ 0
  · rw [if_pos h1] at h; exact absurd h h1
  rw [if_neg h1] at h
  by_cases h2 : 64 < r.body.length
  · rw [if_pos h2] at h; exact absurd h (by decide)
  rw [if_neg h2] at h
  exact ⟨by simpa using h1, by omega, may_each h⟩
theorem may_none {l : Lm} (h : mayLm l = 0) (hk : l.kind = 3) : l.atom.pred = emptyB ∧ l.atom.terms = [] := by
  unfold mayLm at h
  rw [if_neg (by rintro ⟨h1 | h1, _⟩ <;> omega)] at h
  by_cases h2 : l.kind ≠ 3 ∨ ¬ noneL l ∨ l.op < 1 ∨ 4 < l.op
  · rw [if_pos h2] at h; exact absurd h (by decide)
  · by_cases hn : noneL l
    · exact hn
    · exact absurd (.inr (.inl hn)) h2
theorem nmLs_len : ∀ (ns : List ByteArray) (ls : List Lm), (nmLs ns ls).1.length = ls.length
  | _, [] => rfl
  | ns, l :: ls => by show _ + 1 = _ + 1; rw [nmLs_len]
end Go.Proofs.YtphgglnkdfndiaaDoor
