/-
  sibylref09.renamed: one term, the names so far, and one more.
-/
import Derived.Test.YtphgglnkdfndiaaDoorNumber
import Derived.Test.YtphgglnkdfndiaaDoorSame
import Derived.Test.YtphgglnkdfndiaaDoorOwG
namespace Go.Proofs.YtphgglnkdfndiaaDoor
open Go Go.RowKit Go.Mine
set_option linter.unusedVariables false
set_option maxHeartbeats 4000000
set_option maxRecDepth 100000

theorem tiS : TI Tryd.prog 120 9 1 16 := TI.mk' (z := .string ByteArray.empty) (by kernel_rfl) (by kernel_rfl) rfl (by omega)
theorem vN_cat (n : Nat) : (⟨#[86]⟩ : ByteArray) ++ ⟨(Lib.decDigits n).toArray⟩ = vN n := ba_cat [86] (Lib.decDigits n)
theorem place_at {x : ByteArray} {l : List ByteArray} {k : Nat} (h1 : k ≤ place x l) (hk : l[k]? = some x) : place x l = k := by
  rcases Nat.lt_or_ge k (place x l) with h | h
  · exact absurd rfl (place_before h hk)
  · omega
theorem place_past {x : ByteArray} {l : List ByteArray} {k : Nat} (h1 : k ≤ place x l) (hk : k < l.length) (hn : l[k] ≠ x) : k + 1 ≤ place x l := by
  rcases Nat.lt_or_ge k (place x l) with h | h
  · exact h
  · have e : place x l = k := by omega
    have := place_get (place_iff.1 (by rw [e]; exact hk))
    rw [e, List.getElem?_eq_getElem hk] at this
    exact absurd (Option.some.inj this) hn
theorem more_old {x : ByteArray} {l : List ByteArray} (h : place x l < l.length) : more l x = l := by unfold more; rw [if_pos h]
theorem more_new {x : ByteArray} {l : List ByteArray} (h : place x l = l.length) : more l x = l ++ [x] ∧ place x (l ++ [x]) = l.length := by
  have hn : x ∉ l := fun hm => by have := place_lt hm; omega
  exact ⟨by unfold more; rw [if_neg (by omega)], place_new hn⟩
theorem sts_get {l : List ByteArray} {k : Nat} (hk : k < l.length) : (sts l)[k]? = some (.string l[k]) := by simp [sts, hk]

end Go.Proofs.YtphgglnkdfndiaaDoor
/-
  What a renaming answers: terms in memory of its own, apart from the names; sibylref09.renamedAtom.
-/
namespace Go.Mine
open Go Go.RowKit
theorem Rd.blkLt {w : World} {a : Option Addr} {ts : List Tm} (h : Rd w a (tmsC ts)) (hn : ts ≠ []) : ∀ b, blk a = some b → b < w.heap.size :=
  h.lt (fun e => hn (by
    cases ts with
    | nil => rfl
    | cons t ts => cases e))
/-- terms that lie in blocks of which G holds -/
def TsF (w : World) (G : Nat → Prop) (s : Value) (ts : List Tm) : Prop :=
  ∃ a c, s = .slice a ts.length c ∧ Rd w a (tmsC ts) ∧ (ts ≠ [] → ∀ b, blk a = some b → G b)
theorem TsF.at {w : World} {G : Nat → Prop} {s : Value} {ts : List Tm} (h : TsF w G s ts) : TsAt w s ts := by
  obtain ⟨a, c, e, hr, _⟩ := h
  exact ⟨a, c, e, hr⟩
theorem TsF.empty (w : World) (G : Nat → Prop) (a : Option Addr) (c : Nat) : TsF w G (.slice a 0 c) [] := ⟨a, c, rfl, Rd.nil _ _, fun h => absurd rfl h⟩
theorem TsF.step {S G G' : Nat → Prop} {w w' : World} {s : Value} {ts : List Tm} (h : TsF w G s ts) (m : Mod S w w') (hs : ∀ b, b < w.heap.size → G b → ¬ S b) (hg : ∀ b, b < w.heap.size → G b → G' b) : TsF w' G' s ts := by
  obtain ⟨a, c, e, hr, hb⟩ := h
  by_cases hn : ts = []
  · subst hn
    exact ⟨a, c, e, Rd.nil _ _, fun h => absurd rfl h⟩
  · exact ⟨a, c, e, hr.mod m (fun b h => hs b (hr.blkLt hn b h) (hb hn b h)), fun h b hbb => hg b (hr.blkLt hn b hbb) (hb h b hbb)⟩
theorem TsF.mod0 {G : Nat → Prop} {w w' : World} {s : Value} {ts : List Tm} (h : TsF w G s ts) (m : Mod (fun _ => False) w w') : TsF w' G s ts := h.step m (fun _ _ _ => id) (fun _ _ => id)
theorem TsF.mono {G G' : Nat → Prop} {w : World} {s : Value} {ts : List Tm} (h : TsF w G s ts) (hg : ∀ b, b < w.heap.size → G b → G' b) : TsF w G' s ts := h.step (Mod.refl (fun _ => False) w) (fun _ _ _ => id) hg
/-- literals likewise -/
def LsF (w : World) (G : Nat → Prop) (s : Value) (ls : List Lm) : Prop :=
  ∃ a c xs, s = .slice a ls.length c ∧ xs.map Prod.fst = ls ∧ Rd w a (lmsC xs) ∧ (ls ≠ [] → ∀ b, blk a = some b → G b) ∧ ∀ x ∈ xs, TsF w G x.2 x.1.atom.terms
theorem LsF.at {w : World} {G : Nat → Prop} {s : Value} {ls : List Lm} (h : LsF w G s ls) : LsAt w s ls := by
  obtain ⟨a, c, xs, e, hx, hr, _, ht⟩ := h
  exact ⟨a, c, xs, e, hx, hr, fun x hx => (ht x hx).at⟩
theorem LsF.step {S G G' : Nat → Prop} {w w' : World} {s : Value} {ls : List Lm} (h : LsF w G s ls) (m : Mod S w w') (hs : ∀ b, b < w.heap.size → G b → ¬ S b) (hg : ∀ b, b < w.heap.size → G b → G' b) : LsF w' G' s ls := by
  obtain ⟨a, c, xs, e, hx, hr, hb, ht⟩ := h
  refine ⟨a, c, xs, e, hx, ?_, ?_, fun x hx => (ht x hx).step m hs hg⟩
  · by_cases hn : ls = []
    · subst hn
      obtain rfl : xs = [] := List.map_eq_nil_iff.1 hx
      exact Rd.nil _ _
    · have hlt : ∀ b, blk a = some b → b < w.heap.size := hr.lt (fun e => hn (by
        rw [← hx]
        cases xs with
        | nil => rfl
        | cons x xs => cases e))
      exact hr.mod m (fun b h => hs b (hlt b h) (hb hn b h))
  · intro hn b h
    have hlt : ∀ b, blk a = some b → b < w.heap.size := hr.lt (fun e => hn (by
      rw [← hx]
      cases xs with
      | nil => rfl
      | cons x xs => cases e))
    exact hg b (hlt b h) (hb hn b h)
/-- what changes outside the names, and where the names lie then -/
theorem Grow.step {w w1 w2 : World} {a a1 : Option Addr} {S : Nat → Prop} (g : Grow w a w1 a1) (m : Mod S w1 w2) (hs : ∀ b, b < w.heap.size → S b → blk a = some b) : Grow w a w2 a1 :=
  ⟨g.mod.step m hs, g.pos⟩
end Go.Mine
namespace Go.Proofs.YtphgglnkdfndiaaDoor
open Go Go.RowKit Go.Mine
set_option linter.unusedVariables false
set_option maxHeartbeats 4000000
set_option maxRecDepth 100000

theorem nmTm_le (ns : List ByteArray) (t : Tm) : (nmTm ns t).2.length ≤ ns.length + 1 := by
  unfold nmTm
  split
  · exact Nat.le_succ _
  · exact more_len _ _
theorem nmTs_le : ∀ (ns : List ByteArray) (ts : List Tm), (nmTs ns ts).2.length ≤ ns.length + ts.length
  | ns, [] => Nat.le_refl _
  | ns, t :: ts => by
    have h1 := nmTm_le ns t
    have h2 := nmTs_le (nmTm ns t).2 ts
    show (nmTs (nmTm ns t).2 ts).2.length ≤ _
    rw [List.length_cons]
    omega
end Go.Proofs.YtphgglnkdfndiaaDoor
