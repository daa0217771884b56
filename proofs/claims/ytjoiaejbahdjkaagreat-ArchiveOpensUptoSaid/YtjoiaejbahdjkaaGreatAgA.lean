/-
  The plain law of archives: names and files, rising; the bytes; what Put and Pack answer.
-/
import Derived.Test.YtjoiaejbahdjkaaGreatFgB
import Derived.Maps.OwnSet
import Derived.Maps.OwnOps
import Derived.Maps.RangeWalk
import Derived.Test.YtjoiaejbahdjkaaGreatLyG
namespace Go.Proofs.YtjoiaejbahdjkaaGreat
open Go Go.RowKit Go.Mine
set_option linter.unusedVariables false
def putA {β : Type} : List (ByteArray × β) → ByteArray → β → List (ByteArray × β)
 | [], x, f => [(x, f)]
 |(y, g) :: r, x, f => if blt y x = true then (y, g) :: putA r x f else if y = x then (x, f) :: r else (x, f) :: (y, g) :: r
def getA {β : Type} (l : List (ByteArray × β)) (x : ByteArray) : Option β := (l.find? fun p => decide (p.1 = x)).map (·.2)
def dropA {β : Type} (l : List (ByteArray × β)) (x : ByteArray) : List (ByteArray × β) := l.filter fun p => decide (p.1 ≠ x)
def UpA {β : Type} (l : List (ByteArray × β)) : Prop := Up blt (l.map (·.1))
def withGo {β : Type} (x : ByteArray) (f : β) : Bool → List (ByteArray × β) → List (ByteArray × β)
 | put, [] => if put = true then [] else [(x, f)]
 | put, (y, g) :: r =>
   (if put = false ∧ blt y x = false then [(x, f)] else []) ++ (if y = x then [] else [(y, g)]) ++ withGo x f (put || !blt y x) r
section
variable {β : Type} {l : List (ByteArray × β)} {x y : ByteArray} {f g : β}
theorem UpA.tail {p : ByteArray × β} (h : UpA (p :: l)) : UpA l := (List.pairwise_cons.1 h).2
theorem UpA.head {p : ByteArray × β} (h : UpA (p :: l)) {q : ByteArray × β} (hq : q ∈ l) : blt p.1 q.1 = true := (List.pairwise_cons.1 h).1 _ (List.mem_map.2 ⟨q, hq, rfl⟩)
theorem UpA.nodup (h : UpA l) : (l.map (·.1)).Nodup := Up.nodup strict_blt h
theorem withGo_true (h : UpA l) (hl : ∀ q ∈ l, blt x q.1 = true) : withGo x f true l = l := by
 induction l with
 | nil => rfl
 | cons p r ih =>
   have h1 := hl p (by simp)
   rw [withGo, if_neg (by simp), if_neg (fun e => by rw [e, strict_blt.irr] at h1; cases h1)]
   rw [Bool.true_or, ih h.tail fun q hq => hl q (List.mem_cons_of_mem _ hq)]
   rfl
theorem withGo_put (h : UpA l) : withGo x f false l = putA l x f := by
 induction l with
 | nil => rfl
 | cons p r ih =>
   obtain ⟨y, g⟩ := p
   rw [withGo, putA]
   by_cases hlt : blt y x = true
   ·rw [if_neg (by rw [hlt]; simp), if_neg (fun e => by rw [e, strict_blt.irr] at hlt; cases hlt), if_pos hlt, hlt]
    simp only [Bool.not_true, Bool.or_false, List.nil_append]
    rw [ih h.tail]; rfl
   ·rw [if_pos ⟨rfl, by simpa using hlt⟩, if_neg hlt]
    have hf : blt y x = false := by simpa using hlt
    rw [hf]
    simp only [Bool.not_false, Bool.or_true]
    by_cases he : y = x
    ·subst he
     rw [if_pos rfl, if_pos rfl, withGo_true h.tail fun q hq => h.head hq]
     rfl
    ·rw [if_neg he, if_neg he]
     have hxy : blt x y = true := by
      rcases strict_blt.conn y x he with e | e
      ·exact absurd e hlt
      ·exact e
     rw [withGo_true h.tail fun q hq => strict_blt.tr _ _ _ hxy (h.head hq)]
     rfl
theorem putA_mem (q : ByteArray × β) (hq : q ∈ putA l x f) : q = (x, f) ∨ q ∈ l := by
 induction l with
 | nil => simpa [putA] using hq
 | cons p r ih =>
   obtain ⟨y, g⟩ := p
   rw [putA] at hq
   split at hq
   ·rcases List.mem_cons.1 hq with e | e
    ·exact .inr (by rw [e]; exact List.mem_cons_self ..)
    ·exact (ih e).imp id (List.mem_cons_of_mem _)
   ·split at hq
    ·rcases List.mem_cons.1 hq with e | e
     ·exact .inl e
     ·exact .inr (List.mem_cons_of_mem _ e)
    ·rcases List.mem_cons.1 hq with e | e
     ·exact .inl e
     ·exact .inr e
theorem putA_up (h : UpA l) : UpA (putA l x f) := by
 induction l with
 | nil => exact List.pairwise_singleton _ _
 | cons p r ih =>
   obtain ⟨y, g⟩ := p
   rw [putA]
   split
   ·rename_i hlt
    refine List.pairwise_cons.2 ⟨fun z hz => ?_, ih h.tail⟩
    obtain ⟨q, hq, rfl⟩ := List.mem_map.1 hz
    rcases putA_mem q hq with rfl | hq
    ·exact hlt
    ·exact h.head hq
   ·rename_i hlt
    split
    ·rename_i he
     subst he
     exact List.pairwise_cons.2 ⟨(List.pairwise_cons.1 h).1, h.tail⟩
    ·rename_i he
     have hxy : blt x y = true := by
      rcases strict_blt.conn y x he with e | e
      ·exact absurd e hlt
      ·exact e
     refine List.pairwise_cons.2 ⟨fun z hz => ?_, h⟩
     rcases List.mem_cons.1 hz with rfl | hz
     ·exact hxy
     ·obtain ⟨q, hq, rfl⟩ := List.mem_map.1 hz
      exact strict_blt.tr _ _ _ hxy (h.head hq)
theorem putA_get (h : UpA l) (z : ByteArray) : getA (putA l x f) z = if x = z then some f else getA l z := by
 induction l with
 | nil =>
   unfold getA putA
   rw [List.find?_cons]
   by_cases he : x = z
   ·rw [decide_eq_true he, if_pos he]; rfl
   ·rw [decide_eq_false he, if_neg he]
 | cons p r ih =>
   obtain ⟨y, g⟩ := p
   have ih := ih h.tail
   rw [putA]
   unfold getA at ih ⊢
   split
   ·rename_i hlt
    rw [List.find?_cons, List.find?_cons]
    by_cases he : y = z
    ·rw [decide_eq_true he, if_neg (fun e => by rw [e, ← he, strict_blt.irr] at hlt; cases hlt)]
    ·rw [decide_eq_false he]; exact ih
   ·split
    ·rename_i he
     subst he
     rw [List.find?_cons, List.find?_cons]
     by_cases he : y = z
     ·rw [decide_eq_true he, if_pos he]; rfl
     ·rw [decide_eq_false he, if_neg he]
    ·rw [List.find?_cons]
     by_cases he : x = z
     ·rw [decide_eq_true he, if_pos he]; rfl
     ·rw [decide_eq_false he, if_neg he]
theorem putA_old (h2 : UpA l) (h1 : (getA l x).isSome = true) : (putA l x f).length = l.length := by
 induction l with
 | nil => cases h1
 | cons p r ih =>
   obtain ⟨y, g⟩ := p
   rw [putA]
   split
   ·rename_i hlt
    unfold getA at h1 ih
    rw [List.find?_cons, decide_eq_false (fun e : y = x => by rw [e, strict_blt.irr] at hlt; cases hlt)] at h1
    rw [List.length_cons, List.length_cons, ih h2.tail h1]
   ·rename_i hlt
    split
    ·rfl
    ·rename_i he
     exfalso
     have hxy : blt x y = true := by
      rcases strict_blt.conn y x he with e | e
      ·exact absurd e hlt
      ·exact e
     unfold getA at h1
     rw [List.find?_cons, decide_eq_false he] at h1
     rw [Option.isSome_map, List.find?_isSome] at h1
     obtain ⟨q, hq, hx⟩ := h1
     have h3 := strict_blt.tr _ _ _ hxy (h2.head hq)
     rw [of_decide_eq_true hx, strict_blt.irr] at h3
     cases h3
theorem putA_new (h : getA l x = none) : (putA l x f).length = l.length + 1 := by
 induction l with
 | nil => rfl
 | cons p r ih =>
   obtain ⟨y, g⟩ := p
   unfold getA at h ih
   rw [List.find?_cons] at h
   rw [putA]
   by_cases he : y = x
   ·rw [decide_eq_true he] at h; cases h
   ·rw [decide_eq_false he] at h
    split
    ·rw [List.length_cons, ih h]; rfl
    ·rfl
theorem putA_map {γ : Type} (k : β → γ) : (putA l x f).map (fun p => (p.1, k p.2)) = putA (l.map fun p => (p.1, k p.2)) x (k f) := by
 induction l with
 | nil => rfl
 | cons p r ih =>
   obtain ⟨y, g⟩ := p
   rw [List.map_cons, putA, putA]
   split
   ·rw [List.map_cons, ih]
   ·split <;> rfl
theorem getA_mem (h : UpA l) {p : ByteArray × β} (hp : p ∈ l) : getA l p.1 = some p.2 := by
 induction l with
 | nil => cases hp
 | cons q r ih =>
   unfold getA at ih ⊢
   rw [List.find?_cons]
   rcases List.mem_cons.1 hp with rfl | hp
   ·rw [decide_eq_true rfl]; rfl
   ·have h1 := h.head hp
    rw [decide_eq_false (fun e => by rw [e, strict_blt.irr] at h1; cases h1)]
    exact ih h.tail hp
theorem getA_some (h : getA l x = some f) : (x, f) ∈ l := by
 unfold getA at h
 cases he : l.find? fun p => decide (p.1 = x) with
 | none => rw [he] at h; cases h
 | some p =>
   rw [he] at h
   have h1 := List.find?_some he
   have h2 := List.mem_of_find?_eq_some he
   simp only [Option.map_some, Option.some.injEq] at h
   obtain ⟨a, b⟩ := p
   simp only [decide_eq_true_eq] at h1
   subst h1; subst h
   exact h2
theorem getA_isSome : (getA l x).isSome = true ↔ x ∈ l.map (·.1) := by
 unfold getA
 rw [Option.isSome_map, List.find?_isSome, List.mem_map]
 constructor
 ·rintro ⟨p, hp, h⟩; exact ⟨p, hp, of_decide_eq_true h⟩
 ·rintro ⟨p, hp, h⟩; exact ⟨p, hp, decide_eq_true h⟩
theorem getA_map {γ : Type} (k : β → γ) : getA (l.map fun p => (p.1, k p.2)) x = (getA l x).map k := by
 induction l with
 | nil => rfl
 | cons p r ih =>
   unfold getA at ih ⊢
   rw [List.map_cons, List.find?_cons, List.find?_cons]
   by_cases he : p.1 = x
   ·rw [decide_eq_true he]; rfl
   ·rw [decide_eq_false he]; exact ih
end
abbrev Arc := List (ByteArray × List UInt8)
def arText (x : ByteArray) : List UInt8 := lebl x.size ++ tbs x
def arEnt (p : ByteArray × List UInt8) : List UInt8 := arText p.1 ++ lebl p.2.length
def arTab (l : Arc) : List UInt8 := lebl l.length ++ l.flatMap arEnt
def arLen (l : Arc) : Nat := (l.map fun p => p.2.length).sum
def arSz (l : Arc) : Nat := 10 + (arTab l).length + 4 + arLen l
def arMagic : List UInt8 := [115, 105, 98, 121, 97, 1]
def arHead (n : Nat) : List UInt8 := arMagic ++ fourL n
def arBody (l : Arc) : List UInt8 := arHead (arSz l) ++ arTab l ++ l.flatMap (·.2)
def arcL (l : Arc) : List UInt8 := arBody l ++ fourL (crcL (arBody l))
def arEntN (p : ByteArray × List UInt8) : Nat := (arEnt p).length + p.2.length
theorem tbs_len (x : ByteArray) : (tbs x).length = x.size := by unfold tbs; rw [ByteArray.toList_eq, Array.length_toList]; rfl
theorem arLen_flat (l : Arc) : (l.flatMap (·.2)).length = arLen l := by rw [List.length_flatMap]; rfl
theorem arSz_eq (l : Arc) : arSz l = 14 + (lebl l.length).length + (l.map arEntN).sum := by
 unfold arSz arTab arLen
 rw [List.length_append, List.length_flatMap]
 have e : (l.map arEntN).sum = (l.map fun a => (arEnt a).length).sum + (l.map fun p => p.2.length).sum := by
  induction l with
  | nil => rfl
  | cons p r ih => simp only [List.map_cons, List.sum_cons, ih, arEntN]; omega
 omega
theorem arcL_len (l : Arc) : (arcL l).length = arSz l := by
 unfold arcL arBody arHead arSz
 simp only [List.length_append, arLen_flat]
 show 6 + 4 + (arTab l).length + arLen l + 4 = _
 omega
theorem arEntN_le (p : ByteArray × List UInt8) (h1 : p.1.size < 2 ^ 64) (h2 : p.2.length < 2 ^ 64) : arEntN p ≤ 20 + p.1.size + p.2.length := by
 unfold arEntN arEnt arText
 simp only [List.length_append, tbs_len]
 have := lebl_len64 _ h1
 have := lebl_len64 _ h2
 omega
theorem lt_arEntN (p : ByteArray × List UInt8) : 2 + p.1.size + p.2.length ≤ arEntN p := by
 unfold arEntN arEnt arText
 simp only [List.length_append, tbs_len]
 have := lebl_pos p.1.size
 have := lebl_pos p.2.length
 omega
theorem sum_mem {α : Type} (k : α → Nat) : ∀ (l : List α), ∀ p ∈ l, k p ≤ (l.map k).sum
 | [], _, h => by cases h
 | q :: r, p, h => by
   rw [List.map_cons, List.sum_cons]
   rcases List.mem_cons.1 h with rfl | h
   ·omega
   ·have := sum_mem k r p h; omega
theorem len_sum (l : Arc) : 2 * l.length ≤ (l.map arEntN).sum := by
 induction l with
 | nil => exact Nat.le_refl _
 | cons p r ih =>
   rw [List.map_cons, List.sum_cons, List.length_cons]
   have := lt_arEntN p
   omega
theorem sum_put (l : Arc) (x : ByteArray) (f : List UInt8) : ((putA l x f).map arEntN).sum ≤ (l.map arEntN).sum + arEntN (x, f) := by
 induction l with
 | nil => simp [putA]
 | cons p r ih =>
   obtain ⟨y, g⟩ := p
   rw [putA]
   split
   ·simp only [List.map_cons, List.sum_cons]; omega
   ·split
    ·simp only [List.map_cons, List.sum_cons]; omega
    ·simp only [List.map_cons, List.sum_cons]; omega
structure ArcOk (m : Nat) (l : Arc) : Prop where
 up : UpA l
 nm : ∀ p ∈ l, p.1.size ≤ 4096
 fl : ∀ p ∈ l, p.2 ≠ [] ∧ p.2.length ≤ 16777216
 sz : arSz l ≤ m
theorem ArcOk.nil : ArcOk 15 [] := ⟨List.Pairwise.nil, (fun _ h => by cases h), (fun _ h => by cases h), by unfold arSz arTab arLen; rw [lebl_small (by decide)]; decide⟩
theorem ArcOk.mono {m m' : Nat} {l : Arc} (h : ArcOk m l) (hm : m ≤ m') : ArcOk m' l := ⟨h.up, h.nm, h.fl, Nat.le_trans h.sz hm⟩
theorem ArcOk.few {m : Nat} {l : Arc} (h : ArcOk m l) : 2 * l.length + 15 ≤ m := by
 have h1 := h.sz
 rw [arSz_eq] at h1
 have := len_sum l
 have := lebl_pos l.length
 omega
theorem ArcOk.put {m : Nat} {l : Arc} (h : ArcOk m l) (hm : m ≤ 1099511627776) {x : ByteArray} {f : List UInt8} (hx : x.size ≤ 4096) (hf : f ≠ [] ∧ f.length ≤ 16777216) : ArcOk (m + 16781342) (putA l x f) := by
 refine ⟨putA_up h.up, fun p hp => ?_, fun p hp => ?_, ?_⟩
 ·rcases putA_mem p hp with rfl | hp
  ·exact hx
  ·exact h.nm p hp
 ·rcases putA_mem p hp with rfl | hp
  ·exact hf
  ·exact h.fl p hp
 ·have h1 := h.sz
  rw [arSz_eq] at h1 ⊢
  have h2 := sum_put l x f
  have h3 := arEntN_le (x, f) (by simp only; omega) (by simp only; omega)
  simp only at h3
  have hl : (putA l x f).length ≤ l.length + 1 := by
   by_cases hg : (getA l x).isSome = true
   ·rw [putA_old h.up hg]; omega
   ·rw [putA_new (by simpa using hg)]; omega
  have h4 : (lebl (putA l x f).length).length ≤ (lebl l.length).length + 10 := by
   by_cases hb : (putA l x f).length < 2 ^ 64
   ·have := lebl_len64 _ hb; omega
   ·have h7 := h.few
    omega
  omega
noncomputable def decA (b : List UInt8) : Except Nat ByteArray :=
 open Classical in if h : ∃ F, GoodF b F then .ok ⟨h.choose.nm.toArray⟩ else .error (if headF b ≠ 0 then headF b else 70)
theorem decA_good {b : List UInt8} {F : Fil} (h : GoodF b F) : decA b = .ok ⟨F.nm.toArray⟩ := by
 have he : ∃ F, GoodF b F := ⟨F, h⟩
 unfold decA
 rw [dif_pos he, he.choose_spec.2.1.same h.2.1]
theorem decA_bad {b : List UInt8} {k : Nat} (h : BadF b k) : decA b = .error k ∧ k ≠ 0 := by
 have hn : ¬ ∃ F, GoodF b F := by
  rintro ⟨F, h1, h2, h3⟩
  rcases h with ⟨h4, _⟩ | ⟨_, h4, _⟩
  ·exact h4 h1
  ·exact h4 F h2 h3
 unfold decA
 rw [dif_neg hn]
 rcases h with ⟨h4, rfl⟩ | ⟨h4, _, rfl⟩
 ·exact ⟨by rw [if_pos h4], h4⟩
 ·exact ⟨by rw [if_neg (by simp [h4])], by decide⟩
theorem decA_ok {b : List UInt8} {x : ByteArray} (h : decA b = .ok x) : x.size ≤ 4096 ∧ b ≠ [] ∧ b.length ≤ 16777216 ∧ x.size + 14 ≤ b.length := by
 unfold decA at h
 split at h
 ·rename_i he
  have hg := he.choose_spec
  generalize he.choose = F at *
  simp only [Except.ok.injEq] at h
  subst h
  have K := hg.2.1.facts
  have h1 := hg.1
  unfold headF at h1
  have h2 : ¬ 16777216 < b.length := fun e => by rw [if_pos e] at h1; cases h1
  rw [if_neg h2] at h1
  have h3 : ¬ b.length < 14 := fun e => by rw [if_pos (.inl e)] at h1; cases h1
  have h4 := congrArg List.length K.form
  unfold midL formL at h4
  simp only [List.length_append, List.length_take, List.length_drop] at h4
  rw [ba_size]
  refine ⟨K.nml, fun e => by rw [e] at h3; simp at h3, by omega, by omega⟩
 ·cases h
noncomputable def putS (l : Arc) (b : List UInt8) : Nat × Arc := match decA b with
 | .error k => (k, l)
 | .ok x => if 16777216 < arSz (putA l x b) then (3, l) else (0, putA l x b)
noncomputable def packGo : Arc → List (List UInt8) → Nat × Arc
 | l, [] => (0, l)
 | l, b :: r => if (putS l b).1 = 0 then packGo (putS l b).2 r else putS l b
noncomputable def packS (bs : List (List UInt8)) : List UInt8 × Nat := if (packGo [] bs).1 = 0 then (arcL (packGo [] bs).2, 0) else ([], (packGo [] bs).1)
theorem putS_ok {l : Arc} {b : List UInt8} (h : ArcOk 16777216 l) : ArcOk 16777216 (putS l b).2 := by
 unfold putS
 cases hd : decA b with
 | error k => exact h
 | ok x =>
   simp only
   split
   ·exact h
   ·rename_i hs
    obtain ⟨h1, h2, h3, _⟩ := decA_ok hd
    have hk := h.put (by decide) h1 ⟨h2, h3⟩
    exact ⟨hk.up, hk.nm, hk.fl, by simp only; omega⟩
theorem packGo_ok : ∀ (bs : List (List UInt8)) (l : Arc), ArcOk 16777216 l → ArcOk 16777216 (packGo l bs).2
 | [], l, h => h
 | b :: r, l, h => by
   rw [packGo]
   split
   ·exact packGo_ok r _ (putS_ok h)
   ·exact putS_ok h
theorem packS_len (bs : List (List UInt8)) : (packS bs).1.length ≤ 16777216 := by
 unfold packS
 split
 ·rw [arcL_len]; exact (packGo_ok bs [] (ArcOk.nil.mono (by decide))).sz
 ·exact Nat.zero_le _
end Go.Proofs.YtjoiaejbahdjkaaGreat
/-
  The map of an archive's files: names with slices of bytes.
-/
namespace Go.Proofs.YtjoiaejbahdjkaaGreat
open Go Go.RowKit Go.Mine Go.Maps
set_option linter.unusedVariables false
set_option maxRecDepth 100000
theorem lawS : Keyed Tryz.prog 9 := string_keyed Tryz.underlying9
structure En where
 g : Nat
 c : Nat
 f : List UInt8
def En.val (e : En) : Value := .slice (some ⟨e.g, 0, none⟩) e.f.length e.c
def enD (g n c : Nat) : DataW Unit := .agg [.lit (.int .i64 g), .lit (.int .i64 n), .lit (.int .i64 c)]
def En.dat (e : En) : DataW Unit := enD e.g e.f.length e.c
def hdrE : Value → Option (DataW Unit × List MemPlace)
 | .slice none 0 0 => some (.agg [], [])
 | .slice (some ⟨g, 0, none⟩) n c => some (enD g n c, [])
 | _ => none
theorem hdrE_val (e : En) : hdrE e.val = some (e.dat, []) := rfl
theorem hdrE_nil : hdrE (.slice none 0 0) = some (.agg [], []) := rfl
theorem hdrE_inv {v : Value} {d : DataW Unit} {ps : List MemPlace} (h : hdrE v = some (d, ps)) : (v = .slice none 0 0 ∧ d = .agg []) ∨ ∃ g n c, v = .slice (some ⟨g, 0, none⟩) n c ∧ d = enD g n c := by
 unfold hdrE at h
 split at h
 ·simp only [Option.some.injEq, Prod.mk.injEq] at h
  exact .inl ⟨rfl, h.1.symm⟩
 ·rename_i g n c
  simp only [Option.some.injEq, Prod.mk.injEq] at h
  exact .inr ⟨g, n, c, rfl, h.1.symm⟩
 ·cases h
theorem hdrE_dat {v : Value} {e : En} {ps : List MemPlace} (h : hdrE v = some (e.dat, ps)) : v = e.val := by
 rcases hdrE_inv h with ⟨_, h2⟩ | ⟨g, n, c, rfl, h2⟩
 ·unfold En.dat enD at h2
  simp only [DataW.agg.injEq] at h2
  cases h2
 ·unfold En.dat enD at h2
  simp only [DataW.agg.injEq, List.cons.injEq, DataW.lit.injEq, Lit.int.injEq, and_true, true_and, Int.natCast_inj] at h2
  obtain ⟨h3, h4, h5⟩ := h2
  unfold En.val
  rw [h3, h4, h5]
theorem hdrE_none {v : Value} {ps : List MemPlace} (h : hdrE v = some (.agg [], ps)) : v = .slice none 0 0 := by
 rcases hdrE_inv h with ⟨h1, _⟩ | ⟨g, n, c, rfl, h2⟩
 ·exact h1
 ·unfold enD at h2
  simp only [DataW.agg.injEq] at h2
  cases h2
def fval (o : Option En) : Value := match o with
 | some e => e.val
 | none => .slice none 0 0
def fdat (o : Option En) : DataW Unit := match o with
 | some e => e.dat
 | none => .agg []
theorem hdrE_f {v : Value} {o : Option En} {ps : List MemPlace} (h : hdrE v = some (fdat o, ps)) : v = fval o := by
 cases o with
 | none => exact hdrE_none h
 | some e => exact hdrE_dat h
abbrev Ens := List (ByteArray × En)
def HMap (w : World) (B : Nat) (l : Ens) : Prop :=
 UpA l ∧ ∃ D : DataW Unit, w.ownsMap Tryz.prog 9 hdrE B l.length D ∧ Maps.size D = l.length ∧ (∀ x : ByteArray, D.atKey (.string x.data.toList) (.agg []) = fdat (getA l x)) ∧ ∀ x : ByteArray, Maps.has D (.string x.data.toList) = (getA l x).isSome
theorem HMap.mod {S : Nat → Prop} {w w' : World} {B : Nat} {l : Ens} (h : HMap w B l) (m : Mod S w w') (hs : ¬ S B) : HMap w' B l := by
 obtain ⟨hn, D, ho, h2⟩ := h
 refine ⟨hn, D, ?_, h2⟩
 obtain ⟨es, clock, hb, rest⟩ := ho
 exact ⟨es, clock, m.at hb hs, rest⟩
theorem HMap.lt {w : World} {B : Nat} {l : Ens} (h : HMap w B l) : B < w.heap.size := by
 obtain ⟨hn, D, ho, _⟩ := h
 exact ho.lt
theorem HMap.obj {w : World} {B : Nat} {l : Ens} (h : HMap w B l) : ∃ es clock, w.heap[B]? = some (.map es clock) := by
 obtain ⟨hn, D, ho, _⟩ := h
 obtain ⟨es, clock, hb, rest⟩ := ho
 exact ⟨es, clock, hb⟩
theorem HMap.made (w : World) : HMap (w.alloc (.map #[] 0)) w.heap.size [] :=
 ⟨List.Pairwise.nil, .map [], World.ownsMap_made _ _ _ _, rfl, fun x => WideAt.atKey_none _ (fun p h => by cases h), fun x => rfl⟩
theorem owns_fit {w : World} {P : Program} {k : TypeId} {R : Value → Option (DataW Unit × List MemPlace)} {B n : Nat} {D : DataW Unit} (h : w.ownsMap P k R B n D) : w.ownsMap P k R B (Maps.size D) D := by
 obtain ⟨es, clock, hb, F, hs, rfl⟩ := h
 exact ⟨es, clock, hb, F, by simp [Maps.size, length_sorted], rfl⟩
theorem zeroH (w : World) : (zeroValue 23).run Tryz.prog w = .ok (.slice none 0 0) w := by kernel_rfl
theorem HMap.look2 {w : World} {B : Nat} {l : Ens} (h : HMap w B l) (x : ByteArray) (hx : x.size ≤ maxLen) : (Instr.lookup 44 (.map (some B)) (.string x) true).run Tryz.prog w = .ok (.tuple #[fval (getA l x), .bool (getA l x).isSome]) w := by
 obtain ⟨_, D, ho, _, h2, h4⟩ := h
 obtain ⟨v, ps, hrun, hv⟩ := ho.look_ok (e := 23) lawS (t := 44) (by kernel_rfl) (zeroH w) hdrE_nil (WideMaps.keyOf_string_mk Tryz.underlying9 hx)
 rw [h2 x] at hv
 rw [hrun, h4 x, hdrE_f hv]
theorem HMap.look {w : World} {B : Nat} {l : Ens} (h : HMap w B l) (x : ByteArray) (hx : x.size ≤ maxLen) : (Instr.lookup 44 (.map (some B)) (.string x) false).run Tryz.prog w = .ok (fval (getA l x)) w := by
 obtain ⟨_, D, ho, _, h2, h4⟩ := h
 obtain ⟨v, ps, hrun, hv⟩ := ho.lookup (e := 23) lawS (t := 44) (by kernel_rfl) (zeroH w) hdrE_nil (WideMaps.keyOf_string_mk Tryz.underlying9 hx)
 rw [h2 x] at hv
 rw [hrun, hdrE_f hv]
theorem str_lit {x y : ByteArray} (hne : y ≠ x) : (Lit.string y.data.toList) ≠ .string x.data.toList := fun e => hne (by
 simp only [Lit.string.injEq] at e
 exact ByteArray.ext (Array.ext' e))
theorem HMap.put {w : World} {B : Nat} {l : Ens} (h : HMap w B l) (x : ByteArray) (e : En) (hx : x.size ≤ maxLen) (hn : l.length < maxLen) :
 ∃ w', (Instr.mapUpdate 44 (.map (some B)) (.string x) e.val).run Tryz.prog w = .ok () w' ∧ HMap w' B (putA l x e) ∧ w.grownBy w' (some B) := by
 obtain ⟨hnd, D, ho, h3, h2, h4⟩ := h
 obtain ⟨w', hrun, ho', hg⟩ := ho.update (e := 23) lawS (t := 44) (by kernel_rfl) hn (WideMaps.keyOf_string_mk Tryz.underlying9 hx) (hdrE_val e)
 have hkey : WideAt.IsKeyLit (.string x.data.toList) := lawS.key (WideMaps.keyOf_string_mk Tryz.underlying9 hx)
 have hsz : Maps.size (D.put (.string x.data.toList) e.dat) = (putA l x e).length := by
  rw [size_put (ho.tidy lawS), h4 x]
  by_cases hg : (getA l x).isSome = true
  ·rw [putA_old hnd hg, hg, h3]; simp
  ·have hg' : (getA l x).isSome = false := by simpa using hg
   rw [putA_new (by simpa using hg), hg', h3]; simp
 refine ⟨w', hrun, ⟨putA_up hnd, _, hsz ▸ owns_fit ho', hsz, fun y => ?_, fun y => ?_⟩, hg⟩
 ·rw [putA_get hnd]
  by_cases hy : y = x
  ·subst hy
   rw [atKey_put_same ho.isMap hkey, if_pos rfl]; rfl
  ·rw [atKey_put_other (str_lit hy), h2 y, if_neg (fun e => hy e.symm)]
 ·rw [putA_get hnd]
  by_cases hy : y = x
  ·subst hy
   rw [has_put_same ho.isMap hkey, if_pos rfl]; rfl
  ·rw [has_put_other (str_lit hy), h4 y, if_neg (fun e => hy e.symm)]
theorem HMap.len {w : World} {B : Nat} {l : Ens} (h : HMap w B l) (ty : TypeId) : (Builtin.len_ #[44] ty #[.map (some B)]).run Tryz.prog w = .ok (.int .i64 l.length) w := by
 obtain ⟨_, D, ho, h3, _⟩ := h
 rw [ho.len (e := 23) (t := 44) (by kernel_rfl) ty, h3]
end Go.Proofs.YtjoiaejbahdjkaaGreat
/-
  The names of an archive's files, sorted; its map cloned.
-/
namespace Go.Proofs.YtjoiaejbahdjkaaGreat
open Go Go.RowKit Go.Mine Go.Maps Go.Shelf
set_option linter.unusedVariables false
set_option maxHeartbeats 4000000
set_option maxRecDepth 100000
def bl (x : ByteArray) : List UInt8 := x.data.toList
def unbl (l : List UInt8) : ByteArray := ⟨l.toArray⟩
@[simp] theorem unbl_bl (x : ByteArray) : unbl (bl x) = x := by cases x; simp [bl, unbl]
@[simp] theorem bl_unbl (l : List UInt8) : bl (unbl l) = l := by simp [bl, unbl]
theorem bl_inj {x y : ByteArray} (h : bl x = bl y) : x = y := by rw [← unbl_bl x, h, unbl_bl]
theorem blt_bl {x y : ByteArray} (h : blt x y = true) : bl x < bl y := by
 rw [blt_iff] at h
 have h2 := of_decide_eq_true h
 unfold tbs at h2
 rw [ByteArray.toList_eq, ByteArray.toList_eq] at h2
 exact h2
theorem up_sorted {β : Type} {l : List (ByteArray × β)} (h : UpA l) : (l.map fun x => bl x.1).mergeSort leB = l.map fun x => bl x.1 := by
 refine List.mergeSort_of_pairwise ?_
 rw [List.pairwise_map]
 have h1 := List.pairwise_map.1 h
 refine h1.imp fun {x y} hxy => ?_
 simp only [leB, decide_eq_true_eq]
 exact List.le_of_lt (blt_bl hxy)
theorem keysH_any (mb : Option Nat) (W : World) : Calls Tryz.prog 87 #[.map mb] W fun e w' => e = .returned (.func (.func 103) #[] #[.pointer (some ⟨W.heap.size, 0, none⟩)]) ∧ w' = W.alloc (.cells #[.map mb] 44) :=
 (callsIn_wide (n := 5)).1 (AnyZ.keys_in keysA Fence.wide 5 trivial rfl mb W)
theorem sortsA (m : Nat) : AnyZ.SortsIn Tryz.prog sortedA_ren Fence.wide m :=
 ⟨fun blk off cap ss W hH hblk hsz => callsIn_wide.2 (AnyM.slices_Sort_string sortA blk off cap ss W hH hblk hsz),
  fun p cap W => callsIn_wide.2 (AnyM.slices_Sort_string_none sortA p cap W)⟩
theorem sortedH_any (B : Nat) (l : Ens) (W : World) (h : HMap W B l) (hl : l.length ≤ 2 ^ 42) :
 Calls Tryz.prog 86 #[.func (.func 103) #[] #[.pointer (some ⟨W.heap.size, 0, none⟩)]] (W.alloc (.cells #[.map (some B)] 44)) fun e w' =>
  ∃ a c, e = .returned (.slice a l.length c) ∧ Rd w' a (sts (l.map (·.1))) ∧ (∀ x ∈ l, x.1.size ≤ maxLen) ∧ (∀ b, blk a = some b → W.heap.size < b) ∧ Mod (fun _ => False) (W.alloc (.cells #[.map (some B)] 44)) w' := by
 obtain ⟨hup, D0, hown, h3, h2, h4⟩ := h
 have hnd := hup.nodup
 refine (callsIn_wide (n := 5)).1 ?_
 have hbl := hown.lt
 have hseq : SeqGives Fence.wide 2 Tryz.prog 103 #[.pointer (some ⟨W.heap.size, 0, none⟩)] encStr (fun ss => ss.Perm (strKeys D0)) (Maps.size D0) (W.alloc (.cells #[.map (some B)] 44)) :=
  AnyZ.keys_gives (ρ := keysA_ren) { keysA with } Fence.wide _ trivial rfl (by omega) W.heap.size B l.length D0 _ (by simp) (by simp) (by
   obtain ⟨es, clock, hb, Ft, hs, hD⟩ := hown
   exact ⟨es, clock, (Below.heap_alloc _ _ B hbl).trans hb, Ft, hs, hD⟩)
 have cS := AnyZ.sorted_in sortedA Fence.wide 5 trivial trivial trivial trivial rfl (by omega) (sortsA _) (enters_of Tryz.func102 (by kernel_rfl) rfl) 103 #[.pointer (some ⟨W.heap.size, 0, none⟩)] trivial (enters_of Tryz.func103 (by kernel_rfl) rfl) _ (Maps.size D0) (by rw [h3]; unfold maxLen; omega) (by rw [h3]; omega) _ hseq
 refine CallsIn.mono cS ?_
 rintro e w' ⟨v, ss, rfl, hS, hrow, hnil, hb⟩
 have hper : (l.map fun x => bl x.1).Perm (strKeys D0) := by
  refine Collected.perm (left := fun _ => false) ⟨?_, fun x => ?_⟩ hown lawS Tryz.underlying9 (fun _ => rfl)
  ·have e : (l.map fun x => bl x.1) = (l.map (·.1)).map bl := by rw [List.map_map]; rfl
   rw [e]
   exact List.pairwise_map.2 (hnd.imp (fun {x y} hne e => hne (bl_inj e)))
  ·have h5 := h4 (unbl x)
   have e : (unbl x).data.toList = x := by simp [unbl]
   rw [e] at h5
   rw [h5, getA_isSome, List.mem_map, List.mem_map]
   constructor
   ·rintro ⟨p, hp, rfl⟩; exact ⟨⟨p, hp, by simp⟩, rfl⟩
   ·rintro ⟨⟨p, hp, hpx⟩, _⟩; exact ⟨p, hp, by rw [hpx]; simp⟩
 have hss : ss.mergeSort leB = (l.map fun x => bl x.1).mergeSort leB := mergeSort_of_perm (hS.trans hper.symm)
 have hlen : ss.length = l.length := by rw [(hS.trans hper.symm).length_eq, List.length_map]
 have hst : sts (l.map (·.1)) = (ss.mergeSort leB).map encStr := by
  rw [hss, up_sorted hup]
  unfold sts
  rw [List.map_map, List.map_map]
  refine List.map_congr_left fun p hp => ?_
  show Value.string p.1 = .string ⟨(bl p.1).toArray⟩
  unfold bl
  simp
 have hsm : ∀ x ∈ l, x.1.size ≤ maxLen := fun x hx => by
  have h5 := strKeys_le hown Tryz.underlying9 _ (hper.mem_iff.1 (List.mem_map.2 ⟨x, hx, rfl⟩))
  unfold bl at h5
  rw [Array.length_toList] at h5
  exact h5
 rw [hst]
 obtain ⟨r1, r2⟩ := hrow
 rcases r2 with ⟨rfl, h0⟩ | ⟨g, cap, cur, rfl, hbase, hg, r3, r4, r5, r6⟩
 ·refine ⟨none, 0, by rw [← hlen, h0], ?_, hsm, ?_, ⟨hb.os, hb.tape, hb.output, hb.size, fun k hk _ => hb.block k hk⟩⟩
  have : ss = [] := List.eq_nil_of_length_eq_zero h0
  subst this
  ·simp [Rd.nil]
  ·intro b hb; cases hb
 ·refine ⟨some ⟨g, 0, none⟩, cap, by rw [hlen], ?_, hsm, ?_, ⟨hb.os, hb.tape, hb.output, hb.size, fun k hk _ => hb.block k hk⟩⟩
  have ho : Mine.Own w' 9 1 (some ⟨g, 0, none⟩) ss.length cap ((ss.mergeSort leB).map encStr) := ⟨r1, .inr ⟨g, cur, rfl, hg, r3, r4, r5, r6⟩⟩
  ·exact ho.rd
  ·intro b hb
   have hg : g = b := by simpa [blk] using hb
   have h2 := hbase
   simp at h2
   omega
theorem sortedH_nil (W : World) :
 Calls Tryz.prog 86 #[.func (.func 103) #[] #[.pointer (some ⟨W.heap.size, 0, none⟩)]] (W.alloc (.cells #[.map none] 44)) fun e w' =>
  e = .returned (.slice none 0 0) ∧ Mod (fun _ => False) (W.alloc (.cells #[.map none] 44)) w' := by
 refine (callsIn_wide (n := 5)).1 ?_
 have hseq : SeqGives Fence.wide 2 Tryz.prog 103 #[.pointer (some ⟨W.heap.size, 0, none⟩)] encStr (fun ss : List (List UInt8) => ss = []) 0 (W.alloc (.cells #[.map none] 44)) :=
  AnyZ.keys_gives_nil (ρ := keysA_ren) { keysA with } Fence.wide _ trivial rfl W.heap.size _ (by simp) (by simp)
 have cS := AnyZ.sorted_in sortedA Fence.wide 5 trivial trivial trivial trivial rfl (by omega) (sortsA _) (enters_of Tryz.func102 (by kernel_rfl) rfl) 103 #[.pointer (some ⟨W.heap.size, 0, none⟩)] trivial (enters_of Tryz.func103 (by kernel_rfl) rfl) _ 0 (by unfold maxLen; omega) (by omega) _ hseq
 refine CallsIn.mono cS ?_
 rintro e w' ⟨v, ss, rfl, hS, hrow, hnil, hb⟩
 subst hS
 refine ⟨?_, ⟨hb.os, hb.tape, hb.output, hb.size, fun k hk _ => hb.block k hk⟩⟩
 obtain ⟨r1, r2⟩ := hrow
 rcases r2 with ⟨rfl, h0⟩ | ⟨g, cap, cur, rfl, hbase, hg, r3, r4, r5, r6⟩
 ·rfl
 ·exact congrArg Ending.returned (hnil.2 rfl)
def MAt (w : World) (mb : Option Nat) (l : Ens) : Prop := (mb = none ∧ l = []) ∨ ∃ B, mb = some B ∧ HMap w B l
theorem MAt.mod {S : Nat → Prop} {w w' : World} {mb : Option Nat} {l : Ens} (h : MAt w mb l) (m : Mod S w w') (hs : ∀ b, mb = some b → ¬ S b) : MAt w' mb l := by
 rcases h with h | ⟨B, e, h⟩
 ·exact .inl h
 ·exact .inr ⟨B, e, h.mod m (hs B e)⟩
theorem MAt.lt {w : World} {mb : Option Nat} {l : Ens} (h : MAt w mb l) : ∀ b, mb = some b → b < w.heap.size := by
 rintro b rfl
 rcases h with ⟨h, _⟩ | ⟨B, e, h⟩
 ·cases h
 ·cases e; exact h.lt
theorem clone_nil26 (w : World) : Calls Tryz.prog 47 #[.map none] w fun e w' => e = .returned (.map none) ∧ w = w' := by
 refine (AnyW.maps_Clone_nil cloneA w).mono ?_
 rintro e w' ⟨rfl, rfl⟩
 exact ⟨rfl, rfl⟩
theorem clone_map26 (B : Nat) (l : Ens) (w : World) (h : HMap w B l) : Calls Tryz.prog 47 #[.map (some B)] w fun e w' => e = .returned (.map (some w.heap.size)) ∧ HMap w' w.heap.size l ∧ Mod (fun _ => False) w w' := by
 obtain ⟨hup, D, ho, h3, h2, h4⟩ := h
 refine (AnyW.maps_Clone_owns cloneA 9 hdrE B l.length D w ho).mono ?_
 rintro e w' ⟨rfl, k1, _, k2⟩
 exact ⟨rfl, ⟨hup, D, k1, h3, h2, h4⟩, Mod.ofBelow k2⟩
theorem names_any (p : Nat) (mb : Option Nat) (l : Ens) (w : World) (hp : w.heap[p]? = some (.cells #[.map mb] 46 (0, 0))) (h : MAt w mb l) (hl : l.length ≤ 2 ^ 42) :
 Calls Tryz.prog 52 #[.pointer (some ⟨p, 0, none⟩)] w fun e w' => ∃ a c, e = .returned (.slice a l.length c) ∧ Rd w' a (sts (l.map (·.1))) ∧ (∀ x ∈ l, x.1.size ≤ maxLen) ∧ (∀ b, blk a = some b → w.heap.size < b) ∧ Mod (fun _ => False) w w' := by
 have p0 := cell_at (j := 0) hp rfl
 have H := Hi h
 clear hp h
 go_enter Tryz.func52, Tryz.ntmps52
 go_wp2_with fail
 refine (keysH_any mb w).mono ?_
 rintro e w1 ⟨rfl, rfl⟩
 rcases H.out with ⟨rfl, rfl⟩ | ⟨B, rfl, hB⟩
 ·go_wp2_with fail
  refine (sortedH_nil w).mono ?_
  rintro e w2 ⟨rfl, hm⟩
  have HM := Hi hm
  clear hm
  go_wp2_with fail
  go_ret
  exact ⟨none, 0, rfl, Rd.nil _ _, (fun _ h => by cases h), (fun _ h => by cases h), ((Mod.refl _ w).alloc _).step HM.out fun _ _ e => e⟩
 ·have HS := Hi (sortedH_any B l w hB hl)
  clear hB H
  go_wp2_with fail
  refine HS.out.mono ?_
  rintro e w2 ⟨a, c, rfl, hr, hx, hf, hm⟩
  have HM := Hi hm
  have HR := Hi hr
  have HX := Hi hx
  have HF := Hi hf
  clear hm hr hx hf
  go_wp2_with fail
  go_ret
  exact ⟨a, c, rfl, HR.out, HX.out, HF.out, ((Mod.refl _ w).alloc _).step HM.out fun _ _ e => e⟩
end Go.Proofs.YtjoiaejbahdjkaaGreat
