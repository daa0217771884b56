/-
  The plain law of opening an archive's bytes.
-/
import Derived.Test.YtjoiaejbahdjkaaGreatAgA
import Derived.Test.YtjoiaejbahdjkaaGreatFgB
import Derived.Test.YtjoiaejbahdjkaaGreatFgA
import Derived.Test.YtjoiaejbahdjkaaGreatAgC
import Derived.Test.YtjoiaejbahdjkaaGreatArcY
import Derived.Test.YtjoiaejbahdjkaaGreatFgC
import Derived.Test.YtjoiaejbahdjkaaGreatAgF
namespace Go.Proofs.YtjoiaejbahdjkaaGreat
open Go Go.RowKit Go.Mine
set_option linter.unusedVariables false
structure ValidA (l : Arc) : Prop where
 up : UpA l
 ok : ∀ p ∈ l, decA p.2 = .ok p.1
theorem ValidA.nil : ValidA [] := ⟨List.Pairwise.nil, fun _ h => by cases h⟩
theorem ValidA.put {l : Arc} (h : ValidA l) {x : ByteArray} {f : List UInt8} (hd : decA f = .ok x) : ValidA (putA l x f) :=
 ⟨putA_up h.up, fun p hp => by
  rcases putA_mem p hp with rfl | hp
  ·exact hd
  ·exact h.ok p hp⟩
theorem ValidA.arcOk {l : Arc} (h : ValidA l) {m : Nat} (hm : arSz l ≤ m) : ArcOk m l :=
 ⟨h.up, fun p hp => (decA_ok (h.ok p hp)).1, fun p hp => ⟨(decA_ok (h.ok p hp)).2.1, (decA_ok (h.ok p hp)).2.2.1⟩, hm⟩
def IsArc (b : List UInt8) (l : Arc) : Prop := ValidA l ∧ arcL l = b
def inA (b : List UInt8) : List UInt8 := (b.drop 10).take (b.length - 14)
def ptabGo (m : List UInt8) : Nat → Nat → List Nat → List Nat × Nat × Nat
 | 0, a, ss => (ss, a, 0)
 | n + 1, a, ss =>
   if (stText 4096 m a 0).2.2 ≠ 0 then (ss, (stText 4096 m a 0).2.1, (stText 4096 m a 0).2.2)
   else if (stNum m (stText 4096 m a 0).2.1 0).2.2 ≠ 0 then (ss ++ [0], (stNum m (stText 4096 m a 0).2.1 0).2.1, (stNum m (stText 4096 m a 0).2.1 0).2.2)
   else ptabGo m n (stNum m (stText 4096 m a 0).2.1 0).2.1 (ss ++ [(stNum m (stText 4096 m a 0).2.1 0).1])
noncomputable def pfilGo (m : List UInt8) (lim : Nat) : List Nat → Nat → Arc → Option (Arc × Nat)
 | [], a, l => some (l, a)
 | s :: ss, a, l =>
   if lim < s then none
   else if m.length - a < s then none
   else match decA ((m.drop a).take s) with
    | .error _ => none
    | .ok x => pfilGo m lim ss (a + s) (putA l x ((m.drop a).take s))
noncomputable def popen (b : List UInt8) : Option Arc :=
 if (stNum (inA b) 0 0).2.2 ≠ 0 then none
 else if (ptabGo (inA b) (stNum (inA b) 0 0).1 (stNum (inA b) 0 0).2.1 []).2.2 ≠ 0 then none
 else match pfilGo (inA b) b.length (ptabGo (inA b) (stNum (inA b) 0 0).1 (stNum (inA b) 0 0).2.1 []).1 (ptabGo (inA b) (stNum (inA b) 0 0).1 (stNum (inA b) 0 0).2.1 []).2.1 [] with
  | none => none
  | some (l, a) => if a = (inA b).length ∧ arcL l = b then some l else none
theorem pfil_valid {m : List UInt8} {lim : Nat} : ∀ (ss : List Nat) (a : Nat) (l l' : Arc) (a' : Nat), pfilGo m lim ss a l = some (l', a') → ValidA l → ValidA l'
 | [], a, l, l', a', h, hv => by
   rw [pfilGo] at h
   simp only [Option.some.injEq, Prod.mk.injEq] at h
   rw [← h.1]; exact hv
 | s :: ss, a, l, l', a', h, hv => by
   rw [pfilGo] at h
   split at h
   ·cases h
   ·split at h
    ·cases h
    ·cases hd : decA ((m.drop a).take s) with
     | error k => rw [hd] at h; cases h
     | ok x => rw [hd] at h; exact pfil_valid ss _ _ l' a' h (hv.put hd)
theorem popen_sound {b : List UInt8} {l : Arc} (h : popen b = some l) : IsArc b l := by
 unfold popen at h
 split at h
 ·cases h
 ·split at h
  ·cases h
  ·split at h
   ·cases h
   ·rename_i l' a' he
    split at h
    ·rename_i hc
     cases h
     exact ⟨pfil_valid _ _ _ _ _ he ValidA.nil, hc.2⟩
    ·cases h
theorem inA_arc (l : Arc) : inA (arcL l) = arTab l ++ l.flatMap (·.2) := by
 unfold inA
 rw [arcL_len, show arSz l - 14 = (arTab l ++ l.flatMap (·.2)).length by unfold arSz; rw [List.length_append, arLen_flat]; omega]
 have h1 : arcL l = arHead (arSz l) ++ ((arTab l ++ l.flatMap (·.2)) ++ fourL (crcL (arBody l))) := by unfold arcL arBody; simp only [List.append_assoc]
 rw [h1, List.drop_left' (by rfl), List.take_left]
theorem ptab_back {m r : List UInt8} : ∀ (l : Arc) (a : Nat) (ss : List Nat), m.drop a = l.flatMap arEnt ++ r → (∀ p ∈ l, p.1.size ≤ 4096 ∧ p.2.length < 2 ^ 64) →
 ptabGo m l.length a ss = (ss ++ l.map (fun p => p.2.length), a + (l.flatMap arEnt).length, 0)
 | [], a, ss, h, hb => by simp [ptabGo]
 | p :: l, a, ss, h, hb => by
   obtain ⟨h1, h2⟩ := hb p (by simp)
   have ht : m.drop a = lebl (tbs p.1).length ++ tbs p.1 ++ (lebl p.2.length ++ (l.flatMap arEnt ++ r)) := by
    rw [h, tbs_len]
    simp [arEnt, arText]
   have e1 := text_back (most := 4096) ht (by rw [tbs_len]; exact h1) (by rw [tbs_len]; omega)
   rw [tbs_len] at e1
   have ht2 : m.drop (a + (lebl p.1.size).length + p.1.size) = lebl p.2.length ++ (l.flatMap arEnt ++ r) := by
    rw [← List.drop_drop, ← List.drop_drop, ht, tbs_len, List.append_assoc, List.drop_left, List.drop_left' (tbs_len p.1)]
   have e2 := num_back ht2 h2
   rw [List.length_cons, ptabGo, e1]
   simp only
   rw [if_neg (by simp), e2]
   simp only
   rw [if_neg (by simp)]
   have ht3 : m.drop (a + (lebl p.1.size).length + p.1.size + (lebl p.2.length).length) = l.flatMap arEnt ++ r := by
    rw [← List.drop_drop, ht2, List.drop_left]
   rw [ptab_back l _ _ ht3 fun q hq => hb q (List.mem_cons_of_mem _ hq)]
   simp only [List.append_assoc, List.singleton_append, List.map_cons, List.flatMap_cons, List.length_append, arEnt, arText, tbs_len]
   congr 2
   omega
theorem putA_last {l : Arc} {x : ByteArray} {f : List UInt8} (h : UpA (l ++ [(x, f)])) : putA l x f = l ++ [(x, f)] := by
 induction l with
 | nil => rfl
 | cons p r ih =>
   obtain ⟨y, g⟩ := p
   have h1 : blt y x = true := h.head (q := (x, f)) (by simp)
   rw [putA, if_pos h1, ih h.tail]; rfl
theorem pfil_back {m r : List UInt8} {lim : Nat} : ∀ (l : Arc) (a : Nat) (l0 : Arc), m.drop a = l.flatMap (·.2) ++ r → UpA (l0 ++ l) → (∀ p ∈ l, decA p.2 = .ok p.1 ∧ p.2.length ≤ lim) →
 pfilGo m lim (l.map fun p => p.2.length) a l0 = some (l0 ++ l, a + (l.flatMap (·.2)).length)
 | [], a, l0, h, hu, hb => by simp [pfilGo]
 | p :: l, a, l0, h, hu, hb => by
   obtain ⟨x, f⟩ := p
   obtain ⟨h1, h2⟩ := hb (x, f) (by simp)
   simp only at h1 h2
   have hd : m.drop a = f ++ (l.flatMap (·.2) ++ r) := by rw [h]; simp
   have hlen := congrArg List.length hd
   rw [List.length_drop, List.length_append] at hlen
   have ht : (m.drop a).take f.length = f := by rw [hd, List.take_left]
   rw [List.map_cons, pfilGo, if_neg (by simp only; omega), if_neg (by simp only; omega)]
   simp only
   rw [ht, h1]
   simp only
   have hu2 : UpA ((l0 ++ [(x, f)]) ++ l) := by rw [List.append_assoc]; exact hu
   have hu3 : UpA (l0 ++ [(x, f)]) := by
    unfold UpA at hu2 ⊢
    rw [List.map_append] at hu2
    exact (List.pairwise_append.1 hu2).1
   rw [putA_last hu3]
   rw [pfil_back l (a + f.length) (l0 ++ [(x, f)]) (by rw [← List.drop_drop, hd, List.drop_left]) hu2 fun q hq => hb q (List.mem_cons_of_mem _ hq)]
   simp only [List.append_assoc, List.singleton_append, List.flatMap_cons, List.length_append]
   congr 2
   omega
theorem popen_back {b : List UInt8} {l : Arc} (h : IsArc b l) (hb : b.length ≤ 16777216) : popen b = some l := by
 obtain ⟨hv, he⟩ := h
 have hsz : arSz l ≤ 16777216 := by rw [← arcL_len, he]; exact hb
 have hA := hv.arcOk hsz
 have hfew := hA.few
 have hm : inA b = arTab l ++ l.flatMap (·.2) := by rw [← he, inA_arc]
 have h0 : (inA b).drop 0 = lebl l.length ++ (l.flatMap arEnt ++ l.flatMap (·.2)) := by rw [List.drop_zero, hm]; unfold arTab; rw [List.append_assoc]
 have e0 := num_back h0 (by omega)
 rw [Nat.zero_add] at e0
 have h1 : (inA b).drop (lebl l.length).length = l.flatMap arEnt ++ l.flatMap (·.2) := by
  have := congrArg (List.drop (lebl l.length).length) h0
  rw [List.drop_zero, List.drop_left] at this
  exact this
 have e1 := ptab_back l _ [] h1 fun p hp => ⟨hA.nm p hp, by have := (hA.fl p hp).2; omega⟩
 have h2 : (inA b).drop ((lebl l.length).length + (l.flatMap arEnt).length) = l.flatMap (·.2) ++ [] := by rw [← List.drop_drop, h1, List.drop_left, List.append_nil]
 have hlim : ∀ p ∈ l, decA p.2 = .ok p.1 ∧ p.2.length ≤ b.length := fun p hp => ⟨hv.ok p hp, by
  rw [← he, arcL_len]
  have h3 : p.2.length ≤ arLen l := sum_mem (fun q : ByteArray × List UInt8 => q.2.length) l p hp
  unfold arSz
  omega⟩
 have e2 := pfil_back (lim := b.length) l _ [] h2 hv.up hlim
 unfold popen
 rw [e0]
 simp only
 rw [if_neg (by simp), e1]
 simp only
 rw [if_neg (by simp)]
 simp only [List.nil_append] at e2 ⊢
 rw [e2]
 simp only
 have hfin : (lebl l.length).length + (l.flatMap arEnt).length + (l.flatMap (·.2)).length = (inA b).length := by
  rw [hm]
  unfold arTab
  rw [List.length_append, List.length_append]
 rw [if_pos ⟨hfin, he⟩]
theorem isArc_uniq {b : List UInt8} {l l' : Arc} (h : IsArc b l) (h' : IsArc b l') (hb : b.length ≤ 16777216) : l = l' := by
 have h1 := popen_back h hb
 rw [popen_back h' hb] at h1
 exact (Option.some.inj h1).symm
end Go.Proofs.YtjoiaejbahdjkaaGreat
/-
  The document's way of opening: the plain law.
-/
namespace Go.Proofs.YtjoiaejbahdjkaaGreat
open Go Go.RowKit Go.Mine
set_option linter.unusedVariables false
def dtabGo (m : List UInt8) : Nat → Nat → List Nat → Option (List Nat × Nat)
 | 0, a, ss => some (ss, a)
 | n + 1, a, ss =>
   if (getL (m.drop a)).2.2 ≠ 0 then none
   else if m.length - a - (getL (m.drop a)).2.1 < (getL (m.drop a)).1 then none
   else if (getL (m.drop (a + (getL (m.drop a)).2.1 + (getL (m.drop a)).1))).2.2 ≠ 0 then none
   else if m.length < (getL (m.drop (a + (getL (m.drop a)).2.1 + (getL (m.drop a)).1))).1 then none
   else dtabGo m n (a + (getL (m.drop a)).2.1 + (getL (m.drop a)).1 + (getL (m.drop (a + (getL (m.drop a)).2.1 + (getL (m.drop a)).1))).2.1) (ss ++ [(getL (m.drop (a + (getL (m.drop a)).2.1 + (getL (m.drop a)).1))).1])
def dsizes (m : List UInt8) : Option (List Nat × Nat) :=
 if (getL m).2.2 ≠ 0 then none else if m.length < (getL m).1 then none else dtabGo m (getL m).1 (getL m).2.1 []
noncomputable def dfilGo (b : List UInt8) : List Nat → Nat → Arc → Option Arc
 | [], a, l => some l
 | s :: ss, a, l =>
   if b.length - 4 - a < s then none
   else if (putS l ((b.drop a).take s)).1 ≠ 0 then none
   else dfilGo b ss (a + s) (putS l ((b.drop a).take s)).2
noncomputable def dopen (b : List UInt8) : Option Arc :=
 match dsizes (inA b) with
 | none => none
 | some (ss, a) => match dfilGo b ss (a + 10) [] with
   | none => none
   | some l => if arcL l = b then some l else none
theorem putS_valid {l : Arc} {b : List UInt8} (h : ValidA l) (h0 : (putS l b).1 = 0) : ValidA (putS l b).2 := by
 unfold putS at h0 ⊢
 cases hd : decA b with
 | error k => exact h
 | ok x =>
   rw [hd] at h0
   simp only at h0 ⊢
   split
   ·rename_i hb; rw [if_pos hb] at h0; cases h0
   ·exact h.put hd
theorem dfil_valid {b : List UInt8} : ∀ (ss : List Nat) (a : Nat) (l l' : Arc), dfilGo b ss a l = some l' → ValidA l → ArcOk 16777216 l → ValidA l' ∧ ArcOk 16777216 l'
 | [], a, l, l', h, hv, ho => by
   rw [dfilGo] at h
   cases h
   exact ⟨hv, ho⟩
 | s :: ss, a, l, l', h, hv, ho => by
   rw [dfilGo] at h
   split at h
   ·cases h
   ·split at h
    ·cases h
    ·rename_i h0
     exact dfil_valid ss _ _ l' h (putS_valid hv (by simpa using h0)) (putS_ok ho)
theorem dopen_sound {b : List UInt8} {l : Arc} (h : dopen b = some l) : IsArc b l := by
 unfold dopen at h
 split at h
 ·cases h
 ·split at h
  ·cases h
  ·rename_i l' he
   split at h
   ·rename_i hc
    cases h
    exact ⟨(dfil_valid _ _ _ _ he ValidA.nil (ArcOk.nil.mono (by decide))).1, hc⟩
   ·cases h
theorem dtab_back {m r : List UInt8} : ∀ (l : Arc) (a : Nat) (ss : List Nat), m.drop a = l.flatMap arEnt ++ r → a ≤ m.length → (∀ p ∈ l, p.1.size < 2 ^ 64 ∧ p.2.length < 2 ^ 64 ∧ p.2.length ≤ m.length) →
 dtabGo m l.length a ss = some (ss ++ l.map (fun p => p.2.length), a + (l.flatMap arEnt).length)
 | [], a, ss, h, ha, hb => by simp [dtabGo]
 | p :: l, a, ss, h, ha, hb => by
   obtain ⟨h1, h2, h3⟩ := hb p (by simp)
   have ht : m.drop a = lebl p.1.size ++ (tbs p.1 ++ (lebl p.2.length ++ (l.flatMap arEnt ++ r))) := by
    rw [h]
    simp [arEnt, arText]
   have e1 : getL (m.drop a) = (p.1.size, (lebl p.1.size).length, 0) := by rw [ht]; exact getL_lebl h1 _
   have hlen := congrArg List.length ht
   rw [List.length_drop, List.length_append, List.length_append, tbs_len] at hlen
   have ht2 : m.drop (a + (lebl p.1.size).length + p.1.size) = lebl p.2.length ++ (l.flatMap arEnt ++ r) := by
    rw [← List.drop_drop, ← List.drop_drop, ht, List.drop_left, List.drop_left' (tbs_len p.1)]
   have e2 : getL (m.drop (a + (lebl p.1.size).length + p.1.size)) = (p.2.length, (lebl p.2.length).length, 0) := by rw [ht2]; exact getL_lebl h2 _
   have hlen2 := congrArg List.length ht2
   rw [List.length_drop, List.length_append] at hlen2
   rw [List.length_cons, dtabGo, e1]
   simp only
   rw [if_neg (by simp), if_neg (by omega), e2]
   simp only
   rw [if_neg (by simp), if_neg (by omega)]
   have ht3 : m.drop (a + (lebl p.1.size).length + p.1.size + (lebl p.2.length).length) = l.flatMap arEnt ++ r := by
    rw [← List.drop_drop, ht2, List.drop_left]
   have hne : 0 < (lebl p.2.length).length := lebl_pos _
   rw [dtab_back l _ _ ht3 (by omega) fun q hq => hb q (List.mem_cons_of_mem _ hq)]
   simp only [List.append_assoc, List.singleton_append, List.map_cons, List.flatMap_cons, List.length_append, arEnt, arText, tbs_len]
   congr 2
   omega
theorem lebl_mono {a b : Nat} (h : a ≤ b) : (lebl a).length ≤ (lebl b).length := by
 induction b using Nat.strongRecOn generalizing a with
 | ind b ih =>
   by_cases ha : a < 128
   ·rw [lebl_small ha]; exact lebl_pos b
   ·rw [lebl_big (by omega), lebl_big (n := b) (by omega), List.length_cons, List.length_cons]
    have := ih (b / 128) (by omega) (a := a / 128) (by omega)
    omega
theorem sz_le {l0 l : Arc} (h : UpA (l0 ++ l)) (hf : ∀ p ∈ l0 ++ l, p.1.size ≤ 4096 ∧ p.2.length ≤ 16777216) : arSz l0 ≤ arSz (l0 ++ l) := by
 rw [arSz_eq, arSz_eq, List.map_append, List.sum_append]
 have h1 : (lebl l0.length).length ≤ (lebl (l0 ++ l).length).length := by
  rw [List.length_append]
  exact lebl_mono (by omega)
 omega
theorem dfil_back {b r : List UInt8} : ∀ (l : Arc) (a : Nat) (l0 : Arc), b.drop a = l.flatMap (·.2) ++ r → r.length = 4 → ValidA (l0 ++ l) → arSz (l0 ++ l) ≤ 16777216 →
 dfilGo b (l.map fun p => p.2.length) a l0 = some (l0 ++ l)
 | [], a, l0, h, hr, hv, hs => by simp [dfilGo]
 | p :: l, a, l0, h, hr, hv, hs => by
   obtain ⟨x, f⟩ := p
   have hd : b.drop a = f ++ (l.flatMap (·.2) ++ r) := by rw [h]; simp
   have hlen := congrArg List.length hd
   rw [List.length_drop, List.length_append, List.length_append, hr] at hlen
   have ht : (b.drop a).take f.length = f := by rw [hd, List.take_left]
   have hv2 : ValidA ((l0 ++ [(x, f)]) ++ l) := by rw [List.append_assoc]; exact hv
   have hu3 : UpA (l0 ++ [(x, f)]) := by
    have hu2 := hv2.up
    unfold UpA at hu2 ⊢
    rw [List.map_append] at hu2
    exact (List.pairwise_append.1 hu2).1
   have hdx : decA f = .ok x := hv.ok (x, f) (by simp)
   have hok : ArcOk 16777216 ((l0 ++ [(x, f)]) ++ l) := hv2.arcOk (by rw [List.append_assoc]; exact hs)
   have hsz : arSz (l0 ++ [(x, f)]) ≤ 16777216 := Nat.le_trans (sz_le hv2.up fun p hp => ⟨hok.nm p hp, (hok.fl p hp).2⟩) hok.sz
   have hps : putS l0 f = (0, l0 ++ [(x, f)]) := by
    unfold putS
    rw [hdx]
    simp only
    rw [putA_last hu3, if_neg (by omega)]
   rw [List.map_cons, dfilGo, if_neg (by simp only; omega)]
   simp only
   rw [ht, hps]
   simp only
   rw [if_neg (by simp)]
   rw [dfil_back l (a + f.length) (l0 ++ [(x, f)]) (by rw [← List.drop_drop, hd, List.drop_left]) hr hv2 (by rw [List.append_assoc]; exact hs)]
   rw [List.append_assoc]; rfl
theorem dopen_back {b : List UInt8} {l : Arc} (h : IsArc b l) (hb : b.length ≤ 16777216) : dopen b = some l := by
 obtain ⟨hv, he⟩ := h
 have hsz : arSz l ≤ 16777216 := by rw [← arcL_len, he]; exact hb
 have hA := hv.arcOk hsz
 have hfew := hA.few
 have hm : inA b = lebl l.length ++ (l.flatMap arEnt ++ l.flatMap (·.2)) := by
  rw [← he, inA_arc]; unfold arTab; rw [List.append_assoc]
 have hml := congrArg List.length hm
 rw [List.length_append, List.length_append] at hml
 have hls : 2 * l.length ≤ (l.flatMap arEnt).length + (l.flatMap (·.2)).length := by
  have h1 := len_sum l
  have h2 : (l.map arEntN).sum = (l.flatMap arEnt).length + (l.flatMap (·.2)).length := by
   have h3 := arSz_eq l
   unfold arSz arTab at h3
   rw [List.length_append, ← arLen_flat] at h3
   omega
  omega
 have e0 : getL (inA b) = (l.length, (lebl l.length).length, 0) := by rw [hm]; exact getL_lebl (by omega) _
 have h1 : (inA b).drop (lebl l.length).length = l.flatMap arEnt ++ l.flatMap (·.2) := by rw [hm, List.drop_left]
 have e1 := dtab_back l _ [] h1 (by omega) fun p hp => ⟨by have := hA.nm p hp; omega, by have := (hA.fl p hp).2; omega, by
  have h3 : p.2.length ≤ arLen l := sum_mem (fun q : ByteArray × List UInt8 => q.2.length) l p hp
  rw [← arLen_flat] at h3
  omega⟩
 have hbd : b.drop ((lebl l.length).length + (l.flatMap arEnt).length + 10) = l.flatMap (·.2) ++ fourL (crcL (arBody l)) := by
  have hbb : b = (arHead (arSz l) ++ (lebl l.length ++ l.flatMap arEnt)) ++ (l.flatMap (·.2) ++ fourL (crcL (arBody l))) := by
   rw [← he]; unfold arcL arBody arTab; simp only [List.append_assoc]
  have hdl : (arHead (arSz l) ++ (lebl l.length ++ l.flatMap arEnt)).length = (lebl l.length).length + (l.flatMap arEnt).length + 10 := by
   rw [List.length_append, List.length_append, show (arHead (arSz l)).length = 10 from rfl]; omega
  have h9 := congrArg (List.drop ((lebl l.length).length + (l.flatMap arEnt).length + 10)) hbb
  rw [List.drop_left' hdl] at h9
  exact h9
 have e2 := dfil_back l _ [] hbd rfl hv hsz
 unfold dopen dsizes
 rw [e0]
 simp only
 rw [if_neg (by simp), if_neg (by omega), e1]
 simp only [List.nil_append] at e2 ⊢
 rw [e2]
 simp only
 rw [if_pos he]
theorem open_same {b : List UInt8} (hb : b.length ≤ 16777216) : popen b = dopen b := by
 cases hp : popen b with
 | some l => exact (dopen_back (popen_sound hp) hb).symm
 | none =>
   cases hd : dopen b with
   | none => rfl
   | some l => rw [popen_back (dopen_sound hd) hb] at hp; cases hp
end Go.Proofs.YtjoiaejbahdjkaaGreat
/-
  Ten bytes against ten bytes; reads of a reader that is at fault.
-/
namespace Go.Proofs.YtjoiaejbahdjkaaGreat
open Go Go.RowKit Go.Mine
set_option linter.unusedVariables false
set_option maxHeartbeats 8000000
set_option maxRecDepth 100000
theorem ten_eq (x0 x1 x2 x3 x4 x5 x6 x7 x8 x9 y0 y1 y2 y3 y4 y5 y6 y7 y8 y9 : Int) (w : World) : (binOp .eql 61 (.agg #[.int .u8 x0, .int .u8 x1, .int .u8 x2, .int .u8 x3, .int .u8 x4, .int .u8 x5, .int .u8 x6, .int .u8 x7, .int .u8 x8, .int .u8 x9]) (.agg #[.int .u8 y0, .int .u8 y1, .int .u8 y2, .int .u8 y3, .int .u8 y4, .int .u8 y5, .int .u8 y6, .int .u8 y7, .int .u8 y8, .int .u8 y9])).run Tryz.prog w = .ok (.bool (x0 == y0 && x1 == y1 && x2 == y2 && x3 == y3 && x4 == y4 && x5 == y5 && x6 == y6 && x7 == y7 && x8 == y8 && x9 == y9)) w := by
 have hS : Tryz.prog.underlying 61 = some (.array 10 5) := by kernel_rfl
 obtain ⟨i, hi⟩ : ∃ i, Tryz.prog.info? 5 = some i := ⟨_, rfl⟩
 have hc : Tryz.prog.cellsOf 5 = 1 := by kernel_rfl
 have u5 := Tryz.underlying5
 rw [run_eql_struct, show (10000 : Nat) = 9999 + 1 from rfl, run_equalIn_array w 9999 _ _ hS hi, hc, show List.range 10 = [0, 1, 2, 3, 4, 5, 6, 7, 8, 9] from rfl]
 have p0 : ∀ (z0 z1 z2 z3 z4 z5 z6 z7 z8 z9 : Value) (w : World), (part 5 #[z0, z1, z2, z3, z4, z5, z6, z7, z8, z9] (0 * 1)).run Tryz.prog w = .ok z0 w := fun z0 z1 z2 z3 z4 z5 z6 z7 z8 z9 w => by kernel_rfl
 have p1 : ∀ (z0 z1 z2 z3 z4 z5 z6 z7 z8 z9 : Value) (w : World), (part 5 #[z0, z1, z2, z3, z4, z5, z6, z7, z8, z9] (1 * 1)).run Tryz.prog w = .ok z1 w := fun z0 z1 z2 z3 z4 z5 z6 z7 z8 z9 w => by kernel_rfl
 have p2 : ∀ (z0 z1 z2 z3 z4 z5 z6 z7 z8 z9 : Value) (w : World), (part 5 #[z0, z1, z2, z3, z4, z5, z6, z7, z8, z9] (2 * 1)).run Tryz.prog w = .ok z2 w := fun z0 z1 z2 z3 z4 z5 z6 z7 z8 z9 w => by kernel_rfl
 have p3 : ∀ (z0 z1 z2 z3 z4 z5 z6 z7 z8 z9 : Value) (w : World), (part 5 #[z0, z1, z2, z3, z4, z5, z6, z7, z8, z9] (3 * 1)).run Tryz.prog w = .ok z3 w := fun z0 z1 z2 z3 z4 z5 z6 z7 z8 z9 w => by kernel_rfl
 have p4 : ∀ (z0 z1 z2 z3 z4 z5 z6 z7 z8 z9 : Value) (w : World), (part 5 #[z0, z1, z2, z3, z4, z5, z6, z7, z8, z9] (4 * 1)).run Tryz.prog w = .ok z4 w := fun z0 z1 z2 z3 z4 z5 z6 z7 z8 z9 w => by kernel_rfl
 have p5 : ∀ (z0 z1 z2 z3 z4 z5 z6 z7 z8 z9 : Value) (w : World), (part 5 #[z0, z1, z2, z3, z4, z5, z6, z7, z8, z9] (5 * 1)).run Tryz.prog w = .ok z5 w := fun z0 z1 z2 z3 z4 z5 z6 z7 z8 z9 w => by kernel_rfl
 have p6 : ∀ (z0 z1 z2 z3 z4 z5 z6 z7 z8 z9 : Value) (w : World), (part 5 #[z0, z1, z2, z3, z4, z5, z6, z7, z8, z9] (6 * 1)).run Tryz.prog w = .ok z6 w := fun z0 z1 z2 z3 z4 z5 z6 z7 z8 z9 w => by kernel_rfl
 have p7 : ∀ (z0 z1 z2 z3 z4 z5 z6 z7 z8 z9 : Value) (w : World), (part 5 #[z0, z1, z2, z3, z4, z5, z6, z7, z8, z9] (7 * 1)).run Tryz.prog w = .ok z7 w := fun z0 z1 z2 z3 z4 z5 z6 z7 z8 z9 w => by kernel_rfl
 have p8 : ∀ (z0 z1 z2 z3 z4 z5 z6 z7 z8 z9 : Value) (w : World), (part 5 #[z0, z1, z2, z3, z4, z5, z6, z7, z8, z9] (8 * 1)).run Tryz.prog w = .ok z8 w := fun z0 z1 z2 z3 z4 z5 z6 z7 z8 z9 w => by kernel_rfl
 have p9 : ∀ (z0 z1 z2 z3 z4 z5 z6 z7 z8 z9 : Value) (w : World), (part 5 #[z0, z1, z2, z3, z4, z5, z6, z7, z8, z9] (9 * 1)).run Tryz.prog w = .ok z9 w := fun z0 z1 z2 z3 z4 z5 z6 z7 z8 z9 w => by kernel_rfl
 simp only [Op.eqItems, Sem.run_bind, p0, Result.andThen_ok]
 go_simp
 by_cases h0 : x0 = y0
 ·by_cases h1 : x1 = y1
  ·by_cases h2 : x2 = y2
   ·by_cases h3 : x3 = y3
    ·by_cases h4 : x4 = y4
     ·by_cases h5 : x5 = y5
      ·by_cases h6 : x6 = y6
       ·by_cases h7 : x7 = y7
        ·by_cases h8 : x8 = y8
         ·by_cases h9 : x9 = y9 <;> simp [h0, h1, h2, h3, h4, h5, h6, h7, h8, h9]
         ·simp [h0, h1, h2, h3, h4, h5, h6, h7, h8]
        ·simp [h0, h1, h2, h3, h4, h5, h6, h7]
       ·simp [h0, h1, h2, h3, h4, h5, h6]
      ·simp [h0, h1, h2, h3, h4, h5]
     ·simp [h0, h1, h2, h3, h4]
    ·simp [h0, h1, h2, h3]
   ·simp [h0, h1, h2]
  ·simp [h0, h1]
 ·simp [h0]
theorem ten_ne (x0 x1 x2 x3 x4 x5 x6 x7 x8 x9 y0 y1 y2 y3 y4 y5 y6 y7 y8 y9 : Int) (w : World) : (binOp .neq 61 (.agg #[.int .u8 x0, .int .u8 x1, .int .u8 x2, .int .u8 x3, .int .u8 x4, .int .u8 x5, .int .u8 x6, .int .u8 x7, .int .u8 x8, .int .u8 x9]) (.agg #[.int .u8 y0, .int .u8 y1, .int .u8 y2, .int .u8 y3, .int .u8 y4, .int .u8 y5, .int .u8 y6, .int .u8 y7, .int .u8 y8, .int .u8 y9])).run Tryz.prog w = .ok (.bool (!(x0 == y0 && x1 == y1 && x2 == y2 && x3 == y3 && x4 == y4 && x5 == y5 && x6 == y6 && x7 == y7 && x8 == y8 && x9 == y9))) w := by
 have h := ten_eq x0 x1 x2 x3 x4 x5 x6 x7 x8 x9 y0 y1 y2 y3 y4 y5 y6 y7 y8 y9 w
 rw [run_eql_struct] at h
 rw [run_neq_struct]
 generalize (Op.equalIn 10000 61 _ _).run Tryz.prog w = r at h ⊢
 cases r with
 | ok b w' =>
   simp only [Result.andThen_ok, Result.ok.injEq, Value.bool.injEq] at h ⊢
   exact ⟨by rw [h.1], h.2⟩
 | halt h0 w' => simp [Result.andThen] at h
theorem ten_nat (l : List UInt8) (hm : 10 ≤ l.length) (n : Nat) (hn : n < 4294967296) :
 ((((l.getD 0 0).toNat : Nat) : Int) == 115 && (((l.getD 1 0).toNat : Nat) : Int) == 105 && (((l.getD 2 0).toNat : Nat) : Int) == 98 && (((l.getD 3 0).toNat : Nat) : Int) == 121 && (((l.getD 4 0).toNat : Nat) : Int) == 97 && (((l.getD 5 0).toNat : Nat) : Int) == 1 && (((l.getD 6 0).toNat : Nat) : Int) == (n : Int) % 256 && (((l.getD 7 0).toNat : Nat) : Int) == (n : Int) / 256 % 256 && (((l.getD 8 0).toNat : Nat) : Int) == (n : Int) / 65536 % 256 && (((l.getD 9 0).toNat : Nat) : Int) == (n : Int) / 16777216) = decide (l.take 10 = arHead n) := by
 have hd : l.take 10 = [l.getD 0 0, l.getD 1 0, l.getD 2 0, l.getD 3 0, l.getD 4 0, l.getD 5 0, l.getD 6 0, l.getD 7 0, l.getD 8 0, l.getD 9 0] := by
  refine List.ext_getElem (by simp; omega) fun i h1 h2 => ?_
  rw [List.getElem_take]
  have hi : i < 10 := h2
  match i, hi with
  | 0, _ => simp [List.getD_eq_getElem?_getD, show 0 < l.length by omega]
  | 1, _ => simp [List.getD_eq_getElem?_getD, show 1 < l.length by omega]
  | 2, _ => simp [List.getD_eq_getElem?_getD, show 2 < l.length by omega]
  | 3, _ => simp [List.getD_eq_getElem?_getD, show 3 < l.length by omega]
  | 4, _ => simp [List.getD_eq_getElem?_getD, show 4 < l.length by omega]
  | 5, _ => simp [List.getD_eq_getElem?_getD, show 5 < l.length by omega]
  | 6, _ => simp [List.getD_eq_getElem?_getD, show 6 < l.length by omega]
  | 7, _ => simp [List.getD_eq_getElem?_getD, show 7 < l.length by omega]
  | 8, _ => simp [List.getD_eq_getElem?_getD, show 8 < l.length by omega]
  | 9, _ => simp [List.getD_eq_getElem?_getD, show 9 < l.length by omega]
 rw [hd]
 have k0 := byte_key (l.getD 0 0) 115 (by omega)
 have k1 := byte_key (l.getD 1 0) 105 (by omega)
 have k2 := byte_key (l.getD 2 0) 98 (by omega)
 have k3 := byte_key (l.getD 3 0) 121 (by omega)
 have k4 := byte_key (l.getD 4 0) 97 (by omega)
 have k5 := byte_key (l.getD 5 0) 1 (by omega)
 have k6 := byte_key (l.getD 6 0) (n % 256) (by omega)
 have k7 := byte_key (l.getD 7 0) (n / 256 % 256) (by omega)
 have k8 := byte_key (l.getD 8 0) (n / 65536 % 256) (by omega)
 have k9 := byte_key (l.getD 9 0) (n / 16777216) (by omega)
 have e1 : ((n % 256 : Nat) : Int) = (n : Int) % 256 := by omega
 have e2 : ((n / 256 % 256 : Nat) : Int) = (n : Int) / 256 % 256 := by omega
 have e3 : ((n / 65536 % 256 : Nat) : Int) = (n : Int) / 65536 % 256 := by omega
 have e4 : ((n / 16777216 : Nat) : Int) = (n : Int) / 16777216 := by omega
 rw [e1] at k6; rw [e2] at k7; rw [e3] at k8; rw [e4] at k9
 simp only [show ((115 : Nat) : Int) = 115 from rfl, show ((105 : Nat) : Int) = 105 from rfl, show ((98 : Nat) : Int) = 98 from rfl, show ((121 : Nat) : Int) = 121 from rfl, show ((97 : Nat) : Int) = 97 from rfl, show ((1 : Nat) : Int) = 1 from rfl] at k0 k1 k2 k3 k4 k5
 rw [k0, k1, k2, k3, k4, k5, k6, k7, k8, k9]
 unfold arHead arMagic fourL
 simp [Bool.and_assoc]
theorem readB_flt (cl : Value) (p : Nat) (a : Option Addr) (c : Nat) (l : List UInt8) (at_ f : Nat) (w : World) (h : RdAt w p a c l at_ f) (hf : f ≠ 0) :
 Calls Tryz.prog 70 #[.pointer (some ⟨p, 0, none⟩), cl] w fun e w' => e = .returned (.slice none 0 0) ∧ w = w' := by
 have H := Hi h
 have h2 : w.cell? ⟨p, 2, none⟩ = some (.int .i64 f) := cell_at h.heap rfl
 have hff : ((f : Int) != 0) = true := by simp; omega
 clear h
 go_enter Tryz.func70, Tryz.ntmps70
 go_wp2_with (go_at_call 68; refine (rnone_any p _ _ _ _ w H.out.heap).mono ?_; rintro e w' ⟨rfl, rfl⟩)
 go_ret
 exact ⟨rfl, rfl⟩
theorem raw_flt (p : Nat) (a : Option Addr) (c n : Nat) (l : List UInt8) (at_ f : Nat) (w : World) (h : RdAt w p a c l at_ f) (hf : f ≠ 0) :
 Calls Tryz.prog 36 #[.pointer (some ⟨p, 0, none⟩), .int .i64 n] w fun e w' => e = .returned (.slice none 0 0) ∧ Mod (fun _ => False) w w' := by
 have H := Hi h; clear h
 go_enter Tryz.func36, Tryz.ntmps36
 go_wp2_with (first
  |(go_at_call 70; refine (readB_flt _ p a c l at_ f _ (H.out.mod0 (((Mod.refl _ w).alloc _).alloc _)) hf).mono ?_; rintro e w1 ⟨rfl, hw⟩
    have HW := Hi hw; clear hw))
 go_ret
 exact ⟨rfl, by rw [← HW.out]; exact ((Mod.refl _ w).alloc _).alloc _⟩
theorem end_flt (p : Nat) (a : Option Addr) (c : Nat) (l : List UInt8) (at_ f : Nat) (w : World) (h : RdAt w p a c l at_ f) (hf : f ≠ 0) :
 Calls Tryz.prog 37 #[.pointer (some ⟨p, 0, none⟩)] w fun e w' => e = .returned (.int .i64 f) ∧ w = w' := by
 have H := Hi h
 have hff : ((f : Int) != 0) = true := by simp; omega
 clear h
 go_enter Tryz.func37, Tryz.ntmps37
 go_wp2_with fail
 refine (rerr_any p _ _ _ _ w H.out.heap).mono ?_
 rintro e w1 ⟨rfl, hw1⟩
 obtain rfl : w = w1 := hw1
 go_wp2_with fail
 go_ret
 exact ⟨rfl, rfl⟩
end Go.Proofs.YtjoiaejbahdjkaaGreat
/-
  archive.Open: the walk.
-/
namespace Go.Proofs.YtjoiaejbahdjkaaGreat
open Go Go.RowKit Go.Mine
set_option linter.unusedVariables false
set_option maxHeartbeats 8000000
set_option maxRecDepth 100000
theorem rd_ne {w : World} {a : Option Addr} {xs : List Value} {p : Nat} {cs : Array Value} {t : TypeId} {fz : Nat × Nat} (h : Rd w a xs) (hx : xs ≠ []) (hp : w.heap[p]? = some (.cells cs t fz)) (hc : ∀ v ∈ xs, ∀ (j : Nat) (u : Value), cs[j]? = some u → u ≠ v) : ∀ b, blk a = some b → b ≠ p := by
 rintro b hb rfl
 cases xs with
 | nil => exact hx rfl
 | cons v xs =>
   obtain ⟨b', o, rfl, hcell⟩ := h 0 v rfl
   have hb' : b' = b := by simpa [blk] using hb
   subst hb'
   rw [Nat.add_zero] at hcell
   cases hj : cs[o]? with
   | some u =>
     have h2 := cell_at (j := o) hp hj
     rw [hcell] at h2
     exact hc v (by simp) o u hj (Option.some.inj h2).symm
   | none =>
     unfold World.cell? at hcell
     simp [hp, hj] at hcell
theorem rd_map {w : World} {a : Option Addr} {xs : List Value} {B : Nat} {es : Array MapEntry} {clock : Nat} (h : Rd w a xs) (hx : xs ≠ []) (hm : w.heap[B]? = some (.map es clock)) : ∀ b, blk a = some b → b ≠ B := by
 rintro b hb rfl
 cases xs with
 | nil => exact hx rfl
 | cons v xs =>
   obtain ⟨b', o, rfl, hcell⟩ := h 0 v rfl
   have hb' : b' = b := by simpa [blk] using hb
   subst hb'
   unfold World.cell? at hcell
   simp [hm] at hcell
theorem Rd.stepA {w w' : World} {a : Option Addr} {xs : List Value} {p : Nat} {mb : Option Nat} {l : Ens} (h : Rd w a xs) (hA : AAt w p mb l) (hv : ∀ v ∈ xs, ∀ m : Option Nat, v ≠ Value.map m) (m : Mod (fun b => b = p ∨ mb = some b) w w') : Rd w' a xs := by
 by_cases hx : xs = []
 ·subst hx; exact Rd.nil _ _
 ·refine h.mod m fun b hb e => ?_
  rcases e with e | e
  ·refine rd_ne h hx hA.box (fun v hvm j u hu => ?_) b hb e
   match j with
   | 0 => cases hu; exact fun e2 => hv v hvm mb e2.symm
   | _ + 1 => simp at hu
  ·rcases hA.map with ⟨e2, _⟩ | ⟨B, e2, hB⟩
   ·rw [e2] at e; cases e
   ·rw [e2] at e
    cases e
    obtain ⟨es, clock, ho⟩ := hB.obj
    exact rd_map h hx ho b hb rfl
theorem bts_nomap {l : List UInt8} : ∀ v ∈ bts l, ∀ m : Option Nat, v ≠ Value.map m := by
 intro v hv m e
 obtain ⟨x, _, rfl⟩ := List.mem_map.1 hv
 cases e
theorem u64s_nomap {l : List Nat} : ∀ v ∈ u64s l, ∀ m : Option Nat, v ≠ Value.map m := by
 intro v hv m e
 obtain ⟨x, _, rfl⟩ := List.mem_map.1 hv
 cases e
theorem RdAt.stepA {w w' : World} {p q : Nat} {a : Option Addr} {c : Nat} {l : List UInt8} {at_ f : Nat} {mb : Option Nat} {es : Ens} (h : RdAt w q a c l at_ f) (hA : AAt w p mb es) (m : Mod (fun b => b = p ∨ mb = some b) w w') : RdAt w' q a c l at_ f := by
 refine ⟨h.ne, h.le, h.lc, h.len, m.at h.heap fun e => ?_, Rd.stepA h.rd hA bts_nomap m⟩
 rcases e with e | e
 ·have h1 := h.heap
  rw [e, hA.box] at h1
  cases h1
 ·rcases hA.map with ⟨e2, _⟩ | ⟨B, e2, hB⟩
  ·rw [e2] at e; cases e
  ·rw [e2] at e
   cases e
   obtain ⟨es, clock, ho⟩ := hB.obj
   rw [h.heap] at ho
   cases ho
theorem AAt.stepR {w w' : World} {p q : Nat} {a : Option Addr} {c : Nat} {l : List UInt8} {at_ f : Nat} {mb : Option Nat} {es : Ens} (hA : AAt w p mb es) (h : RdAt w q a c l at_ f) (m : Mod (fun b => b = q) w w') : AAt w' p mb es := by
 refine hA.mod m (fun e => ?_) (fun b hb e => ?_) (fun x hx e => ?_)
 ·have h1 := h.heap
  rw [← show p = q from e, hA.box] at h1
  cases h1
 ·rcases hA.map with ⟨e2, _⟩ | ⟨B, e2, hB⟩
  ·rw [e2] at hb; cases hb
  ·rw [e2] at hb
   cases hb
   obtain ⟨es, clock, ho⟩ := hB.obj
   rw [show b = q from e, h.heap] at ho
   cases ho
 ·obtain ⟨h1, h2⟩ := hA.ents x hx
  refine bytes_ne h2 h1 h.heap (fun j v hj n e2 => ?_) x.2.g rfl e
  subst e2
  match j with
  | 0 => cases hj
  | 1 => cases hj
  | 2 => cases hj
  | 3 => cases hj
  | _ + 4 => simp at hj
theorem Rd.stepR {w w' : World} {q : Nat} {a b : Option Addr} {c : Nat} {l : List UInt8} {at_ f : Nat} {ns : List Nat} (hr : Rd w b (u64s ns)) (h : RdAt w q a c l at_ f) (m : Mod (fun b => b = q) w w') : Rd w' b (u64s ns) := by
 by_cases hx : u64s ns = []
 ·rw [hx]; exact Rd.nil _ _
 ·refine hr.mod m fun b' hb e => ?_
  refine rd_ne hr hx h.heap (fun v hv j u hu => ?_) b' hb e
  obtain ⟨x, _, rfl⟩ := List.mem_map.1 hv
  match j with
  | 0 => cases hu; exact fun e => by cases e
  | 1 => cases hu; exact fun e => by cases e
  | 2 => cases hu; exact fun e => by cases e
  | 3 => cases hu; exact fun e => by cases e
  | _ + 4 => simp at hu
theorem ent_le3 {f : List UInt8} {x : ByteArray} (h : decA f = .ok x) : arEntN (x, f) ≤ 3 * f.length := by
 obtain ⟨h1, h2, h3, h4⟩ := decA_ok h
 have := arEntN_le (x, f) (by simp only; omega) (by simp only; omega)
 simp only at this
 omega
theorem decA_nil : ∀ x, decA [] ≠ .ok x := fun x h => (decA_ok h).2.1 rfl
noncomputable def openS (b : List UInt8) : Nat × Option Arc :=
 if 16777216 < b.length then (3, none)
 else if b.length < 15 ∨ b.take 10 ≠ arHead b.length then (260, none)
 else if b.drop (b.length - 4) ≠ fourL (crcL (b.take (b.length - 4))) then (261, none)
 else match popen b with
  | some l => (0, some l)
  | none => (260, none)
def OpenP (b : List UInt8) (w : World) (e : Ending) (w' : World) : Prop :=
 ((∃ l p mb es, openS b = (0, some l) ∧ e = .returned (.tuple #[.pointer (some ⟨p, 0, none⟩), .int .i64 0]) ∧ AAt w' p mb es ∧ arcOf es = l ∧ w.heap.size ≤ p ∧ (∀ x, mb = some x → w.heap.size ≤ x) ∧ ∀ q ∈ es, w.heap.size ≤ q.2.g) ∨
   (∃ k, openS b = (k, none) ∧ k ≠ 0 ∧ e = .returned (.tuple #[.pointer none, .int .i64 k]))) ∧ Mod (fun _ => False) w w'
theorem bytesEq_any (a1 a2 : Option Addr) (c1 c2 : Nat) (l1 l2 : List UInt8) (w : World) (h1 : Rd w a1 (bts l1)) (h2 : Rd w a2 (bts l2)) :
 Calls Tryz.prog 38 #[.slice a1 l1.length c1, .slice a2 l2.length c2] w fun e w' => e = .returned (.bool (l1 == l2)) ∧ w = w' := by
 have e1 := run_bytes24 a1 l1 c1 w h1
 have e2 := run_bytes24 a2 l2 c2 w h2
 clear h1 h2
 go_enter Tryz.func38, Tryz.ntmps38
 go_wp2
 go_ret
 refine ⟨?_, rfl⟩
 show Ending.returned (.bool _) = _
 congr 2
end Go.Proofs.YtjoiaejbahdjkaaGreat
/-
  archive.Open: the walk, whole.
-/
namespace Go.Proofs.YtjoiaejbahdjkaaGreat
open Go Go.RowKit Go.Mine
set_option linter.unusedVariables false
set_option maxHeartbeats 8000000
set_option maxRecDepth 100000
theorem own_ne {w : World} {e : TypeId} {k : Nat} {a : Option Addr} {n c : Nat} {xs : List Value} {p : Nat} {cs : Array Value} {t : TypeId} {fz : Nat × Nat} (h : Mine.Own w e k a n c xs) (hp : w.heap[p]? = some (.cells cs t fz)) (hne : e ≠ t) : ∀ b, blk a = some b → b ≠ p := by
 rintro b hb rfl
 rcases h.2 with ⟨e1, _⟩ | ⟨b', cur, e1, h3, _⟩
 ·rw [e1] at hb; cases hb
 ·rw [e1] at hb
  have hb' : b' = b := by simpa [blk] using hb
  subst hb'
  rw [h3] at hp
  cases hp
  exact hne rfl
theorem arNum_bad {m : List UInt8} {a n x f : Nat} (h : stNum m a 0 = (n, x, f)) (hf : f ≠ 0) : n = 0 := by
 by_cases he : (getL (m.drop a)).2.2 = 0
 ·rw [stNum_ok he] at h
  simp only [Prod.mk.injEq] at h
  exact absurd h.2.2.symm hf
 ·rw [stNum_err he] at h
  simp only [Prod.mk.injEq] at h
  exact h.1.symm
theorem pop_f0 {b : List UInt8} {n x f : Nat} (h : stNum (inA b) 0 0 = (n, x, f)) (hf : f ≠ 0) : popen b = none := by
 unfold popen; rw [h]; simp only; rw [if_pos hf]
theorem pop_f1 {b : List UInt8} {n x : Nat} {ss : List Nat} {y f : Nat} (h : stNum (inA b) 0 0 = (n, x, 0)) (h1 : ptabGo (inA b) n x [] = (ss, y, f)) (hf : f ≠ 0) : popen b = none := by
 unfold popen; rw [h]; simp only; rw [if_neg (by simp), h1]; simp only; rw [if_pos hf]
theorem pop_no {b : List UInt8} {n x : Nat} {ss : List Nat} {y : Nat} (h : stNum (inA b) 0 0 = (n, x, 0)) (h1 : ptabGo (inA b) n x [] = (ss, y, 0)) (h2 : pfilGo (inA b) b.length ss y [] = none) : popen b = none := by
 unfold popen; rw [h]; simp only; rw [if_neg (by simp), h1]; simp only; rw [if_neg (by simp), h2]
theorem pop_end {b : List UInt8} {n x : Nat} {ss : List Nat} {y z : Nat} {l : Arc} (h : stNum (inA b) 0 0 = (n, x, 0)) (h1 : ptabGo (inA b) n x [] = (ss, y, 0)) (h2 : pfilGo (inA b) b.length ss y [] = some (l, z)) : popen b = if z = (inA b).length ∧ arcL l = b then some l else none := by
 unfold popen; rw [h]; simp only; rw [if_neg (by simp), h1]; simp only; rw [if_neg (by simp), h2]
theorem openP_any (a : Option Addr) (c : Nat) (b : List UInt8) (w : World) (hr : Rd w a (bts b)) (hc : b.length ≤ c) (hl : b.length < 2 ^ 40) :
 Calls Tryz.prog 14 #[.slice a b.length c] w (OpenP b w) := by
 by_cases h16 : 16777216 < b.length
 ·have HH : Hid (openS b = (3, none)) := Hi (by unfold openS; rw [if_pos h16])
  clear hr
  go_enter Tryz.func14, Tryz.ntmps14
  go_wp2_with fail
  go_step3
  go_wp2_with fail
  refine bodyPost_ret (v := .tuple #[.pointer none, .int .i64 3]) ?_ rfl ⟨.inr ⟨3, HH.out, by decide, rfl⟩, Mod.refl _ _⟩
  simp [results, Tryz.results14, go_sem]
 ·by_cases h15 : b.length < 15
  ·have HH : Hid (openS b = (260, none)) := Hi (by unfold openS; rw [if_neg h16, if_pos (.inl h15)])
   have hg : decide ((b.length : Int) < 15) = true := by simp; omega
   clear hr
   go_enter Tryz.func14, Tryz.ntmps14
   go_wp2_with fail
   go_step3
   go_wp2_with fail
   refine wp_region_ord (fun w' => True) [(0, 0), (0, 1), (0, 2), (0, 3), (0, 4), (0, 5), (0, 6), (1, 7), (0, 8), (0, 9), (2, 10), (0, 11), (0, 12), (0, 13)] (by kernel_rfl) (by kernel_rfl) ?_
   go_wp2_with (first
    |(refine ord_pure rfl rfl rfl (fun K hK => ?_); go_big_quiet_op; refine hK _ ?_; clear hK K)
    |(refine ord_skip rfl rfl ?_; simp only [Act.put, List.setIfInBounds_toArray, List.set_cons_zero, List.set_cons_succ])
    |(refine ord_held rfl rfl rfl (trivial) (fun K hK => ?_); apply Exists.intro; refine ⟨fun w' hs => ?_, hK _ ?_⟩; (revert hs; dsimp only; (try simp only [and_imp]); intros; go_simp; rfl); clear hK K)
    |(refine ord_keep rfl rfl (trivial) (fun K hK => ?_))
    |(refine ord_nil ?_))
   refine bodyPost_ret (v := .tuple #[.pointer none, .int .i64 260]) ?_ rfl ⟨.inr ⟨260, HH.out, by decide, rfl⟩, (Mod.refl _ w).drew⟩
   simp [results, Tryz.results14, go_sem]
  ·have hg : decide ((b.length : Int) < 15) = false := by simp; omega
   obtain ⟨bb, o, rfl, x00⟩ := byte_cell hr (i := 0) (by omega)
   have hcell : ∀ j, j < b.length → w.cell? ⟨bb, o + j, none⟩ = some (.int .u8 ((b.getD j 0).toNat : Nat)) := fun j hj => by
    obtain ⟨b', o', e, hc'⟩ := byte_cell hr (i := j) hj
    cases e
    rw [List.getD_eq_getElem?_getD, List.getElem?_eq_getElem hj, Option.getD_some]
    exact hc'
   have x0 := hcell 0 (by omega); have x1 := hcell 1 (by omega); have x2 := hcell 2 (by omega); have x3 := hcell 3 (by omega); have x4 := hcell 4 (by omega)
   have x5 := hcell 5 (by omega); have x6 := hcell 6 (by omega); have x7 := hcell 7 (by omega); have x8 := hcell 8 (by omega); have x9 := hcell 9 (by omega)
   rw [Nat.add_zero] at x0
   obtain ⟨N, hN⟩ : ∃ N, N = b.length := ⟨_, rfl⟩
   have HTN := Hi (ten_nat b (by omega) N (by omega))
   have HWH := Hi (fun W (m : Mod (fun _ => False) w W) => whole_any bb o (b.length - 4) b c W (hr.mod m (fun _ _ => id)) (by omega) hc (by omega))
   have HRB := Hi hr
   have HNN := Hi hN
   rw [← hN] at hg hc h15 h16 hl HWH ⊢
   clear hr hcell x00 hN
   have hh := fun W => headA_any N (by omega) W
   generalize (b.getD 0 0).toNat = n0 at *
   generalize (b.getD 1 0).toNat = n1 at *
   generalize (b.getD 2 0).toNat = n2 at *
   generalize (b.getD 3 0).toNat = n3 at *
   generalize (b.getD 4 0).toNat = n4 at *
   generalize (b.getD 5 0).toNat = n5 at *
   generalize (b.getD 6 0).toNat = n6 at *
   generalize (b.getD 7 0).toNat = n7 at *
   generalize (b.getD 8 0).toNat = n8 at *
   generalize (b.getD 9 0).toNat = n9 at *
   have hten := ten_ne (n0 : Nat) (n1 : Nat) (n2 : Nat) (n3 : Nat) (n4 : Nat) (n5 : Nat) (n6 : Nat) (n7 : Nat) (n8 : Nat) (n9 : Nat) 115 105 98 121 97 1 ((N : Int) % 256) ((N : Int) / 256 % 256) ((N : Int) / 65536 % 256) ((N : Int) / 16777216)
   rw [HTN.out] at hten
   have HH2 := Hi hh
   clear hh HTN
   by_cases hmg : b.take 10 = arHead N
   ·rw [decide_eq_true hmg] at hten
    simp only [Bool.not_true] at hten
    have HMG := Hi hmg
    clear hmg
    go_enter Tryz.func14, Tryz.ntmps14
    go_wp2_with fail
    go_step3
    go_wp2_with fail
    refine wp_region_ord (fun w' => w'.cell? ⟨bb, o, none⟩ = some (.int .u8 (n0 : Nat)) ∧ w'.cell? ⟨bb, o + 1, none⟩ = some (.int .u8 (n1 : Nat)) ∧ w'.cell? ⟨bb, o + 2, none⟩ = some (.int .u8 (n2 : Nat)) ∧ w'.cell? ⟨bb, o + 3, none⟩ = some (.int .u8 (n3 : Nat)) ∧ w'.cell? ⟨bb, o + 4, none⟩ = some (.int .u8 (n4 : Nat)) ∧ w'.cell? ⟨bb, o + 5, none⟩ = some (.int .u8 (n5 : Nat)) ∧ w'.cell? ⟨bb, o + 6, none⟩ = some (.int .u8 (n6 : Nat)) ∧ w'.cell? ⟨bb, o + 7, none⟩ = some (.int .u8 (n7 : Nat)) ∧ w'.cell? ⟨bb, o + 8, none⟩ = some (.int .u8 (n8 : Nat)) ∧ w'.cell? ⟨bb, o + 9, none⟩ = some (.int .u8 (n9 : Nat))) [(0, 0), (0, 1), (0, 2), (0, 3), (0, 4), (0, 5), (0, 6), (1, 7), (0, 8), (0, 9), (2, 10), (0, 11), (0, 12), (0, 13)] (by kernel_rfl) (by kernel_rfl) ?_
    go_wp2_with (first
     |(refine ord_pure rfl rfl rfl (fun K hK => ?_); refine quiet_atp rfl Tryz.underlying61 rfl ?_ (hK _ ?_); omega; clear hK K)
     |(refine ord_pure rfl rfl rfl (fun K hK => ?_); go_big_quiet_op; refine hK _ ?_; clear hK K)
     |(refine ord_skip rfl rfl ?_; simp only [Act.put, List.setIfInBounds_toArray, List.set_cons_zero, List.set_cons_succ])
     |(refine ord_held rfl rfl rfl (⟨x0, x1, x2, x3, x4, x5, x6, x7, x8, x9⟩) (fun K hK => ?_); apply Exists.intro; refine ⟨fun w' hs => ?_, hK _ ?_⟩; (revert hs; dsimp only; (try simp only [and_imp]); intros; go_simp; rfl); clear hK K)
     |(refine ord_keep rfl rfl (⟨x0, x1, x2, x3, x4, x5, x6, x7, x8, x9⟩) (fun K hK => ?_))
     |(refine ord_nil ?_))
    refine (HH2.out _).mono ?_
    rintro e w1 ⟨rfl, m1⟩
    have m1' := (Mod.refl (fun _ => False) w).drew.trans m1
    refine hK _ _ ⟨m1'.cell x0 id, m1'.cell x1 id, m1'.cell x2 id, m1'.cell x3 id, m1'.cell x4 id, m1'.cell x5 id, m1'.cell x6 id, m1'.cell x7 id, m1'.cell x8 id, m1'.cell x9 id⟩ ?_
    clear hK K m1
    have HM1 := Hi m1'
    clear m1'
    unfold headV
    go_wp2_with (first
     |(refine ord_pure rfl rfl rfl (fun K hK => ?_); go_big_quiet_op; refine hK _ ?_; clear hK K)
     |(refine ord_skip rfl rfl ?_; simp only [Act.put, List.setIfInBounds_toArray, List.set_cons_zero, List.set_cons_succ])
     |(refine ord_held rfl rfl rfl (trivial) (fun K hK => ?_); apply Exists.intro; refine ⟨fun w' hs => ?_, hK _ ?_⟩; (revert hs; dsimp only; (try simp only [and_imp]); intros; go_simp; rfl); clear hK K)
     |(refine ord_keep rfl rfl (trivial) (fun K hK => ?_))
     |(refine ord_nil ?_))
    clear x0 x1 x2 x3 x4 x5 x6 x7 x8 x9 hten
    refine (HWH.out _ HM1.out).mono ?_
    rintro e w2 ⟨rfl, hm2⟩
    have HM2 := Hi (HM1.out.step hm2 fun _ _ e => e)
    clear hm2
    by_cases hcr : b.drop (N - 4) = fourL (crcL (b.take (N - 4)))
    rotate_left
    ·have HX : Hid (openS b = (261, none)) := Hi (by unfold openS; rw [← HNN.out, if_neg h16, if_neg (by rintro (h | h); exact h15 h; exact h HMG.out), if_pos hcr])
     rw [decide_eq_false hcr]
     clear hcr
     go_wp2_with fail
     refine bodyPost_ret (v := .tuple #[.pointer none, .int .i64 261]) ?_ rfl ⟨.inr ⟨261, HX.out, by decide, rfl⟩, HM2.out⟩
     simp [results, Tryz.results14, go_sem]
    ·have HOP : Hid (∀ r, popen b = r → openS b = match r with | some l => (0, some l) | none => (260, none)) := Hi (by
      intro r hr
      unfold openS
      rw [← HNN.out, if_neg h16, if_neg (by rintro (h | h); exact h15 h; exact h HMG.out), if_neg (fun h => h hcr), hr]
      all_goals (cases r <;> rfl))
     rw [decide_eq_true hcr]
     clear hcr
     go_wp2_with fail
     refine (new26_any w2).mono ?_
     rintro e w3 ⟨rfl, hA3, hm3⟩
     obtain ⟨A, hAe⟩ : ∃ A, A = w2.heap.size := ⟨_, rfl⟩
     rw [← hAe] at hA3 ⊢
     have HA3 := Hi hA3
     have HAw : Hid (w.heap.size ≤ A) := Hi (by rw [hAe]; exact HM2.out.size)
     have HM3 := Hi (HM2.out.step hm3 fun _ _ e => e)
     clear hA3 hm3 hAe
     have hml : (inA b).length = N - 14 := by unfold inA; rw [List.length_take, List.length_drop, ← HNN.out]; omega
     have HMR : Hid (Rd w3 (some ⟨bb, o + 10, none⟩) (bts (inA b))) := Hi (by
      have h1 := subA_part (w := w3) (a := some ⟨bb, o, none⟩) (c := c) (from_ := 10) (n := N - 14) (HRB.out.mod HM3.out fun _ _ => id) (by rw [← HNN.out]; exact hc)
      have h2 : subA (some ⟨bb, o, none⟩) c 10 1 = some ⟨bb, o + 10, none⟩ := by unfold subA; rw [if_neg (by omega)]; rfl
      rw [h2] at h1
      unfold inA
      rw [← HNN.out]
      exact h1)
     have hk4 : ((N : Int) - 4).toNat = N - 4 := by omega
     go_wp2_with fail
     have hm4 : N - 4 - 10 = (inA b).length := by rw [hml]; omega
     rw [hm4]
     clear hm4 hk4
     have hm40 : (inA b).length ≤ 16777216 := by omega
     have hmc : (inA b).length < c - 10 := by omega
     refine (newReader_any _ (c - 10) (inA b) w3 HMR.out (by omega) (by simp)).mono ?_
     rintro e w4 ⟨p, ra, rc, rfl, hrd, hp, hm4, hb1⟩
     have HRD4 := Hi hrd
     have HPW : Hid (w.heap.size ≤ p) := Hi (Nat.le_trans HM3.out.size hp)
     have HM4 := Hi (HM3.out.step hm4 fun _ _ e => e)
     have HA4 := Hi (HA3.out.mod0 hm4)
     clear hrd hp hm4 hb1 HMR HA3
     go_wp2_with fail
     have HNU := Hi (rdNum_any p ra rc (inA b) 0 0 w4 HRD4.out)
     obtain ⟨st, hst⟩ : ∃ st, st = stNum (inA b) 0 0 := ⟨_, rfl⟩
     rw [← hst] at HNU
     obtain ⟨n, x0, f0⟩ := st
     simp only at HNU
     have HST := Hi hst.symm
     clear hst
     refine HNU.out.mono ?_
     clear HNU
     rintro e w5 ⟨rfl, hrd5, hm5⟩
     have HA5 := Hi (AAt.stepR HA4.out HRD4.out hm5)
     have HRD5 := Hi hrd5
     have HM5 : Hid (Mod (fun _ => False) w w5) := Hi (HM4.out.step hm5 fun b' hb' e => by have h1 := HPW.out; have h2 : b' = p := e; omega)
     clear hrd5 hm5 HA4 HRD4
     by_cases hf0 : f0 = 0
     rotate_left
     ·have hn0 := arNum_bad HST.out hf0
      subst hn0
      have HBAD : Hid (openS b = (260, none)) := Hi (HOP.out none (pop_f0 HST.out hf0))
      have hflt : f0 ≠ 0 := hf0
      clear hf0
      go_wp2_with fail
      go_step3
      go_wp2_with fail
      refine wp_loop_rounds 1 ?_
      rw [rounds_succ]
      go_wp2_with fail
      refine wp_loop_rounds 1 ?_
      rw [rounds_succ]
      go_wp2_with fail
      refine (end_flt p ra rc (inA b) x0 f0 w5 HRD5.out hflt).mono ?_
      rintro e w20 ⟨rfl, hw⟩
      obtain rfl : w5 = w20 := hw
      have e2 : (((f0 : Nat) : Int) != 0) = true := by simp; omega
      go_wp2_with fail
      refine bodyPost_ret (v := .tuple #[.pointer none, .int .i64 260]) ?_ rfl ⟨.inr ⟨260, HBAD.out, by decide, rfl⟩, HM5.out⟩
      simp [results, Tryz.results14, go_sem]
     ·subst hf0
      have hn64 : n < 2 ^ 64 := by
       have h1 := num_form HST.out (Nat.zero_le _)
       exact h1.2.2.2
      go_wp2_with fail
      go_step3
      go_wp2_with fail
      go_loopw [44, 6] (fun iv sv wr => ∃ (k at_ : Nat) (ss : List Nat) (a2 : Option Addr) (c2 : Nat), k ≤ n ∧ iv = .int .u64 k ∧ sv = .slice a2 k c2 ∧ Hid (ss.length = k) ∧ 2 * k ≤ at_ ∧ Hid (ptabGo (inA b) (n - k) at_ ss = ptabGo (inA b) n x0 []) ∧ Hid (Mine.Own wr 66 1 a2 k c2 (u64s ss)) ∧ Hid (∀ b', blk a2 = some b' → w5.heap.size ≤ b') ∧ Hid (RdAt wr p ra rc (inA b) at_ 0) ∧ Hid (AAt wr A none []) ∧ Hid (Mod (fun _ => False) w wr) ∧ Hid (w5.heap.size ≤ wr.heap.size)) (fun iv _ _ => n - (intOf iv).toNat)
      case atStart => exact ⟨0, x0, [], none, 0, Nat.zero_le _, rfl, rfl, Hi rfl, by omega, Hi rfl, Hi (Mine.Own.nil _ _ _), Hi (fun b' h => by cases h), HRD5, HA5, HM5, Hi (Nat.le_refl _)⟩
      case round =>
       obtain ⟨k, at_, ss, a2, c2, hk, rfl, rfl, hsl, hat, hP, hO, hF, hRD, hAA, hM, hW5⟩ := hrel
       have hRDle : at_ ≤ (inA b).length := hRD.out.le
       by_cases hlt : k < n
       ·obtain ⟨j, hj⟩ : ∃ j, n - k = j + 1 := ⟨n - k - 1, by omega⟩
        have hPu := hP.out
        rw [hj, ptabGo] at hPu
        have HTX := Hi (rdText_any p ra rc 4096 (inA b) at_ 0 wr hRD.out (by omega))
        obtain ⟨st, hst⟩ : ∃ st, st = stText 4096 (inA b) at_ 0 := ⟨_, rfl⟩
        rw [← hst] at hPu HTX
        obtain ⟨tx, x1, f1⟩ := st
        simp only at hPu HTX
        have HST1 := Hi hst.symm
        clear hst
        go_wp2_with fail
        refine HTX.out.mono ?_
        clear HTX
        rintro e w6 ⟨rfl, hrd6, hm6⟩
        have HA6 := Hi (AAt.stepR hAA.out hRD.out hm6)
        have HRD6 := Hi hrd6
        have HM6 : Hid (Mod (fun _ => False) w w6) := Hi (hM.out.step hm6 fun b' hb' e => by have h1 := HPW.out; have h2 : b' = p := e; omega)
        have HO6 := Hi (hO.out.mod hm6 fun b' hb' e => own_ne hO.out hRD.out.heap (by decide) b' hb' e)
        have HW6 : Hid (w5.heap.size ≤ w6.heap.size) := Hi (Nat.le_trans hW5.out hm6.size)
        clear hrd6 hm6 hAA hRD hO hM hW5
        go_wp2_with fail
        refine (rerr_any p _ _ _ _ w6 HRD6.out.heap).mono ?_
        rintro e w7 ⟨rfl, hw⟩
        obtain rfl : w6 = w7 := hw
        by_cases hf1 : f1 = 0
        rotate_left
        ·rw [if_pos hf1] at hPu
         have HBAD : Hid (openS b = (260, none)) := Hi (HOP.out none (pop_f1 HST.out hPu.symm hf1))
         have hflt : f1 ≠ 0 := hf1
         have e3 : (((f1 : Nat) : Int) != 0) = true := by simp; omega
         obtain rfl : ss.length = k := hsl.out
         clear hPu hP hf1 hj
         go_wp2_with fail
         go_loopw [62] (fun iv wr => iv = .int .i64 0 ∧ Hid (RdAt wr p ra rc (inA b) x1 f1) ∧ Hid (AAt wr A none []) ∧ Hid (Rd wr a2 (u64s ss)) ∧ Hid (Mod (fun _ => False) w wr)) (fun _ _ => 0)
         case atStart => exact ⟨rfl, ⟨HRD6, HA6, Hi HO6.out.rd, HM6⟩⟩
         case round =>
          obtain ⟨rfl, hRD, hAA, hRS, hMM⟩ := hrel
          by_cases h0 : 0 < (ss).length
          ·obtain ⟨b1, o1, ea, s0⟩ := hRS.out 0 (.int .u64 (ss)[0]) (by simp [u64s, h0])
           obtain ⟨s, hs⟩ : ∃ s, s = (ss)[0] := ⟨_, rfl⟩
           rw [← hs, Nat.add_zero] at s0
           cases ea
           clear hs
           by_cases hbig : N < s
           ·have e1 : decide ((N : Int) < (s : Int)) = true := decide_eq_true (by omega)
            go_wp2_with fail
            refine bodyPost_ret (v := .tuple #[.pointer none, .int .i64 260]) ?_ rfl ⟨.inr ⟨260, HBAD.out, by decide, rfl⟩, hMM.out⟩
            simp [results, Tryz.results14, go_sem]
           ·have e1 : decide ((N : Int) < (s : Int)) = false := decide_eq_false (by omega)
            go_wp2_with fail
            refine (raw_flt p ra rc s (inA b) x1 f1 wr hRD.out hflt).mono ?_
            rintro e w20 ⟨rfl, hm20⟩
            have HTK := Hi (take_any A none [] none 0 [] w20 ((hAA.out.mod0 hm20).box) (hAA.out.mod0 hm20).map (by simp) (Rd.nil _ _) (Nat.le_refl _) (by simp))
            have HM20 := Hi (hMM.out.step hm20 fun _ _ e => e)
            clear hm20
            go_wp2_with fail
            refine HTK.out.mono ?_
            clear HTK
            rintro e w21 (⟨k, hd, hk, rfl, hm21⟩ | ⟨x, B, g, c2, hd, _⟩)
            ·have HM21 := Hi (HM20.out.step hm21 fun _ _ e => e)
             have e2 : ((k : Int) != 0) = true := by simp; omega
             clear hd hm21
             go_wp2_with fail
             refine bodyPost_ret (v := .tuple #[.pointer none, .int .i64 260]) ?_ rfl ⟨.inr ⟨260, HBAD.out, by decide, rfl⟩, HM21.out⟩
             simp [results, Tryz.results14, go_sem]
            ·exact absurd hd (decA_nil x)
          ·have hnil : (ss).length = 0 := by omega
           have HNL := Hi hnil
           have hlen0 : (((ss).length : Nat) : Int) = 0 := by omega
           clear hnil
           go_wp2_with fail
           refine (end_flt p ra rc (inA b) x1 f1 wr hRD.out hflt).mono ?_
           rintro e w20 ⟨rfl, hw⟩
           obtain rfl : wr = w20 := hw
           have e2 : (((f1 : Nat) : Int) != 0) = true := by simp; omega
           go_wp2_with fail
           refine bodyPost_ret (v := .tuple #[.pointer none, .int .i64 260]) ?_ rfl ⟨.inr ⟨260, HBAD.out, by decide, rfl⟩, hMM.out⟩
           simp [results, Tryz.results14, go_sem]
        ·subst hf1
         rw [if_neg (by simp)] at hPu
         obtain ⟨t1, t2, t3, t4⟩ := text_form HST1.out hRDle
         have hx1 : at_ + 1 ≤ x1 := by have := lebl_pos tx.length; omega
         have HNU := Hi (rdNum_any p ra rc (inA b) x1 0 w6 HRD6.out)
         obtain ⟨st, hst⟩ : ∃ st, st = stNum (inA b) x1 0 := ⟨_, rfl⟩
         rw [← hst] at hPu HNU
         obtain ⟨y, x2, f2⟩ := st
         simp only at hPu HNU
         have HST2 := Hi hst.symm
         clear hst t1 t2 t4
         go_wp2_with fail
         refine HNU.out.mono ?_
         clear HNU
         rintro e w8 ⟨rfl, hrd8, hm8⟩
         have HA8 := Hi (AAt.stepR HA6.out HRD6.out hm8)
         have HRD8 := Hi hrd8
         have HM8 : Hid (Mod (fun _ => False) w w8) := Hi (HM6.out.step hm8 fun b' hb' e => by have h1 := HPW.out; have h2 : b' = p := e; omega)
         have HO8 := Hi (HO6.out.mod hm8 fun b' hb' e => own_ne HO6.out HRD6.out.heap (by decide) b' hb' e)
         have HW8 : Hid (w5.heap.size ≤ w8.heap.size) := Hi (Nat.le_trans HW6.out hm8.size)
         clear hrd8 hm8 HA6 HRD6 HO6 HM6 HW6
         have hkb : k ≤ 16777216 := by omega
         go_wp2_with (first
          |(at_builtin; refine wpL_appendN (us := [_]) rfl (.tmp 51) (.tmp 54) 65 rfl tiU64 rfl HO8.out rfl rfl rfl (by omega) (by unfold maxLen; omega) ?_; intro a9 c9 w9 hO9 hG9 _
            have HO9 : Hid (Mine.Own w9 66 1 a9 (k + 1) c9 (u64s (ss ++ [y]))) := Hi (by unfold u64s; rw [List.map_append]; exact hO9)
            have HRD9 : Hid (RdAt w9 p ra rc (inA b) x2 f2) := Hi (HRD8.out.modE hG9.mod (fun e => own_ne HO8.out HRD8.out.heap (by decide) p e rfl) (fun b' hb' => by
             rcases HRD5.out.blt b' hb' with h | h
             ·exact .inl h
             ·exact .inr (fun e => by have := hF.out b' e; omega)))
            have HA9 : Hid (AAt w9 A none []) := Hi (HA8.out.mod hG9.mod (fun e => own_ne HO8.out HA8.out.box (by decide) A e rfl) (fun b' h => by cases h) (fun q hq => by cases hq))
            have HM9 : Hid (Mod (fun _ => False) w w9) := Hi (HM8.out.step hG9.mod fun b' hb' e => by have h1 := hF.out b' e; have h2 := HM5.out.size; omega)
            have HF9 : Hid (∀ b', blk a9 = some b' → w5.heap.size ≤ b') := Hi (grow_in hG9 hF.out HW8.out)
            have HW9 : Hid (w5.heap.size ≤ w9.heap.size) := Hi (Nat.le_trans HW8.out hG9.mod.size)
            clear hO9 hG9))
         refine (rerr_any p _ _ _ _ w9 HRD9.out.heap).mono ?_
         rintro e w7 ⟨rfl, hw⟩
         obtain rfl : w9 = w7 := hw
         have hsl1 : (ss ++ [y]).length = k + 1 := by rw [List.length_append, hsl.out]; rfl
         by_cases hf2 : f2 = 0
         rotate_left
         ·rw [if_pos hf2] at hPu
          have HBAD : Hid (openS b = (260, none)) := Hi (HOP.out none (pop_f1 HST.out hPu.symm hf2))
          have hflt : f2 ≠ 0 := hf2
          have e3 : (((f2 : Nat) : Int) != 0) = true := by simp; omega
          obtain ⟨s2, hs2⟩ : ∃ s2, s2 = ss ++ [y] := ⟨_, rfl⟩
          rw [← hs2] at hsl1 HO9
          clear hPu hP hf2 hj hs2
          rw [← hsl1]
          rw [← hsl1] at HO9
          clear hsl1
          go_wp2_with fail
          go_loopw [62] (fun iv wr => iv = .int .i64 0 ∧ Hid (RdAt wr p ra rc (inA b) x2 f2) ∧ Hid (AAt wr A none []) ∧ Hid (Rd wr a9 (u64s s2)) ∧ Hid (Mod (fun _ => False) w wr)) (fun _ _ => 0)
          case atStart => exact ⟨rfl, ⟨HRD9, HA9, Hi HO9.out.rd, HM9⟩⟩
          case round =>
           obtain ⟨rfl, hRD, hAA, hRS, hMM⟩ := hrel
           by_cases h0 : 0 < (s2).length
           ·obtain ⟨b1, o1, ea, s0⟩ := hRS.out 0 (.int .u64 (s2)[0]) (by simp [u64s, h0])
            obtain ⟨s, hs⟩ : ∃ s, s = (s2)[0] := ⟨_, rfl⟩
            rw [← hs, Nat.add_zero] at s0
            cases ea
            clear hs
            by_cases hbig : N < s
            ·have e1 : decide ((N : Int) < (s : Int)) = true := decide_eq_true (by omega)
             go_wp2_with fail
             refine bodyPost_ret (v := .tuple #[.pointer none, .int .i64 260]) ?_ rfl ⟨.inr ⟨260, HBAD.out, by decide, rfl⟩, hMM.out⟩
             simp [results, Tryz.results14, go_sem]
            ·have e1 : decide ((N : Int) < (s : Int)) = false := decide_eq_false (by omega)
             go_wp2_with fail
             refine (raw_flt p ra rc s (inA b) x2 f2 wr hRD.out hflt).mono ?_
             rintro e w20 ⟨rfl, hm20⟩
             have HTK := Hi (take_any A none [] none 0 [] w20 ((hAA.out.mod0 hm20).box) (hAA.out.mod0 hm20).map (by simp) (Rd.nil _ _) (Nat.le_refl _) (by simp))
             have HM20 := Hi (hMM.out.step hm20 fun _ _ e => e)
             clear hm20
             go_wp2_with fail
             refine HTK.out.mono ?_
             clear HTK
             rintro e w21 (⟨k, hd, hk, rfl, hm21⟩ | ⟨x, B, g, c2, hd, _⟩)
             ·have HM21 := Hi (HM20.out.step hm21 fun _ _ e => e)
              have e2 : ((k : Int) != 0) = true := by simp; omega
              clear hd hm21
              go_wp2_with fail
              refine bodyPost_ret (v := .tuple #[.pointer none, .int .i64 260]) ?_ rfl ⟨.inr ⟨260, HBAD.out, by decide, rfl⟩, HM21.out⟩
              simp [results, Tryz.results14, go_sem]
             ·exact absurd hd (decA_nil x)
           ·have hnil : (s2).length = 0 := by omega
            have HNL := Hi hnil
            have hlen0 : (((s2).length : Nat) : Int) = 0 := by omega
            clear hnil
            go_wp2_with fail
            refine (end_flt p ra rc (inA b) x2 f2 wr hRD.out hflt).mono ?_
            rintro e w20 ⟨rfl, hw⟩
            obtain rfl : wr = w20 := hw
            have e2 : (((f2 : Nat) : Int) != 0) = true := by simp; omega
            go_wp2_with fail
            refine bodyPost_ret (v := .tuple #[.pointer none, .int .i64 260]) ?_ rfl ⟨.inr ⟨260, HBAD.out, by decide, rfl⟩, hMM.out⟩
            simp [results, Tryz.results14, go_sem]
         ·subst hf2
          rw [if_neg (by simp)] at hPu
          have h9 := num_form HST2.out t3
          have hx2 : x1 + 1 ≤ x2 := by have := lebl_pos y; omega
          have HP9 : Hid (ptabGo (inA b) (n - (k + 1)) x2 (ss ++ [y]) = ptabGo (inA b) n x0 []) := Hi (by
           rw [show n - (k + 1) = j by omega]; exact hPu)
          have HS9 := Hi hsl1
          clear hPu hj h9 hsl1
          go_wp2_with fail
          go_roundw
          case rel => exact ⟨k + 1, x2, ss ++ [y], a9, c9, hlt, by go_num, rfl, HS9, by omega, HP9, HO9, HF9, HRD9, HA9, HM9, HW9⟩
          case measure => simp [intOf]; omega
       ·obtain rfl : n = k := by omega
        have H1 : Hid (ptabGo (inA b) n x0 [] = (ss, at_, 0)) := Hi (by
         have h1 := hP.out
         rw [Nat.sub_self, ptabGo] at h1
         exact h1.symm)
        have HRS := Hi hO.out.rd
        have hn24 : n ≤ 16777216 := by omega
        obtain ⟨at1, hat1⟩ : ∃ at1, at1 = at_ := ⟨_, rfl⟩
        obtain rfl : at_ = at1 := hat1.symm
        clear hP hO hF hW5 hat
        rename World => wq
        go_wp2_with fail
        go_loopw [62] (fun iv wr => ∃ (k at2 : Nat) (mb : Option Nat) (es : Ens), k ≤ n ∧ iv = .int .i64 k ∧ at_ ≤ at2 ∧ Hid (pfilGo (inA b) N (ss.drop k) at2 (arcOf es) = pfilGo (inA b) N ss at_ []) ∧ Hid (RdAt wr p ra rc (inA b) at2 0) ∧ Hid (AAt wr A mb es) ∧ Hid (ValidA (arcOf es)) ∧ Hid (((arcOf es).map arEntN).sum ≤ 3 * (at2 - at_)) ∧ Hid (es.length ≤ k) ∧ Hid (Rd wr a2 (u64s ss)) ∧ Hid (Mod (fun _ => False) w wr) ∧ Hid (∀ x, mb = some x → w.heap.size ≤ x) ∧ Hid (∀ q ∈ es, w.heap.size ≤ q.2.g)) (fun iv _ => n - (intOf iv).toNat)
        case atStart => exact ⟨0, at_, none, [], Nat.zero_le _, rfl, Nat.le_refl _, Hi rfl, hRD, hAA, Hi ValidA.nil, Hi (Nat.zero_le _), Hi (Nat.le_refl _), HRS, hM, Hi (fun x h => by cases h), Hi (fun q h => by cases h)⟩
        case round =>
         clear hRD hAA hM HRS
         obtain ⟨k, at2, mb, es, hk2, rfl, hat2, hPF, hRD, hAA, hVA, hSU, hEL, hRS, hM, hMB, hEG⟩ := hrel
         have hPu := hPF.out
         have hd2 : at2 ≤ (inA b).length := hRD.out.le
         by_cases hlt2 : k < n
         ·have hks : k < ss.length := by rw [hsl.out]; exact hlt2
          obtain ⟨b1, o1, ea, s0⟩ := hRS.out k (.int .u64 ss[k]) (by simp [u64s, hks])
          rw [show ss.drop k = ss[k] :: ss.drop (k + 1) from (List.getElem_cons_drop hks).symm, pfilGo] at hPu
          obtain ⟨s, hs⟩ : ∃ s, s = ss[k] := ⟨_, rfl⟩
          rw [← hs] at s0 hPu
          cases ea
          clear hs
          by_cases hbig : N < s
          ·have e1 : decide ((N : Int) < (s : Int)) = true := decide_eq_true (by omega)
           rw [if_pos hbig] at hPu
           have HBAD : Hid (openS b = (260, none)) := Hi (HOP.out none (pop_no HST.out H1.out (by rw [← HNN.out]; exact hPu.symm)))
           clear hPu hPF
           go_wp2_with fail
           refine bodyPost_ret (v := .tuple #[.pointer none, .int .i64 260]) ?_ rfl ⟨.inr ⟨260, HBAD.out, by decide, rfl⟩, hM.out⟩
           simp [results, Tryz.results14, go_sem]
          ·have e1 : decide ((N : Int) < (s : Int)) = false := decide_eq_false (by omega)
           rw [if_neg hbig] at hPu
           by_cases hsh : (inA b).length - at2 < s
           ·rw [if_pos hsh] at hPu
            have HBAD : Hid (openS b = (260, none)) := Hi (HOP.out none (pop_no HST.out H1.out (by rw [← HNN.out]; exact hPu.symm)))
            clear hPu hPF
            have HRW := Hi (raw_bad p ra rc s (inA b) at2 wr hRD.out hsh (by omega))
            go_wp2_with fail
            refine HRW.out.mono ?_
            clear HRW
            rintro e w20 ⟨rfl, hrd20, hm20⟩
            have HA20 := Hi (AAt.stepR hAA.out hRD.out hm20)
            have HM20 : Hid (Mod (fun _ => False) w w20) := Hi (hM.out.step hm20 fun b' hb' e => by have h1 := HPW.out; have h2 : b' = p := e; omega)
            have HTK := Hi (take_any A mb es none 0 [] w20 HA20.out.box HA20.out.map (by have := hEL.out; omega) (Rd.nil _ _) (Nat.le_refl _) (by simp))
            clear hrd20 hm20
            go_wp2_with fail
            refine HTK.out.mono ?_
            clear HTK
            rintro e w21 (⟨k', hd, hk', rfl, hm21⟩ | ⟨x, B, g, c2', hd, _⟩)
            ·have HM21 := Hi (HM20.out.step hm21 fun _ _ e => e)
             have e2 : ((k' : Int) != 0) = true := by simp; omega
             clear hd hm21
             go_wp2_with fail
             refine bodyPost_ret (v := .tuple #[.pointer none, .int .i64 260]) ?_ rfl ⟨.inr ⟨260, HBAD.out, by decide, rfl⟩, HM21.out⟩
             simp [results, Tryz.results14, go_sem]
            ·exact absurd hd (decA_nil x)
           ·rw [if_neg hsh] at hPu
            obtain ⟨rb, ro, hra, _⟩ := byte_cell hRD.out.rd (i := 0) (by omega)
            obtain ⟨ad, had⟩ : ∃ ad, ra = some ad := ⟨_, hra⟩
            have HRW : Hid (Calls Tryz.prog 36 #[.pointer (some ⟨p, 0, none⟩), .int .i64 s] wr fun e w' => ∃ g c', e = .returned (.slice (some ⟨g, 0, none⟩) s c') ∧
             Mine.Own w' 5 1 (some ⟨g, 0, none⟩) s c' (bts (((inA b).drop at2).take s)) ∧ RdAt w' p ra rc (inA b) (at2 + s) 0 ∧ Mod (fun b => b = p) wr w' ∧ wr.heap.size ≤ g) := Hi (by
             have h1 := hRD.out
             rw [had] at h1 ⊢
             exact raw_ok p ad rc s (inA b) at2 wr h1 (by omega))
            obtain ⟨f, hf⟩ : ∃ f, f = ((inA b).drop at2).take s := ⟨_, rfl⟩
            have hfl : f.length = s := by rw [hf, List.length_take, List.length_drop]; omega
            rw [← hf] at hPu HRW
            clear hra had hf
            go_wp2_with fail
            refine HRW.out.mono ?_
            clear HRW
            rintro e w20 ⟨g, c', rfl, hO20, hrd20, hm20, hg20⟩
            have HA20 := Hi (AAt.stepR hAA.out hRD.out hm20)
            have HRD20 := Hi hrd20
            have HRS20 := Hi (Rd.stepR hRS.out hRD.out hm20)
            have HM20 : Hid (Mod (fun _ => False) w w20) := Hi (hM.out.step hm20 fun b' hb' e => by have h1 := HPW.out; have h2 : b' = p := e; omega)
            have hcs : s ≤ c' := by
             rcases hO20.2 with ⟨h, _⟩ | ⟨_, _, _, _, h, _⟩
             ·cases h
             ·exact h
            have HTK := Hi (take_any A mb es (some ⟨g, 0, none⟩) c' f w20 HA20.out.box HA20.out.map (by have := hEL.out; omega) hO20.rd (by rw [hfl]; exact hcs) (by rw [hfl]; omega))
            rw [hfl] at HTK
            have HFL := Hi hfl
            clear hrd20 hm20 hO20 hcs hfl
            go_wp2_with fail
            refine HTK.out.mono ?_
            clear HTK
            rintro e w21 (⟨k', hd, hk', rfl, hm21⟩ | ⟨x, B, g2, c2', hd, rfl, hp2, hH2, hr2, hg2, hB2, hm21⟩)
            ·rw [hd] at hPu
             have HBAD : Hid (openS b = (260, none)) := Hi (HOP.out none (pop_no HST.out H1.out (by rw [← HNN.out]; exact hPu.symm)))
             have HM21 := Hi (HM20.out.step hm21 fun _ _ e => e)
             have e2 : ((k' : Int) != 0) = true := by simp; omega
             clear hd hm21 hPu hPF
             go_wp2_with fail
             refine bodyPost_ret (v := .tuple #[.pointer none, .int .i64 260]) ?_ rfl ⟨.inr ⟨260, HBAD.out, by decide, rfl⟩, HM21.out⟩
             simp [results, Tryz.results14, go_sem]
            ·rw [hd] at hPu
             simp only at hPu
             have HPF2 : Hid (pfilGo (inA b) N (ss.drop (k + 1)) (at2 + s) (arcOf (putA es x ⟨g2, c2', f⟩)) = pfilGo (inA b) N ss at_ []) := Hi (by rw [arcOf_put]; exact hPu)
             have HA21 : Hid (AAt w21 A (some B) (putA es x ⟨g2, c2', f⟩)) := Hi ⟨hp2, .inr ⟨B, rfl, hH2⟩, fun q hq => by
              rcases putA_mem q hq with rfl | hq
              ·exact ⟨(decA_ok hd).2.1, hr2⟩
              ·exact EntOk.step HA20.out hm21 q hq⟩
             have HRD21 := Hi (RdAt.stepA HRD20.out HA20.out hm21)
             have HRS21 := Hi (Rd.stepA HRS20.out HA20.out u64s_nomap hm21)
             have HM21 : Hid (Mod (fun _ => False) w w21) := Hi (HM20.out.step hm21 fun b' hb' e => by
              rcases e with e | e
              ·have h1 := HAw.out; omega
              ·have h1 := hMB.out b' e; omega)
             have HV21 : Hid (ValidA (arcOf (putA es x ⟨g2, c2', f⟩))) := Hi (by rw [arcOf_put]; exact hVA.out.put hd)
             have HSU21 : Hid (((arcOf (putA es x ⟨g2, c2', f⟩)).map arEntN).sum ≤ 3 * (at2 + s - at_)) := Hi (by
              rw [arcOf_put]
              show ((putA (arcOf es) x f).map arEntN).sum ≤ _
              have h1 := sum_put (arcOf es) x f
              have h2 := ent_le3 hd
              have h3 := hSU.out
              have h4 := HFL.out
              omega)
             have HEL21 : Hid ((putA es x ⟨g2, c2', f⟩).length ≤ k + 1) := Hi (by
              have h0 := hEL.out
              by_cases hg : (getA es x).isSome = true
              ·rw [putA_old hAA.out.map.up hg]; omega
              ·rw [putA_new (by simpa using hg)]; omega)
             have HMB21 : Hid (∀ x, some B = some x → w.heap.size ≤ x) := Hi (fun x' hx' => by
              cases hx'
              rcases hB2 with h | h
              ·exact hMB.out B h
              ·exact Nat.le_trans HM20.out.size h)
             have HEG21 : Hid (∀ q ∈ putA es x ⟨g2, c2', f⟩, w.heap.size ≤ q.2.g) := Hi (fun q hq => by
              rcases putA_mem q hq with rfl | hq
              ·exact Nat.le_trans HM20.out.size hg2
              ·exact hEG.out q hq)
             clear hd hp2 hH2 hr2 hg2 hB2 hm21 hPu hPF hSU hEL hVA hMB hEG hRD hAA hRS hM HM20 HA20 HRD20 HRS20
             go_wp2_with fail
             go_roundw
             case rel => exact ⟨k + 1, at2 + s, some B, _, hlt2, by go_num, by omega, HPF2, HRD21, HA21, HV21, HSU21, HEL21, HRS21, HM21, HMB21, HEG21⟩
             case measure => simp [intOf]; omega
         ·obtain rfl : n = k := by omega
          rw [List.drop_of_length_le (by rw [hsl.out]; exact Nat.le_refl _), pfilGo] at hPu
          have HPE := Hi (pop_end HST.out H1.out (by rw [← HNN.out]; exact hPu.symm))
          have HEN := Hi (end_any p ra rc (inA b) at2 wr hRD.out)
          clear hPu hPF
          by_cases hend : at2 = (inA b).length
          ·rw [if_pos hend] at HEN
           have hszA : arSz (arcOf es) ≤ 1000000000 := by
            rw [arSz_eq]
            have h1 := hSU.out
            have h2 := hEL.out
            have h3 := lebl_len64 (arcOf es).length (by rw [arcOf_len]; omega)
            omega
           have HBY := Hi (fun (W : World) (hW : Mod (fun _ => False) wr W) => bytesA_any A mb es W (hAA.out.mod0 hW) (hVA.out.arcOk hszA))
           have HEND := Hi hend
           clear hend hszA
           go_wp2_with fail
           refine HEN.out.mono ?_
           clear HEN
           rintro e w30 ⟨rfl, hm30⟩
           have HM30 := Hi hm30
           clear hm30
           go_wp2_with fail
           refine (HBY.out w30 HM30.out).mono ?_
           clear HBY
           rintro e w31 ⟨g, rfl, hW, hg, hm31⟩
           have HM31 := Hi (HM30.out.step hm31 fun _ _ e => e)
           have HEQ : Hid (Calls Tryz.prog 38 #[.slice (some ⟨g, 0, none⟩) (arSz (arcOf es)) (arSz (arcOf es)), .slice (some ⟨bb, o, none⟩) N c] w31 fun e w' => e = .returned (.bool (arcL (arcOf es) == b)) ∧ w31 = w') := Hi (by
            have h1 := bytesEq_any (some ⟨g, 0, none⟩) (some ⟨bb, o, none⟩) (arSz (arcOf es)) c (arcL (arcOf es)) b w31 hW.rd (HRB.out.mod (hM.out.step HM31.out fun _ _ e => e) fun _ _ => id)
            rw [arcL_len, ← HNN.out] at h1
            exact h1)
           have HMW := Hi (hM.out.step HM31.out fun _ _ e => e)
           clear hW hg hm31
           go_wp2_with fail
           refine HEQ.out.mono ?_
           clear HEQ
           rintro e w32 ⟨rfl, hw⟩
           obtain rfl : w31 = w32 := hw
           by_cases heq : arcL (arcOf es) = b
           ·have e5 : (arcL (arcOf es) == b) = true := by simpa using heq
            rw [e5]
            have HOK : Hid (openS b = (0, some (arcOf es))) := Hi (HOP.out (some (arcOf es)) (by rw [HPE.out, if_pos ⟨HEND.out, heq⟩]))
            clear heq e5
            go_wp2_with fail
            refine bodyPost_ret (v := .tuple #[.pointer (some ⟨A, 0, none⟩), .int .i64 0]) ?_ rfl ⟨.inl ⟨arcOf es, A, mb, es, HOK.out, rfl, hAA.out.mod0 HM31.out, rfl, HAw.out, hMB.out, hEG.out⟩, HMW.out⟩
            simp [results, Tryz.results14, go_sem]
           ·have e5 : (arcL (arcOf es) == b) = false := by simpa using heq
            rw [e5]
            have HBAD : Hid (openS b = (260, none)) := Hi (HOP.out none (by rw [HPE.out, if_neg (fun h => heq h.2)]))
            clear heq e5
            go_wp2_with fail
            refine bodyPost_ret (v := .tuple #[.pointer none, .int .i64 260]) ?_ rfl ⟨.inr ⟨260, HBAD.out, by decide, rfl⟩, HMW.out⟩
            simp [results, Tryz.results14, go_sem]
          ·rw [if_neg hend] at HEN
           have HBAD : Hid (openS b = (260, none)) := Hi (HOP.out none (by rw [HPE.out, if_neg (fun h => hend h.1)]))
           clear hend
           go_wp2_with fail
           refine HEN.out.mono ?_
           clear HEN
           rintro e w30 ⟨rfl, hm30⟩
           have HM30 := Hi (hM.out.step hm30 fun _ _ e => e)
           clear hm30
           go_wp2_with fail
           refine bodyPost_ret (v := .tuple #[.pointer none, .int .i64 260]) ?_ rfl ⟨.inr ⟨260, HBAD.out, by decide, rfl⟩, HM30.out⟩
           simp [results, Tryz.results14, go_sem]
   ·have HX : Hid (openS b = (260, none)) := Hi (by unfold openS; rw [if_neg (by rw [← HNN.out]; exact h16), if_pos (.inr (by rw [← HNN.out]; exact hmg))])
    rw [decide_eq_false hmg] at hten
    simp only [Bool.not_false] at hten
    clear hmg
    go_enter Tryz.func14, Tryz.ntmps14
    go_wp2_with fail
    go_step3
    go_wp2_with fail
    refine wp_region_ord (fun w' => w'.cell? ⟨bb, o, none⟩ = some (.int .u8 (n0 : Nat)) ∧ w'.cell? ⟨bb, o + 1, none⟩ = some (.int .u8 (n1 : Nat)) ∧ w'.cell? ⟨bb, o + 2, none⟩ = some (.int .u8 (n2 : Nat)) ∧ w'.cell? ⟨bb, o + 3, none⟩ = some (.int .u8 (n3 : Nat)) ∧ w'.cell? ⟨bb, o + 4, none⟩ = some (.int .u8 (n4 : Nat)) ∧ w'.cell? ⟨bb, o + 5, none⟩ = some (.int .u8 (n5 : Nat)) ∧ w'.cell? ⟨bb, o + 6, none⟩ = some (.int .u8 (n6 : Nat)) ∧ w'.cell? ⟨bb, o + 7, none⟩ = some (.int .u8 (n7 : Nat)) ∧ w'.cell? ⟨bb, o + 8, none⟩ = some (.int .u8 (n8 : Nat)) ∧ w'.cell? ⟨bb, o + 9, none⟩ = some (.int .u8 (n9 : Nat))) [(0, 0), (0, 1), (0, 2), (0, 3), (0, 4), (0, 5), (0, 6), (1, 7), (0, 8), (0, 9), (2, 10), (0, 11), (0, 12), (0, 13)] (by kernel_rfl) (by kernel_rfl) ?_
    go_wp2_with (first
     |(refine ord_pure rfl rfl rfl (fun K hK => ?_); refine quiet_atp rfl Tryz.underlying61 rfl ?_ (hK _ ?_); omega; clear hK K)
     |(refine ord_pure rfl rfl rfl (fun K hK => ?_); go_big_quiet_op; refine hK _ ?_; clear hK K)
     |(refine ord_skip rfl rfl ?_; simp only [Act.put, List.setIfInBounds_toArray, List.set_cons_zero, List.set_cons_succ])
     |(refine ord_held rfl rfl rfl (⟨x0, x1, x2, x3, x4, x5, x6, x7, x8, x9⟩) (fun K hK => ?_); apply Exists.intro; refine ⟨fun w' hs => ?_, hK _ ?_⟩; (revert hs; dsimp only; (try simp only [and_imp]); intros; go_simp; rfl); clear hK K)
     |(refine ord_keep rfl rfl (⟨x0, x1, x2, x3, x4, x5, x6, x7, x8, x9⟩) (fun K hK => ?_))
     |(refine ord_nil ?_))
    refine (HH2.out _).mono ?_
    rintro e w1 ⟨rfl, m1⟩
    have m1' := (Mod.refl (fun _ => False) w).drew.trans m1
    refine hK _ _ ⟨m1'.cell x0 id, m1'.cell x1 id, m1'.cell x2 id, m1'.cell x3 id, m1'.cell x4 id, m1'.cell x5 id, m1'.cell x6 id, m1'.cell x7 id, m1'.cell x8 id, m1'.cell x9 id⟩ ?_
    clear hK K m1
    have HM1 := Hi m1'
    clear m1'
    unfold headV
    go_wp2_with (first
     |(refine ord_pure rfl rfl rfl (fun K hK => ?_); go_big_quiet_op; refine hK _ ?_; clear hK K)
     |(refine ord_skip rfl rfl ?_; simp only [Act.put, List.setIfInBounds_toArray, List.set_cons_zero, List.set_cons_succ])
     |(refine ord_held rfl rfl rfl (trivial) (fun K hK => ?_); apply Exists.intro; refine ⟨fun w' hs => ?_, hK _ ?_⟩; (revert hs; dsimp only; (try simp only [and_imp]); intros; go_simp; rfl); clear hK K)
     |(refine ord_keep rfl rfl (trivial) (fun K hK => ?_))
     |(refine ord_nil ?_))
    refine bodyPost_ret (v := .tuple #[.pointer none, .int .i64 260]) ?_ rfl ⟨.inr ⟨260, HX.out, by decide, rfl⟩, HM1.out⟩
    simp [results, Tryz.results14, go_sem]
end Go.Proofs.YtjoiaejbahdjkaaGreat
