import Derived.Test.YtphgglnkdfndiaaDoorBuQ
import Derived.Lib.Bytealg
import Derived.Test.YtphgglnkdfndiaaDoorWrdG
import Derived.Shelf.Unicode.DecodeAny
import Derived.WalkMore
namespace Go.Proofs.YtphgglnkdfndiaaDoor
open Go Go.RowKit Go.Mine
set_option maxHeartbeats 400000
set_option maxRecDepth 100000
set_option linter.unusedVariables false

end Go.Proofs.YtphgglnkdfndiaaDoor
namespace Go.Proofs.YtphgglnkdfndiaaDoor
open Go Go.RowKit Go.Mine
set_option maxHeartbeats 400000
set_option maxRecDepth 100000
set_option linter.unusedVariables false

/-- a digit of the sixteen -/
def sx (c : UInt8) : Option Nat := if 48 ≤ c ∧ c ≤ 57 then some (c.toNat - 48) else if 97 ≤ c ∧ c ≤ 102 then some (c.toNat - 87) else none
def sxI (c : UInt8) : Int := match sx c with | some v => v | none => -1
theorem sx_idx (c : UInt8) : Lib.indexByte [48, 49, 50, 51, 52, 53, 54, 55, 56, 57, 97, 98, 99, 100, 101, 102] c = sxI c := by
  have h : ∀ n : Fin 256, Lib.indexByte [48, 49, 50, 51, 52, 53, 54, 55, 56, 57, 97, 98, 99, 100, 101, 102] (UInt8.ofNat n.1) = sxI (UInt8.ofNat n.1) := by decide +kernel
  have := h ⟨c.toNat, c.toNat_lt⟩
  simpa using this
theorem sx_lt {c : UInt8} {v : Nat} (h : sx c = some v) : v < 16 := by
  unfold sx at h
  split at h
  · rename_i h2
    have h3 := UInt8.le_iff_toNat_le.1 h2.2
    cases h
    have : (57 : UInt8).toNat = 57 := rfl
    omega
  · split at h
    · rename_i h2
      have h3 := UInt8.le_iff_toNat_le.1 h2.2
      cases h
      have : (102 : UInt8).toNat = 102 := rfl
      omega
    · cases h
/-- what stands behind a backslash: the byte, and how long it is; 0: it is none -/
def escL : List UInt8 → UInt8 × Nat
  | [] => (0, 0)
  | c :: r => if c = 34 then (34, 1) else if c = 92 then (92, 1) else if c = 110 then (10, 1) else if c = 116 then (9, 1) else if c ≠ 120 then (0, 0) else
    match r with
    | a :: b :: _ => match sx a, sx b with
      | some x, some y => (UInt8.ofNat (16 * x + y), 3)
      | _, _ => (0, 0)
    | _ => (0, 0)
theorem ret_u8i {a b c d : Int} (h1 : a = b) (h2 : c = d) : Ending.returned (.tuple #[.int .u8 a, .int .i64 c]) = .returned (.tuple #[.int .u8 b, .int .i64 d]) := by rw [h1, h2]

end Go.Proofs.YtphgglnkdfndiaaDoor
namespace Go.Proofs.YtphgglnkdfndiaaDoor
open Go Go.RowKit Go.Mine Go.Shelf
set_option linter.unusedVariables false

end Go.Proofs.YtphgglnkdfndiaaDoor
namespace Go.Proofs.YtphgglnkdfndiaaDoor
open Go Go.RowKit Go.Mine
set_option maxHeartbeats 1000000
set_option maxRecDepth 100000
set_option linter.unusedVariables false

theorem tabs_mod {w w' : World} (h : Lib.Utf8Tabs 1 2 w) (m : Mod (fun _ => False) w w') : Lib.Utf8Tabs 1 2 w' :=
  ⟨fun c hc => m.cell (h.1 c hc) id, fun i hi => ⟨m.cell (h.2 i hi).1 id, m.cell (h.2 i hi).2 id⟩⟩

theorem escL_le (l : List UInt8) : (escL l).2 ≤ l.length := by
  cases l with
  | nil => simp [escL]
  | cons c r =>
    simp only [escL]
    split
    · simp
    split
    · simp
    split
    · simp
    split
    · simp
    split
    · simp
    split
    · split
      · simp
      · simp
    · simp

/-- a text in quotes from place i on, behind its first quote: what it stands for, where it ends, whether it is one; false: it goes wrong there -/
def qGo (s : ByteArray) : Nat → Nat → List UInt8 → List UInt8 × Nat × Bool
  | 0, i, _ => ([], i, false)
  | f + 1, i, acc =>
    if h : i < s.size then
      if s[i] = 34 then (acc, i + 1, true)
      else if s[i] = 92 then
        if (escL (s.data.toList.drop (i + 1))).2 = 0 then ([], i, false)
        else qGo s f (i + 1 + (escL (s.data.toList.drop (i + 1))).2) (acc ++ [(escL (s.data.toList.drop (i + 1))).1])
      else if 32 ≤ s[i].toNat ∧ s[i].toNat ≤ 126 then qGo s f (i + 1) (acc ++ [s[i]])
      else if (Utf8.decode s i).1 < 128 ∨ ((Utf8.decode s i).1 = 65533 ∧ (Utf8.decode s i).2 = 1) then ([], i, false)
      else qGo s f (i + (Utf8.decode s i).2) (acc ++ (s.data.toList.drop i).take (Utf8.decode s i).2)
    else ([], i, false)
/-- the fuel is enough -/
def QRes (s : ByteArray) (i : Nat) (acc : List UInt8) (r : List UInt8 × Nat × Bool) : Prop := ∃ f, s.size - i < f ∧ r = qGo s f i acc
theorem QRes.out {s : ByteArray} {i : Nat} {acc : List UInt8} {r : List UInt8 × Nat × Bool} (h : QRes s i acc r) (hi : ¬ i < s.size) : r = ([], i, false) := by
  obtain ⟨f, hf, rfl⟩ := h
  cases f with
  | zero => rfl
  | succ f => rw [qGo, dif_neg hi]
theorem QRes.quote {s : ByteArray} {i : Nat} {acc : List UInt8} {r : List UInt8 × Nat × Bool} (h : QRes s i acc r) (hi : i < s.size) (hc : s[i] = 34) : r = (acc, i + 1, true) := by
  obtain ⟨f, hf, rfl⟩ := h
  cases f with
  | zero => omega
  | succ f => rw [qGo, dif_pos hi, if_pos hc]
theorem QRes.esc0 {s : ByteArray} {i : Nat} {acc : List UInt8} {r : List UInt8 × Nat × Bool} (h : QRes s i acc r) (hi : i < s.size) (hc : s[i] = 92) (he : (escL (s.data.toList.drop (i + 1))).2 = 0) : r = ([], i, false) := by
  obtain ⟨f, hf, rfl⟩ := h
  cases f with
  | zero => omega
  | succ f => rw [qGo, dif_pos hi, if_neg (by rw [hc]; decide), if_pos hc, if_pos he]
theorem QRes.esc1 {s : ByteArray} {i : Nat} {acc : List UInt8} {r : List UInt8 × Nat × Bool} (h : QRes s i acc r) (hi : i < s.size) (hc : s[i] = 92) (he : (escL (s.data.toList.drop (i + 1))).2 ≠ 0) :
    QRes s (i + 1 + (escL (s.data.toList.drop (i + 1))).2) (acc ++ [(escL (s.data.toList.drop (i + 1))).1]) r := by
  obtain ⟨f, hf, rfl⟩ := h
  cases f with
  | zero => omega
  | succ f =>
    refine ⟨f, by omega, ?_⟩
    rw [qGo, dif_pos hi, if_neg (by rw [hc]; decide), if_pos hc, if_neg he]
theorem QRes.one {s : ByteArray} {i : Nat} {acc : List UInt8} {r : List UInt8 × Nat × Bool} (h : QRes s i acc r) (hi : i < s.size) (h34 : s[i] ≠ 34) (h92 : s[i] ≠ 92) (hp : 32 ≤ s[i].toNat ∧ s[i].toNat ≤ 126) :
    QRes s (i + 1) (acc ++ [s[i]]) r := by
  obtain ⟨f, hf, rfl⟩ := h
  cases f with
  | zero => omega
  | succ f =>
    refine ⟨f, by omega, ?_⟩
    rw [qGo, dif_pos hi, if_neg h34, if_neg h92, if_pos hp]
theorem QRes.bad {s : ByteArray} {i : Nat} {acc : List UInt8} {r : List UInt8 × Nat × Bool} (h : QRes s i acc r) (hi : i < s.size) (h34 : s[i] ≠ 34) (h92 : s[i] ≠ 92) (hp : ¬ (32 ≤ s[i].toNat ∧ s[i].toNat ≤ 126))
    (hd : (Utf8.decode s i).1 < 128 ∨ ((Utf8.decode s i).1 = 65533 ∧ (Utf8.decode s i).2 = 1)) : r = ([], i, false) := by
  obtain ⟨f, hf, rfl⟩ := h
  cases f with
  | zero => omega
  | succ f => rw [qGo, dif_pos hi, if_neg h34, if_neg h92, if_neg hp, if_pos hd]
theorem QRes.rune {s : ByteArray} {i : Nat} {acc : List UInt8} {r : List UInt8 × Nat × Bool} (h : QRes s i acc r) (hi : i < s.size) (h34 : s[i] ≠ 34) (h92 : s[i] ≠ 92) (hp : ¬ (32 ≤ s[i].toNat ∧ s[i].toNat ≤ 126))
    (hd : ¬ ((Utf8.decode s i).1 < 128 ∨ ((Utf8.decode s i).1 = 65533 ∧ (Utf8.decode s i).2 = 1))) :
    QRes s (i + (Utf8.decode s i).2) (acc ++ (s.data.toList.drop i).take (Utf8.decode s i).2) r := by
  have hw := (decode_width s i hi).1
  obtain ⟨f, hf, rfl⟩ := h
  cases f with
  | zero => omega
  | succ f =>
    refine ⟨f, by omega, ?_⟩
    rw [qGo, dif_pos hi, if_neg h34, if_neg h92, if_neg hp, if_neg hd]

theorem ext_data (s : ByteArray) (i j : Nat) : (s.extract i j).data.toList = (s.data.toList.drop i).take (j - i) := by
  rw [ByteArray.data_extract, Array.toList_extract]
theorem ext_drop (s : ByteArray) (i : Nat) : (s.extract i s.size).data.toList = s.data.toList.drop i := by
  rw [ext_data, List.take_of_length_le]
  rw [List.length_drop, ← Lib.size_eq]
  exact Nat.le_refl _
theorem ext_size (s : ByteArray) (i : Nat) : (s.extract i s.size).size = s.size - i := by rw [Lib.size_eq, ext_drop, List.length_drop, ← Lib.size_eq]
theorem ext_get (s : ByteArray) (i k : Nat) : (s.extract i s.size).get! k = s.get! (i + k) := by
  have h1 : ∀ (t : ByteArray) (j : Nat), t.get! j = t.data.toList.getD j 0 := fun t j => by
    by_cases hj : j < t.size
    · rw [show t.get! j = t[j] by simpa using get_at t j hj]
      rw [List.getD_eq_getElem?_getD, List.getElem?_eq_getElem (by simpa using hj)]; rfl
    · rw [List.getD_eq_getElem?_getD, List.getElem?_eq_none (by rw [← Lib.size_eq]; omega)]
      cases t with | mk d =>
      have : ¬ j < d.size := hj
      simp [ByteArray.get!, this]
      try rfl
  rw [h1, h1, ext_drop]
  simp [List.getD_eq_getElem?_getD, List.getElem?_drop]
theorem ext_decode (s : ByteArray) (i k : Nat) (h : i ≤ s.size) : Utf8.decode (s.extract i s.size) k = Utf8.decode s (i + k) := by
  have e : ∀ j, i + k + j < s.size ↔ k + j < (s.extract i s.size).size := fun j => by rw [ext_size]; omega
  simp only [Utf8.decode, ext_get, ← e, Nat.add_assoc]
end Go.Proofs.YtphgglnkdfndiaaDoor
/-
  The plain law of scanning: tokens of a text from a place on; the shifts from a text to what stands behind a place of it.
-/
namespace Go.Proofs.YtphgglnkdfndiaaDoor
open Go Go.RowKit Go.Mine
set_option maxHeartbeats 1000000
set_option maxRecDepth 100000
set_option linter.unusedVariables false

theorem qGo_le {s : ByteArray} : ∀ (f i : Nat) (acc : List UInt8), i ≤ s.size → i ≤ (qGo s f i acc).2.1 ∧ (qGo s f i acc).2.1 ≤ s.size ∧ ((qGo s f i acc).2.2 = true → i < (qGo s f i acc).2.1)
  | 0, i, acc, h => by simp [qGo, h]
  | f + 1, i, acc, h => by
    rw [qGo]
    by_cases hi : i < s.size
    · rw [dif_pos hi]
      by_cases h34 : s[i] = 34
      · rw [if_pos h34]; simp; omega
      · rw [if_neg h34]
        by_cases h92 : s[i] = 92
        · rw [if_pos h92]
          have hl := escL_le (s.data.toList.drop (i + 1))
          rw [List.length_drop, ← Lib.size_eq] at hl
          by_cases he : (escL (s.data.toList.drop (i + 1))).2 = 0
          · rw [if_pos he]; simp; omega
          · rw [if_neg he]
            have := qGo_le (s := s) f (i + 1 + (escL (s.data.toList.drop (i + 1))).2) (acc ++ [(escL (s.data.toList.drop (i + 1))).1]) (by omega)
            exact ⟨by omega, this.2.1, fun h => by have := this.2.2 h; omega⟩
        · rw [if_neg h92]
          by_cases hp : 32 ≤ s[i].toNat ∧ s[i].toNat ≤ 126
          · rw [if_pos hp]
            have := qGo_le (s := s) f (i + 1) (acc ++ [s[i]]) (by omega)
            exact ⟨by omega, this.2.1, fun h => by have := this.2.2 h; omega⟩
          · rw [if_neg hp]
            have hw := decode_width s i hi
            by_cases hd : (Utf8.decode s i).1 < 128 ∨ ((Utf8.decode s i).1 = 65533 ∧ (Utf8.decode s i).2 = 1)
            · rw [if_pos hd]; simp; omega
            · rw [if_neg hd]
              have := qGo_le (s := s) f (i + (Utf8.decode s i).2) (acc ++ (s.data.toList.drop i).take (Utf8.decode s i).2) (by omega)
              exact ⟨by omega, this.2.1, fun h => by have := this.2.2 h; omega⟩
    · rw [dif_neg hi]; simp; omega

theorem qGo_fuel {s : ByteArray} : ∀ (f g i : Nat) (acc : List UInt8), s.size - i < f → s.size - i < g → qGo s f i acc = qGo s g i acc
  | 0, g, i, acc, h, _ => by omega
  | f + 1, 0, i, acc, _, h => by omega
  | f + 1, g + 1, i, acc, hf, hg => by
    rw [qGo, qGo]
    by_cases hi : i < s.size
    · rw [dif_pos hi, dif_pos hi]
      have hw := decode_width s i hi
      rw [qGo_fuel f g (i + 1 + (escL (s.data.toList.drop (i + 1))).2) _ (by omega) (by omega), qGo_fuel f g (i + 1) _ (by omega) (by omega), qGo_fuel f g (i + (Utf8.decode s i).2) _ (by omega) (by omega)]
    · rw [dif_neg hi, dif_neg hi]
theorem QRes.uniq {s : ByteArray} {i : Nat} {acc : List UInt8} {r r' : List UInt8 × Nat × Bool} (h : QRes s i acc r) (h' : QRes s i acc r') : r = r' := by
  obtain ⟨f, hf, rfl⟩ := h
  obtain ⟨g, hg, rfl⟩ := h'
  exact qGo_fuel f g i acc hf hg

theorem ext_at (s : ByteArray) (j i : Nat) (h : j + i < s.size) (h' : i < (s.extract j s.size).size) : (s.extract j s.size)[i] = s[j + i] := by
  have h1 := ext_get s j i
  rw [show (s.extract j s.size).get! i = (s.extract j s.size)[i] by simpa using get_at _ i h'] at h1
  rw [h1]; simpa using get_at s (j + i) h
theorem qGo_shift {s : ByteArray} {j : Nat} (hj : j ≤ s.size) : ∀ (f i : Nat) (acc : List UInt8),
    qGo s f (j + i) acc = ((qGo (s.extract j s.size) f i acc).1, j + (qGo (s.extract j s.size) f i acc).2.1, (qGo (s.extract j s.size) f i acc).2.2)
  | 0, i, acc => rfl
  | f + 1, i, acc => by
    rw [qGo, qGo]
    by_cases hi : j + i < s.size
    · have hi' : i < (s.extract j s.size).size := by rw [ext_size]; omega
      rw [dif_pos hi, dif_pos hi']
      have e1 : (s.extract j s.size)[i] = s[j + i] := ext_at s j i hi hi'
      have e2 : (s.extract j s.size).data.toList.drop (i + 1) = s.data.toList.drop (j + i + 1) := by rw [ext_drop, List.drop_drop]; rfl
      have e3 := ext_decode s j i hj
      have e4 : (s.extract j s.size).data.toList.drop i = s.data.toList.drop (j + i) := by rw [ext_drop, List.drop_drop]
      rw [e1, e2, e3, e4]
      by_cases h34 : s[j + i] = 34
      · rw [if_pos h34, if_pos h34]; rfl
      · rw [if_neg h34, if_neg h34]
        by_cases h92 : s[j + i] = 92
        · rw [if_pos h92, if_pos h92]
          by_cases he : (escL (s.data.toList.drop (j + i + 1))).2 = 0
          · rw [if_pos he, if_pos he]
          · rw [if_neg he, if_neg he, ← qGo_shift hj f, ← Nat.add_assoc, ← Nat.add_assoc]
        · rw [if_neg h92, if_neg h92]
          by_cases hp : 32 ≤ s[j + i].toNat ∧ s[j + i].toNat ≤ 126
          · rw [if_pos hp, if_pos hp, ← qGo_shift hj f, ← Nat.add_assoc]
          · rw [if_neg hp, if_neg hp]
            by_cases hd : (Utf8.decode s (j + i)).1 < 128 ∨ ((Utf8.decode s (j + i)).1 = 65533 ∧ (Utf8.decode s (j + i)).2 = 1)
            · rw [if_pos hd, if_pos hd]
            · rw [if_neg hd, if_neg hd, ← qGo_shift hj f, ← Nat.add_assoc]
    · have hi' : ¬ i < (s.extract j s.size).size := by rw [ext_size]; omega
      rw [dif_neg hi, dif_neg hi']
/-- a text in quotes read behind place j: in the text itself, or in what stands behind j -/
theorem QRes.shift {s : ByteArray} {j : Nat} (hj : j ≤ s.size) {r : List UInt8 × Nat × Bool} (h : QRes (s.extract j s.size) 0 [] r) : QRes s j [] (r.1, j + r.2.1, r.2.2) := by
  obtain ⟨f, hf, rfl⟩ := h
  rw [ext_size] at hf
  exact ⟨f, by omega, (qGo_shift (i := 0) hj f [] ▸ rfl : _ = qGo s f (j + 0) [])⟩

theorem partL_shift {s : ByteArray} {j : Nat} (hj : j ≤ s.size) (i : Nat) : partL (s.extract j s.size) i = partL s (j + i) := by
  unfold partL
  rw [ext_decode s j i hj, ext_size]
  have hh : (i < s.size - j) ↔ (j + i < s.size) := by omega
  simp only [hh]
theorem endL_shift {s : ByteArray} {j : Nat} (hj : j ≤ s.size) : ∀ (f i : Nat), endL s f (j + i) = j + endL (s.extract j s.size) f i
  | 0, i => rfl
  | f + 1, i => by
    rw [endL, endL, partL_shift hj]
    split
    · rfl
    · rw [Nat.add_assoc, endL_shift hj f]
theorem kindL_shift {s : ByteArray} {j : Nat} (hj : j ≤ s.size) (i : Nat) : kindL (s.extract j s.size) i = kindL s (j + i) := by
  unfold kindL
  rw [ext_decode s j i hj, ext_size]
  by_cases h : j + i < s.size
  · rw [if_pos (by omega), if_pos h]
  · rw [if_neg (by omega), if_neg h]
theorem wordL_shift {s : ByteArray} {j : Nat} (hj : j ≤ s.size) : wordL s j = ((wordL (s.extract j s.size) 0).1, j + (wordL (s.extract j s.size) 0).2) := by
  have hk := kindL_shift hj 0
  rw [Nat.add_zero] at hk
  unfold wordL
  rw [hk]
  by_cases h : kindL s j = 0
  · rw [if_pos h, if_pos h]; rfl
  · rw [if_neg h, if_neg h]
    have h1 := endL_shift hj (s.extract j s.size).size 0
    rw [Nat.add_zero] at h1
    have : endL s s.size j = endL s (s.extract j s.size).size j := by
      refine End.unique hj ⟨_, ?_, rfl⟩ ⟨_, ?_, rfl⟩
      · omega
      · rw [ext_size]; exact Nat.le_refl _
    rw [this, h1]
theorem wordL_pos {s : ByteArray} {j : Nat} (hj : j ≤ s.size) (h : (wordL s j).1 ≠ 0) : j < (wordL s j).2 ∧ (wordL s j).2 ≤ s.size ∧ (wordL s j).1 ≤ 2 := by
  have hle : ∀ (f i : Nat), i ≤ s.size → i ≤ endL s f i ∧ endL s f i ≤ s.size := by
    intro f
    induction f with
    | zero => intro i hi; exact ⟨Nat.le_refl _, hi⟩
    | succ f ih =>
      intro i hi
      rw [endL]
      split
      · exact ⟨Nat.le_refl _, hi⟩
      · have := ih (i + partL s i) (partL_le hi); omega
  unfold wordL at *
  by_cases hk : kindL s j = 0
  · rw [if_pos hk] at h; exact absurd rfl h
  · rw [if_neg hk] at *
    have hlt : j < s.size := by
      unfold kindL at hk
      by_cases hlt : j < s.size
      · exact hlt
      · rw [if_neg hlt] at hk; exact absurd rfl hk
    have hkr : kindR (Utf8.decode s j).1 ≠ 0 := by unfold kindL at hk; rwa [if_pos hlt] at hk
    have hp : 0 < partL s j := by
      unfold partL
      have hw := decode_width s j hlt
      have : isPart (Utf8.decode s j).1 = true := by
        cases hh : isPart (Utf8.decode s j).1
        · exact absurd ((kindR_part _).2 hh) hkr
        · rfl
      rw [if_pos ⟨hlt, this⟩]; omega
    refine ⟨?_, (hle _ _ hj).2, ?_⟩
    · cases hs : s.size with
      | zero => omega
      | succ n =>
        simp only
        rw [endL, if_neg (by omega)]
        have := hle n (j + partL s j) (partL_le hj)
        omega
    · simp only
      unfold kindL
      rw [if_pos hlt]
      unfold kindR letterL
      repeat' split
      all_goals omega

/-- the mark that stands at the beginning of a text, and how long it is; 0: none -/
def markL : List UInt8 → Nat × Nat
  | 58 :: 45 :: _ => (8, 2)
  | 33 :: 61 :: _ => (11, 2)
  | 60 :: 61 :: _ => (13, 2)
  | 40 :: _ => (4, 1)
  | 41 :: _ => (5, 1)
  | 44 :: _ => (6, 1)
  | 46 :: _ => (7, 1)
  | 33 :: _ => (9, 1)
  | 61 :: _ => (10, 1)
  | 60 :: _ => (12, 1)
  | _ => (0, 0)
theorem markL_le (l : List UInt8) : (markL l).2 ≤ l.length ∧ (markL l).1 ≤ 13 ∧ ((markL l).1 ≠ 0 → 0 < (markL l).2) := by
  unfold markL
  split <;> simp

structure Tok where
  kind : Nat
  text : ByteArray
  at_ : Nat

/-- where a comment ends -/
def cmtE (s : ByteArray) (i : Nat) : Nat := i + ((s.data.toList.drop i).takeWhile (· != 10)).length
theorem cmtE_le {s : ByteArray} {i : Nat} (h : i ≤ s.size) : cmtE s i ≤ s.size := by
  unfold cmtE
  have := (List.takeWhile_sublist (fun x : UInt8 => x != 10) (l := s.data.toList.drop i)).length_le
  rw [List.length_drop, ← Lib.size_eq] at this
  omega
theorem cmtE_pos {s : ByteArray} {i : Nat} (h : i < s.size) (hc : s[i] = 37) : i < cmtE s i := by
  unfold cmtE
  have : s.data.toList.drop i = s[i] :: s.data.toList.drop (i + 1) := List.drop_eq_getElem_cons (by simpa using h)
  rw [this, hc, List.takeWhile_cons]
  simp
def quoteE (s : ByteArray) (i : Nat) : List UInt8 × Nat × Bool := qGo s (s.size + 1) i []
theorem quoteE_res (s : ByteArray) (i : Nat) : QRes s i [] (quoteE s i) := ⟨_, by omega, rfl⟩
theorem QRes.eqE {s : ByteArray} {i : Nat} {r : List UInt8 × Nat × Bool} (h : QRes s i [] r) : quoteE s i = r := (quoteE_res s i).uniq h

def tcons (t : Tok) (r : List Tok × Nat × Nat) : List Tok × Nat × Nat := (t :: r.1, r.2)
/-- the tokens from a place on, the place of what is wrong behind them, and what is -/
def scanGo (s : ByteArray) : Nat → Nat → List Tok × Nat × Nat
  | 0, _ => ([], 0, 0)
  | f + 1, i =>
    if h : i < s.size then
      if s[i] = 32 ∨ s[i] = 9 ∨ s[i] = 10 ∨ s[i] = 13 then scanGo s f (i + 1)
      else if s[i] = 37 then scanGo s f (cmtE s i)
      else if s[i] = 34 then
        if (quoteE s (i + 1)).2.2 = true then tcons ⟨3, ⟨(quoteE s (i + 1)).1.toArray⟩, i⟩ (scanGo s f (quoteE s (i + 1)).2.1)
        else ([], (quoteE s (i + 1)).2.1, 61)
      else if (wordL s i).1 ≠ 0 then tcons ⟨(wordL s i).1, s.extract i (wordL s i).2, i⟩ (scanGo s f (wordL s i).2)
      else if (markL (s.data.toList.drop i)).1 ≠ 0 then tcons ⟨(markL (s.data.toList.drop i)).1, ⟨#[]⟩, i⟩ (scanGo s f (i + (markL (s.data.toList.drop i)).2))
      else ([], i, 60)
    else ([], 0, 0)

def TRes (s : ByteArray) (i : Nat) (r : List Tok × Nat × Nat) : Prop := ∃ f, s.size - i < f ∧ r = scanGo s f i
section
variable {s : ByteArray} {i : Nat} {r : List Tok × Nat × Nat}
theorem TRes.out (h : TRes s i r) (hi : ¬ i < s.size) : r = ([], 0, 0) := by
  obtain ⟨f, hf, rfl⟩ := h
  cases f with
  | zero => rfl
  | succ f => rw [scanGo, dif_neg hi]
theorem TRes.blank (h : TRes s i r) (hi : i < s.size) (hc : s[i] = 32 ∨ s[i] = 9 ∨ s[i] = 10 ∨ s[i] = 13) : TRes s (i + 1) r := by
  obtain ⟨f, hf, rfl⟩ := h
  cases f with
  | zero => omega
  | succ f => exact ⟨f, by omega, by rw [scanGo, dif_pos hi, if_pos hc]⟩
theorem TRes.cmt (h : TRes s i r) (hi : i < s.size) (hc : s[i] = 37) : TRes s (cmtE s i) r := by
  obtain ⟨f, hf, rfl⟩ := h
  cases f with
  | zero => omega
  | succ f =>
    have := cmtE_pos hi hc
    exact ⟨f, by omega, by rw [scanGo, dif_pos hi, if_neg (by rw [hc]; decide), if_pos hc]⟩
theorem TRes.quote1 (h : TRes s i r) (hi : i < s.size) (hc : s[i] = 34) {x : List UInt8} {e : Nat} (hq : quoteE s (i + 1) = (x, e, true)) : ∃ r', r = tcons ⟨3, ⟨x.toArray⟩, i⟩ r' ∧ TRes s e r' := by
  obtain ⟨f, hf, rfl⟩ := h
  cases f with
  | zero => omega
  | succ f =>
    have hl := (qGo_le (s := s) (s.size + 1) (i + 1) [] (by omega)).1
    have : qGo s (s.size + 1) (i + 1) [] = (x, e, true) := hq
    rw [this] at hl
    simp only at hl
    refine ⟨scanGo s f e, ?_, f, by omega, rfl⟩
    rw [scanGo, dif_pos hi, if_neg (by rw [hc]; decide), if_neg (by rw [hc]; decide), if_pos hc, hq]; rfl
theorem TRes.quote0 (h : TRes s i r) (hi : i < s.size) (hc : s[i] = 34) {x : List UInt8} {e : Nat} (hq : quoteE s (i + 1) = (x, e, false)) : r = ([], e, 61) := by
  obtain ⟨f, hf, rfl⟩ := h
  cases f with
  | zero => omega
  | succ f => rw [scanGo, dif_pos hi, if_neg (by rw [hc]; decide), if_neg (by rw [hc]; decide), if_pos hc, hq]; rfl
/-- the byte begins neither a blank, nor a comment, nor a text in quotes -/
def plainB (c : UInt8) : Prop := c ≠ 32 ∧ c ≠ 9 ∧ c ≠ 10 ∧ c ≠ 13 ∧ c ≠ 37 ∧ c ≠ 34
theorem scanGo_plain {f : Nat} (hi : i < s.size) (hc : plainB s[i]) : scanGo s (f + 1) i =
      if (wordL s i).1 ≠ 0 then tcons ⟨(wordL s i).1, s.extract i (wordL s i).2, i⟩ (scanGo s f (wordL s i).2)
      else if (markL (s.data.toList.drop i)).1 ≠ 0 then tcons ⟨(markL (s.data.toList.drop i)).1, ⟨#[]⟩, i⟩ (scanGo s f (i + (markL (s.data.toList.drop i)).2))
      else ([], i, 60) := by
  obtain ⟨h1, h2, h3, h4, h5, h6⟩ := hc
  rw [scanGo, dif_pos hi, if_neg (by rintro (h | h | h | h) <;> contradiction), if_neg h5, if_neg h6]
theorem TRes.word (h : TRes s i r) (hi : i < s.size) (hc : plainB s[i]) {k e : Nat} (hw : wordL s i = (k, e)) (hk : k ≠ 0) : ∃ r', r = tcons ⟨k, s.extract i e, i⟩ r' ∧ TRes s e r' := by
  obtain ⟨f, hf, rfl⟩ := h
  cases f with
  | zero => omega
  | succ f =>
    have hp := wordL_pos (Nat.le_of_lt hi) (by rw [hw]; exact hk)
    rw [hw] at hp
    simp only at hp
    refine ⟨scanGo s f e, ?_, f, by omega, rfl⟩
    rw [scanGo_plain hi hc, hw, if_pos hk]
theorem TRes.mark (h : TRes s i r) (hi : i < s.size) (hc : plainB s[i]) (hw : (wordL s i).1 = 0) {k n : Nat} (hm : markL (s.data.toList.drop i) = (k, n)) (hk : k ≠ 0) : ∃ r', r = tcons ⟨k, ⟨#[]⟩, i⟩ r' ∧ TRes s (i + n) r' := by
  obtain ⟨f, hf, rfl⟩ := h
  cases f with
  | zero => omega
  | succ f =>
    have hp := (markL_le (s.data.toList.drop i)).2.2 (by rw [hm]; exact hk)
    rw [hm] at hp
    simp only at hp
    refine ⟨scanGo s f (i + n), ?_, f, by omega, rfl⟩
    rw [scanGo_plain hi hc, hm, if_neg (by rw [hw]; simp), if_pos hk]
theorem TRes.none (h : TRes s i r) (hi : i < s.size) (hc : plainB s[i]) (hw : (wordL s i).1 = 0) (hm : (markL (s.data.toList.drop i)).1 = 0) : r = ([], i, 60) := by
  obtain ⟨f, hf, rfl⟩ := h
  cases f with
  | zero => omega
  | succ f => rw [scanGo_plain hi hc, if_neg (by rw [hw]; simp), if_neg (by rw [hm]; simp)]
end
def scanL (s : ByteArray) : List Tok × Nat × Nat := scanGo s (s.size + 1) 0
theorem scanL_res (s : ByteArray) : TRes s 0 (scanL s) := ⟨_, by omega, rfl⟩
/-- what is found: P6.1 -/
def foundL (s : ByteArray) : List Tok × Nat × Nat := if 65536 < s.size then ([], 0, 3) else scanL s
/-- what comes one by one: the tokens, and the error behind them -/
def seqOf (r : List Tok × Nat × Nat) : List (Tok × Nat) := r.1.map (·, 0) ++ if r.2.2 = 0 then [] else [(⟨0, ⟨#[]⟩, r.2.1⟩, r.2.2)]
theorem seqOf_tcons (t : Tok) (r : List Tok × Nat × Nat) : seqOf (tcons t r) = (t, 0) :: seqOf r := rfl
end Go.Proofs.YtphgglnkdfndiaaDoor
namespace Go.Proofs.YtphgglnkdfndiaaDoor
open Go Go.RowKit Go.Mine
set_option maxHeartbeats 1000000
set_option maxRecDepth 100000
set_option linter.unusedVariables false

theorem buWB {w w1 : World} {a : Option Addr} {l : List UInt8} (c : UInt8) (hb : BuAt w1 w.heap.size a l) (hF : ∀ b, blk a = some b → w.heap.size ≤ b) (hM : Mod (fun _ => False) w w1) (hl : l.length < 2 ^ 40) :
    Calls Tryd.prog 87 #[.pointer (some ⟨w.heap.size, 0, none⟩), .int .u8 c.toNat] w1 fun e w' => e = .returned .nilIface ∧
      ∃ a', Hid (BuAt w' w.heap.size a' (l ++ [c])) ∧ Hid (∀ b, blk a' = some b → w.heap.size ≤ b) ∧ Hid (Mod (fun _ => False) w w') := by
  refine (writeByte_any w.heap.size a l c w1 hb hl).mono ?_
  rintro e w' ⟨h1, a', h2, h3⟩
  exact ⟨h1, a', h2, (Bu_mod (Nat.le_refl _) hF hM h3).2, (Bu_mod (Nat.le_refl _) hF hM h3).1⟩
theorem buWS {w w1 : World} {a : Option Addr} {l : List UInt8} (t : ByteArray) (hb : BuAt w1 w.heap.size a l) (hF : ∀ b, blk a = some b → w.heap.size ≤ b) (hM : Mod (fun _ => False) w w1) (hl : l.length + t.size < 2 ^ 40) :
    Calls Tryd.prog 70 #[.pointer (some ⟨w.heap.size, 0, none⟩), .string t] w1 fun e w' => e = .returned (.tuple #[.int .i64 t.size, .nilIface]) ∧
      ∃ a', Hid (BuAt w' w.heap.size a' (l ++ t.data.toList)) ∧ Hid (∀ b, blk a' = some b → w.heap.size ≤ b) ∧ Hid (Mod (fun _ => False) w w') := by
  refine (writeString_any w.heap.size a l t w1 hb hl).mono ?_
  rintro e w' ⟨h1, a', h2, h3⟩
  exact ⟨h1, a', h2, (Bu_mod (Nat.le_refl _) hF hM h3).2, (Bu_mod (Nat.le_refl _) hF hM h3).1⟩
theorem buS {w w1 : World} {a : Option Addr} {l : List UInt8} (hb : BuAt w1 w.heap.size a l) (hF : ∀ b, blk a = some b → w.heap.size ≤ b) (hM : Mod (fun _ => False) w w1) (hl : l.length < 2 ^ 40) (hz : l = [] → a = none) :
    Calls Tryd.prog 52 #[.pointer (some ⟨w.heap.size, 0, none⟩)] w1 fun e w' => e = .returned (.string ⟨l.toArray⟩) ∧ Mod (fun _ => False) w w' := by
  refine (bString_any w.heap.size a l w1 hb hl hz).mono ?_
  rintro e w' ⟨h1, h2⟩
  refine ⟨h1, hM.step h2 (fun i hi hs => ?_)⟩
  rcases hs with rfl | hs
  · omega
  · have := hF i hs; omega
theorem QRes.shift0 {s : ByteArray} {r : List UInt8 × Nat × Bool} (h : QRes s 0 [] r) : r.2.1 ≤ s.size := by
  obtain ⟨f, hf, rfl⟩ := h
  exact (qGo_le f 0 [] (by omega)).2.1

end Go.Proofs.YtphgglnkdfndiaaDoor
/-
  strings.HasPrefix, lex.marks; the plain law of the marks.
-/
namespace Go.Proofs.YtphgglnkdfndiaaDoor
open Go Go.RowKit Go.Mine
set_option maxHeartbeats 400000
set_option maxRecDepth 100000
set_option linter.unusedVariables false

def hpB (s p : ByteArray) : Bool := p.data.toList.isPrefixOf s.data.toList
theorem hpB_big {s p : ByteArray} (h : s.size < p.size) : hpB s p = false := by
  unfold hpB
  rw [Bool.eq_false_iff]
  intro hh
  have := (List.isPrefixOf_iff_prefix.1 hh).length_le
  rw [← Lib.size_eq, ← Lib.size_eq] at this
  omega
theorem hpB_eq {s p : ByteArray} (h : p.size ≤ s.size) : ((s.extract 0 p.size).toList == p.toList) = hpB s p := by
  unfold hpB
  rw [Lib.toList_data, Lib.toList_data, ext_data, List.drop_zero, Nat.sub_zero, Bool.eq_iff_iff]
  rw [beq_iff_eq, List.isPrefixOf_iff_prefix, List.prefix_iff_eq_take, ← Lib.size_eq]
  exact eq_comm

def marksT : List (List UInt8 × Nat) := [([58, 45], 8), ([33, 61], 11), ([60, 61], 13), ([40], 4), ([41], 5), ([44], 6), ([46], 7), ([33], 9), ([61], 10), ([60], 12)]
def marksC : List Value := marksT.flatMap fun m => [.string ⟨m.1.toArray⟩, .int .i64 m.2]
/-- the first mark that a text begins with -/
theorem markL_first (l : List UInt8) (k : Nat) (hk : k < 10) (hno : ∀ j, j < k → (marksT.getD j ([], 0)).1.isPrefixOf l = false) (hy : (marksT.getD k ([], 0)).1.isPrefixOf l = true) :
    markL l = ((marksT.getD k ([], 0)).2, (marksT.getD k ([], 0)).1.length) := by
  have hc : k = 0 ∨ k = 1 ∨ k = 2 ∨ k = 3 ∨ k = 4 ∨ k = 5 ∨ k = 6 ∨ k = 7 ∨ k = 8 ∨ k = 9 := by omega
  have h1 : 1 < k → (marksT.getD 1 ([], 0)).1.isPrefixOf l = false := hno 1
  have h2 : 2 < k → (marksT.getD 2 ([], 0)).1.isPrefixOf l = false := hno 2
  clear hno hk
  rcases hc with rfl | rfl | rfl | rfl | rfl | rfl | rfl | rfl | rfl | rfl
  all_goals
    rcases l with _ | ⟨a, _ | ⟨b, t⟩⟩
    all_goals simp [marksT, List.isPrefixOf] at hy h1 h2 ⊢
    all_goals (try subst hy)
    all_goals (try (obtain ⟨rfl, rfl⟩ := hy))
    all_goals unfold markL
    all_goals (try rfl)
    all_goals (split <;> simp_all)
theorem markL_no (l : List UInt8) (hno : ∀ j, j < 10 → (marksT.getD j ([], 0)).1.isPrefixOf l = false) : (markL l).1 = 0 := by
  have h0 := hno 0 (by omega)
  have h1 := hno 1 (by omega)
  have h2 := hno 2 (by omega)
  have h3 := hno 3 (by omega)
  have h4 := hno 4 (by omega)
  have h5 := hno 5 (by omega)
  have h6 := hno 6 (by omega)
  have h7 := hno 7 (by omega)
  have h8 := hno 8 (by omega)
  have h9 := hno 9 (by omega)
  clear hno
  rcases l with _ | ⟨a, _ | ⟨b, t⟩⟩
  all_goals simp [marksT, List.isPrefixOf] at h0 h1 h2 h3 h4 h5 h6 h7 h8 h9
  all_goals unfold markL
  all_goals (split <;> simp_all)
end Go.Proofs.YtphgglnkdfndiaaDoor
