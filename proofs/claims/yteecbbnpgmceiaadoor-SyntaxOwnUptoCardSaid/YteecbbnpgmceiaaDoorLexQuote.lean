import Derived.Test.YteecbbnpgmceiaaDoorEsc
import Derived.Test.YteecbbnpgmceiaaDoorDec
namespace Go.Proofs.YteecbbnpgmceiaaDoor
open Go Go.RowKit Go.Mine
set_option maxHeartbeats 1000000
set_option maxRecDepth 100000
set_option linter.unusedVariables false

theorem tabs_mod {w w' : World} (h : Lib.Utf8Tabs 1 2 w) (m : Mod (fun _ => False) w w') : Lib.Utf8Tabs 1 2 w' :=
  ⟨fun c hc => m.cell (h.1 c hc) id, fun i hi => ⟨m.cell (h.2 i hi).1 id, m.cell (h.2 i hi).2 id⟩⟩

theorem escL_le (l : List UInt8) : (escL l).2 ≤ l.length := by
  cases l with
  | nil => simp [escL]
  | cons c r =>
    simp only [escL]
    split
    · simp
    split
    · simp
    split
    · simp
    split
    · simp
    split
    · simp
    split
    · split
      · simp
      · simp
    · simp

/-- a text in quotes from place i on, behind its first quote: what it stands for, where it ends, whether it is one; false: it goes wrong there -/
def qGo (s : ByteArray) : Nat → Nat → List UInt8 → List UInt8 × Nat × Bool
  | 0, i, _ => ([], i, false)
  | f + 1, i, acc =>
    if h : i < s.size then
      if s[i] = 34 then (acc, i + 1, true)
      else if s[i] = 92 then
        if (escL (s.data.toList.drop (i + 1))).2 = 0 then ([], i, false)
        else qGo s f (i + 1 + (escL (s.data.toList.drop (i + 1))).2) (acc ++ [(escL (s.data.toList.drop (i + 1))).1])
      else if 32 ≤ s[i].toNat ∧ s[i].toNat ≤ 126 then qGo s f (i + 1) (acc ++ [s[i]])
      else if (Utf8.decode s i).1 < 128 ∨ ((Utf8.decode s i).1 = 65533 ∧ (Utf8.decode s i).2 = 1) then ([], i, false)
      else qGo s f (i + (Utf8.decode s i).2) (acc ++ (s.data.toList.drop i).take (Utf8.decode s i).2)
    else ([], i, false)
/-- the fuel is enough -/
def QRes (s : ByteArray) (i : Nat) (acc : List UInt8) (r : List UInt8 × Nat × Bool) : Prop := ∃ f, s.size - i < f ∧ r = qGo s f i acc
theorem QRes.out {s : ByteArray} {i : Nat} {acc : List UInt8} {r : List UInt8 × Nat × Bool} (h : QRes s i acc r) (hi : ¬ i < s.size) : r = ([], i, false) := by
  obtain ⟨f, hf, rfl⟩ := h
  cases f with
  | zero => rfl
  | succ f => rw [qGo, dif_neg hi]
theorem QRes.quote {s : ByteArray} {i : Nat} {acc : List UInt8} {r : List UInt8 × Nat × Bool} (h : QRes s i acc r) (hi : i < s.size) (hc : s[i] = 34) : r = (acc, i + 1, true) := by
  obtain ⟨f, hf, rfl⟩ := h
  cases f with
  | zero => omega
  | succ f => rw [qGo, dif_pos hi, if_pos hc]
theorem QRes.esc0 {s : ByteArray} {i : Nat} {acc : List UInt8} {r : List UInt8 × Nat × Bool} (h : QRes s i acc r) (hi : i < s.size) (hc : s[i] = 92) (he : (escL (s.data.toList.drop (i + 1))).2 = 0) : r = ([], i, false) := by
  obtain ⟨f, hf, rfl⟩ := h
  cases f with
  | zero => omega
  | succ f => rw [qGo, dif_pos hi, if_neg (by rw [hc]; decide), if_pos hc, if_pos he]
theorem QRes.esc1 {s : ByteArray} {i : Nat} {acc : List UInt8} {r : List UInt8 × Nat × Bool} (h : QRes s i acc r) (hi : i < s.size) (hc : s[i] = 92) (he : (escL (s.data.toList.drop (i + 1))).2 ≠ 0) :
    QRes s (i + 1 + (escL (s.data.toList.drop (i + 1))).2) (acc ++ [(escL (s.data.toList.drop (i + 1))).1]) r := by
  obtain ⟨f, hf, rfl⟩ := h
  cases f with
  | zero => omega
  | succ f =>
    refine ⟨f, by omega, ?_⟩
    rw [qGo, dif_pos hi, if_neg (by rw [hc]; decide), if_pos hc, if_neg he]
theorem QRes.one {s : ByteArray} {i : Nat} {acc : List UInt8} {r : List UInt8 × Nat × Bool} (h : QRes s i acc r) (hi : i < s.size) (h34 : s[i] ≠ 34) (h92 : s[i] ≠ 92) (hp : 32 ≤ s[i].toNat ∧ s[i].toNat ≤ 126) :
    QRes s (i + 1) (acc ++ [s[i]]) r := by
  obtain ⟨f, hf, rfl⟩ := h
  cases f with
  | zero => omega
  | succ f =>
    refine ⟨f, by omega, ?_⟩
    rw [qGo, dif_pos hi, if_neg h34, if_neg h92, if_pos hp]
theorem QRes.bad {s : ByteArray} {i : Nat} {acc : List UInt8} {r : List UInt8 × Nat × Bool} (h : QRes s i acc r) (hi : i < s.size) (h34 : s[i] ≠ 34) (h92 : s[i] ≠ 92) (hp : ¬ (32 ≤ s[i].toNat ∧ s[i].toNat ≤ 126))
    (hd : (Utf8.decode s i).1 < 128 ∨ ((Utf8.decode s i).1 = 65533 ∧ (Utf8.decode s i).2 = 1)) : r = ([], i, false) := by
  obtain ⟨f, hf, rfl⟩ := h
  cases f with
  | zero => omega
  | succ f => rw [qGo, dif_pos hi, if_neg h34, if_neg h92, if_neg hp, if_pos hd]
theorem QRes.rune {s : ByteArray} {i : Nat} {acc : List UInt8} {r : List UInt8 × Nat × Bool} (h : QRes s i acc r) (hi : i < s.size) (h34 : s[i] ≠ 34) (h92 : s[i] ≠ 92) (hp : ¬ (32 ≤ s[i].toNat ∧ s[i].toNat ≤ 126))
    (hd : ¬ ((Utf8.decode s i).1 < 128 ∨ ((Utf8.decode s i).1 = 65533 ∧ (Utf8.decode s i).2 = 1))) :
    QRes s (i + (Utf8.decode s i).2) (acc ++ (s.data.toList.drop i).take (Utf8.decode s i).2) r := by
  have hw := (decode_width s i hi).1
  obtain ⟨f, hf, rfl⟩ := h
  cases f with
  | zero => omega
  | succ f =>
    refine ⟨f, by omega, ?_⟩
    rw [qGo, dif_pos hi, if_neg h34, if_neg h92, if_neg hp, if_neg hd]

theorem ext_data (s : ByteArray) (i j : Nat) : (s.extract i j).data.toList = (s.data.toList.drop i).take (j - i) := by
  rw [ByteArray.data_extract, Array.toList_extract]
theorem ext_drop (s : ByteArray) (i : Nat) : (s.extract i s.size).data.toList = s.data.toList.drop i := by
  rw [ext_data, List.take_of_length_le]
  rw [List.length_drop, ← Lib.size_eq]
  exact Nat.le_refl _
theorem ext_size (s : ByteArray) (i : Nat) : (s.extract i s.size).size = s.size - i := by rw [Lib.size_eq, ext_drop, List.length_drop, ← Lib.size_eq]
theorem ext_get (s : ByteArray) (i k : Nat) : (s.extract i s.size).get! k = s.get! (i + k) := by
  have h1 : ∀ (t : ByteArray) (j : Nat), t.get! j = t.data.toList.getD j 0 := fun t j => by
    by_cases hj : j < t.size
    · rw [show t.get! j = t[j] by simpa using get_at t j hj]
      rw [List.getD_eq_getElem?_getD, List.getElem?_eq_getElem (by simpa using hj)]; rfl
    · rw [List.getD_eq_getElem?_getD, List.getElem?_eq_none (by rw [← Lib.size_eq]; omega)]
      cases t with | mk d =>
      have : ¬ j < d.size := hj
      simp [ByteArray.get!, this]
      try rfl
  rw [h1, h1, ext_drop]
  simp [List.getD_eq_getElem?_getD, List.getElem?_drop]
theorem ext_decode (s : ByteArray) (i k : Nat) (h : i ≤ s.size) : Utf8.decode (s.extract i s.size) k = Utf8.decode s (i + k) := by
  have e : ∀ j, i + k + j < s.size ↔ k + j < (s.extract i s.size).size := fun j => by rw [ext_size]; omega
  simp only [Utf8.decode, ext_get, ← e, Nat.add_assoc]
end Go.Proofs.YteecbbnpgmceiaaDoor
