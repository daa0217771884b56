/-
  What stands behind a line's end is scanned as it is by itself, its places so much later.
-/
import Derived.Test.YtgplagdehfhffaaDoorLineL
namespace Go.Proofs.YtgplagdehfhffaaDoor
open Go Go.RowKit Go.Mine
set_option linter.unusedVariables false

section
variable {s : ByteArray} {j : Nat}
theorem quoteE_shift (hj : j ≤ s.size) (i : Nat) : quoteE s (j + i) = ((quoteE (s.extract j s.size) i).1, j + (quoteE (s.extract j s.size) i).2.1, (quoteE (s.extract j s.size) i).2.2) := by
  unfold quoteE
  rw [← qGo_shift hj]
  exact qGo_fuel _ _ _ _ (by omega) (by rw [ext_size]; omega)
theorem wordL_shift2 (hj : j ≤ s.size) {i : Nat} (hi : i ≤ (s.extract j s.size).size) : wordL s (j + i) = ((wordL (s.extract j s.size) i).1, j + (wordL (s.extract j s.size) i).2) := by
  have hk := kindL_shift hj i
  have hi2 := hi
  rw [ext_size] at hi2
  unfold wordL
  rw [hk]
  by_cases h : kindL s (j + i) = 0
  · rw [if_pos h, if_pos h]
  · rw [if_neg h, if_neg h]
    have h1 := endL_shift hj (s.extract j s.size).size i
    have : endL s s.size (j + i) = endL s (s.extract j s.size).size (j + i) := by
      refine End.unique (by omega) ⟨_, ?_, rfl⟩ ⟨_, ?_, rfl⟩
      · omega
      · rw [ext_size]; omega
    rw [this, h1]
theorem cmtE_shift (hj : j ≤ s.size) (i : Nat) : cmtE s (j + i) = j + cmtE (s.extract j s.size) i := by
  unfold cmtE
  rw [ext_drop, List.drop_drop, Nat.add_assoc]
def shT (j : Nat) (t : Tok) : Tok := ⟨t.kind, t.text, j + t.at_⟩
def shR (j : Nat) (r : List Tok × Nat × Nat) : List Tok × Nat × Nat := (r.1.map (shT j), (if r.2.2 = 0 then r.2.1 else j + r.2.1), r.2.2)
theorem shR_tcons (t : Tok) (r : List Tok × Nat × Nat) : shR j (tcons t r) = tcons (shT j t) (shR j r) := rfl
theorem ext_ext (hj : j ≤ s.size) {i e : Nat} : s.extract (j + i) (j + e) = (s.extract j s.size).extract i e := by
  apply ByteArray.ext
  apply Array.ext'
  rw [ext_data, ext_data, ext_drop, List.drop_drop, show j + e - (j + i) = e - i by omega]
theorem scanGo_shift (hj : j ≤ s.size) : ∀ (f i : Nat), i ≤ (s.extract j s.size).size → scanGo s f (j + i) = shR j (scanGo (s.extract j s.size) f i)
  | 0, i, _ => rfl
  | f + 1, i, hi => by
    have hi2 := hi
    rw [ext_size] at hi2
    rw [scanGo, scanGo]
    by_cases hl : j + i < s.size
    · have hl' : i < (s.extract j s.size).size := by rw [ext_size]; omega
      rw [dif_pos hl, dif_pos hl', ext_at s j i hl hl']
      by_cases hb : s[j + i] = 32 ∨ s[j + i] = 9 ∨ s[j + i] = 10 ∨ s[j + i] = 13
      · rw [if_pos hb, if_pos hb]; exact scanGo_shift hj f (i + 1) hl'
      rw [if_neg hb, if_neg hb]
      by_cases hc : s[j + i] = 37
      · rw [if_pos hc, if_pos hc, cmtE_shift hj]
        exact scanGo_shift hj f _ (cmtE_le hi)
      rw [if_neg hc, if_neg hc]
      by_cases hq : s[j + i] = 34
      · rw [if_pos hq, if_pos hq]
        have he := quoteE_shift hj (i + 1)
        rw [← Nat.add_assoc] at he
        rw [he]
        have hle := (qGo_le (s := s.extract j s.size) ((s.extract j s.size).size + 1) (i + 1) [] hl').2.1
        by_cases hok : (quoteE (s.extract j s.size) (i + 1)).2.2 = true
        · rw [if_pos hok, if_pos hok, shR_tcons, ← scanGo_shift hj f (quoteE (s.extract j s.size) (i + 1)).2.1 hle]; rfl
        · rw [if_neg hok, if_neg hok]; rfl
      rw [if_neg hq, if_neg hq, wordL_shift2 hj hi]
      by_cases hw : (wordL (s.extract j s.size) i).1 ≠ 0
      · have hp := wordL_pos hi hw
        rw [if_pos hw, if_pos hw, shR_tcons, ← scanGo_shift hj f (wordL (s.extract j s.size) i).2 hp.2.1]
        simp only [ext_ext hj]; rfl
      rw [if_neg hw, if_neg hw]
      have hd : (s.extract j s.size).data.toList.drop i = s.data.toList.drop (j + i) := by rw [ext_drop, List.drop_drop]
      rw [hd]
      by_cases hk : (markL (s.data.toList.drop (j + i))).1 ≠ 0
      · have hm := (markL_le (s.data.toList.drop (j + i))).1
        rw [List.length_drop, ← Lib.size_eq] at hm
        rw [if_pos hk, if_pos hk, shR_tcons, Nat.add_assoc, scanGo_shift hj f _ (by rw [ext_size]; omega)]; rfl
      · rw [if_neg hk, if_neg hk]; rfl
    · have hl' : ¬ i < (s.extract j s.size).size := by rw [ext_size]; omega
      rw [dif_neg hl, dif_neg hl']; rfl
end
/-- **the law**: a text, a line's end, another text -/
theorem scanL_line {s o t : ByteArray} (h : t.data.toList = s.data.toList ++ 10 :: o.data.toList) (h0 : (scanL s).2.2 = 0) :
    scanL t = ((scanL s).1 ++ (shR (s.size + 1) (scanL o)).1, (shR (s.size + 1) (scanL o)).2) := by
  have hg : GoesLn s t := ⟨_, h⟩
  have hlt := hg.lt
  have he : t.extract (s.size + 1) t.size = o := by
    apply ByteArray.ext
    apply Array.ext'
    rw [ext_drop, h, List.drop_append, List.drop_of_length_le (by rw [← Lib.size_eq]; omega), ← Lib.size_eq, show s.size + 1 - s.size = 1 by omega]; rfl
  have hs := scanGo_shift (s := t) (j := s.size + 1) hlt (o.size + 1) 0 (Nat.zero_le _)
  rw [he, Nat.add_zero] at hs
  have hsz : t.size = s.size + 1 + o.size := by
    have := congrArg List.length h
    rw [List.length_append, List.length_cons, ← Lib.size_eq, ← Lib.size_eq, ← Lib.size_eq] at this
    omega
  have hr : TRes t (s.size + 1) (shR (s.size + 1) (scanL o)) := ⟨o.size + 1, by omega, hs.symm⟩
  have hsr : TRes s 0 ((scanL s).1, (scanL s).2.1, 0) := by
    have := scanL_res s
    rw [show scanL s = ((scanL s).1, (scanL s).2.1, (scanL s).2.2) from rfl, h0] at this
    exact this
  exact (scanL_res t).uniq (hg.scan hr _ 0 rfl (Nat.zero_le _) _ _ hsr)
end Go.Proofs.YtgplagdehfhffaaDoor
