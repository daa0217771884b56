/-
  A file's head and its bytes: the plain law.
-/
import Derived.Test.YtjoiaejbahdjkaaGreatDocG
import Derived.Test.YtjoiaejbahdjkaaGreatDocH
import Derived.Test.YtjoiaejbahdjkaaGreatFgC
namespace Go.Proofs.YtjoiaejbahdjkaaGreat
open Go Go.RowKit Go.Mine
set_option linter.unusedVariables false
theorem fourL_len (n : Nat) : (fourL n).length = 4 := rfl
theorem headB_len (x : List UInt8) : (headB x).length = 10 + x.length := by
 unfold headB
 rw [List.length_append, List.length_append, fourL_len]; rfl
theorem fileL_len (x : List UInt8) : (fileL x).length = 14 + x.length := by
 unfold fileL
 rw [List.length_append, headB_len, fourL_len]; omega
theorem mid_file (x : List UInt8) : midL (fileL x) = x := by
 unfold midL
 rw [fileL_len, show 14 + x.length - 14 = x.length by omega]
 have h1 : fileL x = (magicL ++ fourL (14 + x.length)) ++ (x ++ fourL (crcL (headB x))) := by unfold fileL headB; simp only [List.append_assoc]
 have h2 : (magicL ++ fourL (14 + x.length)).length = 10 := rfl
 rw [h1, List.drop_append_of_le_length (by omega), List.drop_of_length_le (by omega), List.nil_append, List.take_left]
theorem four_size (l : List UInt8) (h : 10 ≤ l.length) : fourL (sizeF l) = (l.drop 6).take 4 := by
 have e : (l.drop 6).take 4 = [l.getD 6 0, l.getD 7 0, l.getD 8 0, l.getD 9 0] := by
  refine List.ext_getElem (by simp; omega) fun i h1 h2 => ?_
  rw [List.getElem_take, List.getElem_drop]
  have hi : i < 4 := h2
  match i, hi with
  | 0, _ => simp [List.getD_eq_getElem?_getD, show 6 < l.length by omega]
  | 1, _ => simp [List.getD_eq_getElem?_getD, show 7 < l.length by omega]
  | 2, _ => simp [List.getD_eq_getElem?_getD, show 8 < l.length by omega]
  | 3, _ => simp [List.getD_eq_getElem?_getD, show 9 < l.length by omega]
 rw [e]
 unfold fourL sizeF
 have a6 := (l.getD 6 0).toNat_lt; have a7 := (l.getD 7 0).toNat_lt; have a8 := (l.getD 8 0).toNat_lt; have a9 := (l.getD 9 0).toNat_lt
 have k : ∀ (x : UInt8) (n : Nat), n = x.toNat → UInt8.ofNat n = x := fun x n h => by rw [h, UInt8.ofNat_toNat]
 rw [k (l.getD 6 0) _ (by omega), k (l.getD 7 0) _ (by omega), k (l.getD 8 0) _ (by omega), k (l.getD 9 0) _ (by omega)]
structure HeadOk (l : List UInt8) : Prop where
 le : l.length ≤ 16777216
 ge : 14 ≤ l.length
 magic : l.take 6 = magicL
 size : sizeF l = l.length
 sum : l.drop (l.length - 4) = fourL (crcL (l.take (l.length - 4)))
theorem head_ok {l : List UInt8} (h : headF l = 0) : HeadOk l := by
 unfold headF at h
 split at h
 ·cases h
 ·rename_i h1
  split at h
  ·cases h
  ·rename_i h2
   split at h
   ·cases h
   ·rename_i h3
    split at h
    ·cases h
    ·rename_i h4
     exact ⟨by omega, by omega, Classical.byContradiction fun e => h2 (.inr e), Classical.byContradiction fun e => h3 e, Classical.byContradiction fun e => h4 e⟩
theorem mid_len {l : List UInt8} : (midL l).length = l.length - 14 := by unfold midL; rw [List.length_take, List.length_drop]; omega
theorem head_file {l : List UInt8} (h : headF l = 0) : fileL (midL l) = l := by
 have H := head_ok h
 have hge := H.ge
 have e1 : headB (midL l) = l.take (l.length - 4) := by
  unfold headB
  rw [mid_len, show 14 + (l.length - 14) = l.length by omega, ← H.magic]
  have e2 := four_size l (by omega)
  rw [H.size] at e2
  rw [e2]
  unfold midL
  have e3 : l.take (l.length - 4) = l.take 6 ++ ((l.drop 6).take 4 ++ (l.drop 10).take (l.length - 14)) := by
   have s1 : l.take (l.length - 4) = (l.take (l.length - 4)).take 6 ++ ((l.take (l.length - 4)).drop 6) := (List.take_append_drop _ _).symm
   rw [List.take_take, show min 6 (l.length - 4) = 6 by omega, List.drop_take] at s1
   have s2 : (l.drop 6).take (l.length - 4 - 6) = ((l.drop 6).take (l.length - 4 - 6)).take 4 ++ ((l.drop 6).take (l.length - 4 - 6)).drop 4 := (List.take_append_drop _ _).symm
   rw [List.take_take, show min 4 (l.length - 4 - 6) = 4 by omega, List.drop_take, List.drop_drop, show l.length - 4 - 6 - 4 = l.length - 14 by omega] at s2
   rw [s1, s2]
  rw [e3, List.append_assoc]
 unfold fileL
 rw [e1, ← H.sum, List.take_append_drop]
theorem file_iff {l x : List UInt8} (h : headF l = 0) : fileL x = l ↔ x = midL l := by
 constructor
 ·intro e; rw [← e, mid_file]
 ·intro e; rw [e]; exact head_file h
end Go.Proofs.YtjoiaejbahdjkaaGreat
