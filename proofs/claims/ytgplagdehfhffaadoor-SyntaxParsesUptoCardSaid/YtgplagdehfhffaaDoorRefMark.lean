import Derived.Test.YtgplagdehfhffaaDoorMarks
import Derived.Test.YtgplagdehfhffaaDoorRefWord
namespace Go.Proofs.YtgplagdehfhffaaDoor
open Go Go.RowKit Go.Mine
set_option maxHeartbeats 4000000
set_option maxRecDepth 100000
set_option linter.unusedVariables false

/-- a mark by its two bytes; 256: there is no second one -/
def markN (a b : Nat) : Nat × Nat :=
  if a = 58 ∧ b = 45 then (8, 2) else if a = 33 ∧ b = 61 then (11, 2) else if a = 60 ∧ b = 61 then (13, 2) else
  if a = 40 then (4, 1) else if a = 41 then (5, 1) else if a = 44 then (6, 1) else if a = 46 then (7, 1) else if a = 33 then (9, 1) else if a = 61 then (10, 1) else if a = 60 then (12, 1) else (0, 0)
theorem markL_one (a : UInt8) : markL [a] = markN a.toNat 256 := by
  have h : ∀ n : Fin 256, markL [UInt8.ofNat n.1] = markN (UInt8.ofNat n.1).toNat 256 := by decide +kernel
  have := h ⟨a.toNat, a.toNat_lt⟩
  simpa using this
theorem markL_two (a b : UInt8) (l : List UInt8) : markL (a :: b :: l) = markN a.toNat b.toNat := by
  have e : ∀ n : Nat, n < 256 → ∀ c : UInt8, c.toNat = n ↔ c = UInt8.ofNat n := fun n hn c => by
    rw [← UInt8.toNat_inj, UInt8.toNat_ofNat', Nat.mod_eq_of_lt (by omega)]
  unfold markL markN
  simp only [e 58 (by omega), e 45 (by omega), e 33 (by omega), e 61 (by omega), e 60 (by omega), e 40 (by omega), e 41 (by omega), e 44 (by omega), e 46 (by omega)]
  split <;> simp_all
  · rename_i hx hq
    intro hb
    exact hx l (by rw [← hq.2, hb])
  · rename_i hx hq
    intro hb
    exact hx l (by rw [← hq.2, hb])

theorem refMark_any (s : ByteArray) (i : Nat) (w : World) (hi : i < s.size) (hs : s.size < 2 ^ 40) :
    Calls Tryd.prog 141 #[.string s, .int .i64 i] w fun e w' => e = .returned (.tuple #[.int .i64 (markL (s.data.toList.drop i)).1, .int .i64 (markL (s.data.toList.drop i)).2]) ∧ w = w' := by
  have h0 : s.data.toList.drop i = s[i] :: s.data.toList.drop (i + 1) := List.drop_eq_getElem_cons (by simpa using hi)
  by_cases h1 : i + 1 < s.size
  · have hd : s.data.toList.drop (i + 1) = s[i + 1] :: s.data.toList.drop (i + 2) := List.drop_eq_getElem_cons (by simpa using h1)
    have hex : (s.extract i (i + 2)).toList = [s[i], s[i + 1]] := by
      rw [Lib.toList_data, ext_data, h0, hd, Nat.add_sub_cancel_left]; rfl
    rw [h0, hd, markL_two]
    clear h0 hd
    have key : ∀ a b : UInt8, ((s.extract i (i + 2)).toList == [a, b]) = decide (s[i].toNat = a.toNat ∧ s[i + 1].toNat = b.toNat) := fun a b => by
      rw [hex, Bool.eq_iff_iff, beq_iff_eq, decide_eq_true_eq, UInt8.toNat_inj, UInt8.toNat_inj]
      simp
    have k1 := key 58 45
    have k2 := key 33 61
    have k3 := key 60 61
    clear key hex
    obtain ⟨n0, hn0⟩ : ∃ n0, s[i].toNat = n0 := ⟨_, rfl⟩
    obtain ⟨n1, hn1⟩ : ∃ n1, s[i + 1].toNat = n1 := ⟨_, rfl⟩
    rw [hn0, hn1] at k1 k2 k3
    rw [hn0, hn1]
    clear hn1
    have r58 : (58 : UInt8).toNat = 58 := rfl
    have r45 : (45 : UInt8).toNat = 45 := rfl
    have r33 : (33 : UInt8).toNat = 33 := rfl
    have r61 : (61 : UInt8).toNat = 61 := rfl
    have r60 : (60 : UInt8).toNat = 60 := rfl
    rw [r58, r45] at k1
    rw [r33, r61] at k2
    rw [r60, r61] at k3
    clear r58 r45 r33 r61 r60
    by_cases p1 : n0 = 58 ∧ n1 = 45
    · rw [decide_eq_true p1] at k1
      clear k2 k3
      obtain ⟨rfl, rfl⟩ := p1
      go_enter Tryd.func141, Tryd.ntmps141
      go_wp2
      go_ret2
      exact ⟨rfl, rfl⟩
    rw [decide_eq_false p1] at k1
    by_cases p2 : n0 = 33 ∧ n1 = 61
    · rw [decide_eq_true p2] at k2
      clear k3
      obtain ⟨rfl, rfl⟩ := p2
      clear p1
      go_enter Tryd.func141, Tryd.ntmps141
      go_wp2
      go_ret2
      exact ⟨rfl, rfl⟩
    rw [decide_eq_false p2] at k2
    by_cases p3 : n0 = 60 ∧ n1 = 61
    · rw [decide_eq_true p3] at k3
      obtain ⟨rfl, rfl⟩ := p3
      clear p1 p2
      go_enter Tryd.func141, Tryd.ntmps141
      go_wp2
      go_ret2
      exact ⟨rfl, rfl⟩
    rw [decide_eq_false p3] at k3
    have hv : markN n0 n1 = if n0 = 40 then (4, 1) else if n0 = 41 then (5, 1) else if n0 = 44 then (6, 1) else if n0 = 46 then (7, 1) else if n0 = 33 then (9, 1) else if n0 = 61 then (10, 1) else if n0 = 60 then (12, 1) else (0, 0) := by
      unfold markN; rw [if_neg p1, if_neg p2, if_neg p3]
    rw [hv]
    clear hv p1 p2 p3
    by_cases e40 : n0 = 40
    · subst e40
      rw [if_pos rfl]
      go_enter Tryd.func141, Tryd.ntmps141
      go_wp2
      go_ret2
      exact ⟨rfl, rfl⟩
    have b40 : ((n0 : Int) == 40) = false := by simp; omega
    rw [if_neg e40]
    by_cases e41 : n0 = 41
    · subst e41
      rw [if_pos rfl]
      go_enter Tryd.func141, Tryd.ntmps141
      go_wp2
      go_ret2
      exact ⟨rfl, rfl⟩
    have b41 : ((n0 : Int) == 41) = false := by simp; omega
    rw [if_neg e41]
    by_cases e44 : n0 = 44
    · subst e44
      rw [if_pos rfl]
      go_enter Tryd.func141, Tryd.ntmps141
      go_wp2
      go_ret2
      exact ⟨rfl, rfl⟩
    have b44 : ((n0 : Int) == 44) = false := by simp; omega
    rw [if_neg e44]
    by_cases e46 : n0 = 46
    · subst e46
      rw [if_pos rfl]
      go_enter Tryd.func141, Tryd.ntmps141
      go_wp2
      go_ret2
      exact ⟨rfl, rfl⟩
    have b46 : ((n0 : Int) == 46) = false := by simp; omega
    rw [if_neg e46]
    by_cases e33 : n0 = 33
    · subst e33
      rw [if_pos rfl]
      go_enter Tryd.func141, Tryd.ntmps141
      go_wp2
      go_ret2
      exact ⟨rfl, rfl⟩
    have b33 : ((n0 : Int) == 33) = false := by simp; omega
    rw [if_neg e33]
    by_cases e61 : n0 = 61
    · subst e61
      rw [if_pos rfl]
      go_enter Tryd.func141, Tryd.ntmps141
      go_wp2
      go_ret2
      exact ⟨rfl, rfl⟩
    have b61 : ((n0 : Int) == 61) = false := by simp; omega
    rw [if_neg e61]
    by_cases e60 : n0 = 60
    · subst e60
      rw [if_pos rfl]
      go_enter Tryd.func141, Tryd.ntmps141
      go_wp2
      go_ret2
      exact ⟨rfl, rfl⟩
    have b60 : ((n0 : Int) == 60) = false := by simp; omega
    rw [if_neg e60]
    clear e40 e41 e44 e46 e33 e61 e60
    go_enter Tryd.func141, Tryd.ntmps141
    go_wp2
    go_ret2
    exact ⟨rfl, rfl⟩
  · have hd : s.data.toList.drop (i + 1) = [] := List.drop_eq_nil_of_le (by rw [← Lib.size_eq]; omega)
    rw [h0, hd, markL_one]
    clear h0 hd
    obtain ⟨n0, hn0⟩ : ∃ n0, s[i].toNat = n0 := ⟨_, rfl⟩
    rw [hn0]
    have hv : markN n0 256 = if n0 = 40 then (4, 1) else if n0 = 41 then (5, 1) else if n0 = 44 then (6, 1) else if n0 = 46 then (7, 1) else if n0 = 33 then (9, 1) else if n0 = 61 then (10, 1) else if n0 = 60 then (12, 1) else (0, 0) := by
      unfold markN; rw [if_neg (by omega), if_neg (by omega), if_neg (by omega)]
    rw [hv]
    clear hv
    by_cases e40 : n0 = 40
    · subst e40
      rw [if_pos rfl]
      go_enter Tryd.func141, Tryd.ntmps141
      go_wp2
      go_ret2
      exact ⟨rfl, rfl⟩
    have b40 : ((n0 : Int) == 40) = false := by simp; omega
    rw [if_neg e40]
    by_cases e41 : n0 = 41
    · subst e41
      rw [if_pos rfl]
      go_enter Tryd.func141, Tryd.ntmps141
      go_wp2
      go_ret2
      exact ⟨rfl, rfl⟩
    have b41 : ((n0 : Int) == 41) = false := by simp; omega
    rw [if_neg e41]
    by_cases e44 : n0 = 44
    · subst e44
      rw [if_pos rfl]
      go_enter Tryd.func141, Tryd.ntmps141
      go_wp2
      go_ret2
      exact ⟨rfl, rfl⟩
    have b44 : ((n0 : Int) == 44) = false := by simp; omega
    rw [if_neg e44]
    by_cases e46 : n0 = 46
    · subst e46
      rw [if_pos rfl]
      go_enter Tryd.func141, Tryd.ntmps141
      go_wp2
      go_ret2
      exact ⟨rfl, rfl⟩
    have b46 : ((n0 : Int) == 46) = false := by simp; omega
    rw [if_neg e46]
    by_cases e33 : n0 = 33
    · subst e33
      rw [if_pos rfl]
      go_enter Tryd.func141, Tryd.ntmps141
      go_wp2
      go_ret2
      exact ⟨rfl, rfl⟩
    have b33 : ((n0 : Int) == 33) = false := by simp; omega
    rw [if_neg e33]
    by_cases e61 : n0 = 61
    · subst e61
      rw [if_pos rfl]
      go_enter Tryd.func141, Tryd.ntmps141
      go_wp2
      go_ret2
      exact ⟨rfl, rfl⟩
    have b61 : ((n0 : Int) == 61) = false := by simp; omega
    rw [if_neg e61]
    by_cases e60 : n0 = 60
    · subst e60
      rw [if_pos rfl]
      go_enter Tryd.func141, Tryd.ntmps141
      go_wp2
      go_ret2
      exact ⟨rfl, rfl⟩
    have b60 : ((n0 : Int) == 60) = false := by simp; omega
    rw [if_neg e60]
    clear e40 e41 e44 e46 e33 e61 e60
    go_enter Tryd.func141, Tryd.ntmps141
    go_wp2
    go_ret2
    exact ⟨rfl, rfl⟩
end Go.Proofs.YtgplagdehfhffaaDoor
