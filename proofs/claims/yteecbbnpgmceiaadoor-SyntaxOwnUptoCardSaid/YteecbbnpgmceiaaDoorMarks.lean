/-
  strings.HasPrefix, lex.marks; the plain law of the marks.
-/
import Derived.Test.YteecbbnpgmceiaaDoorScanL
import Derived.Test.YteecbbnpgmceiaaDoorQuoted
namespace Go.Proofs.YteecbbnpgmceiaaDoor
open Go Go.RowKit Go.Mine
set_option maxHeartbeats 400000
set_option maxRecDepth 100000
set_option linter.unusedVariables false

def hpB (s p : ByteArray) : Bool := p.data.toList.isPrefixOf s.data.toList
theorem hpB_big {s p : ByteArray} (h : s.size < p.size) : hpB s p = false := by
  unfold hpB
  rw [Bool.eq_false_iff]
  intro hh
  have := (List.isPrefixOf_iff_prefix.1 hh).length_le
  rw [← Lib.size_eq, ← Lib.size_eq] at this
  omega
theorem hpB_eq {s p : ByteArray} (h : p.size ≤ s.size) : ((s.extract 0 p.size).toList == p.toList) = hpB s p := by
  unfold hpB
  rw [Lib.toList_data, Lib.toList_data, ext_data, List.drop_zero, Nat.sub_zero, Bool.eq_iff_iff]
  rw [beq_iff_eq, List.isPrefixOf_iff_prefix, List.prefix_iff_eq_take, ← Lib.size_eq]
  exact eq_comm

theorem hasPrefix0_any (s p : ByteArray) (w : World) (hs : s.size < 2 ^ 40) (hp : p.size < 2 ^ 40) :
    Calls Tryd.prog 181 #[.string s, .string p] w fun e w' => e = .returned (.bool (hpB s p)) ∧ w = w' := by
  by_cases h : p.size ≤ s.size
  · have he := hpB_eq h
    have HE := Lib.hid he; clear he
    go_enter Tryd.func181, Tryd.ntmps181
    go_wp2
    go_ret
    exact ⟨ret_bool (by first | exact HE.out | simpa using HE.out), rfl⟩
  · have he := hpB_big (s := s) (p := p) (by omega)
    rw [he]
    have hlt : s.size < p.size := by omega
    clear he h
    go_enter Tryd.func181, Tryd.ntmps181
    go_wp2
    go_ret
    exact ⟨rfl, rfl⟩
theorem hasPrefix_any (s p : ByteArray) (w : World) (hs : s.size < 2 ^ 40) (hp : p.size < 2 ^ 40) :
    Calls Tryd.prog 151 #[.string s, .string p] w fun e w' => e = .returned (.bool (hpB s p)) ∧ w = w' := by
  have H := Lib.hid (fun w => hasPrefix0_any s p w hs hp)
  generalize hpB s p = b at *
  go_enter Tryd.func151, Tryd.ntmps151
  go_wp2_with (go_at_call 181; refine (H.out _).mono ?_; rintro e w' ⟨rfl, rfl⟩)
  go_ret
  exact ⟨rfl, rfl⟩

def marksT : List (List UInt8 × Nat) := [([58, 45], 8), ([33, 61], 11), ([60, 61], 13), ([40], 4), ([41], 5), ([44], 6), ([46], 7), ([33], 9), ([61], 10), ([60], 12)]
def marksC : List Value := marksT.flatMap fun m => [.string ⟨m.1.toArray⟩, .int .i64 m.2]
abbrev tMark : TypeId := 222
theorem marks_any (w : World) : Calls Tryd.prog 150 #[] w fun e w' => e = .returned (.slice (some ⟨w.heap.size, 0, none⟩) 10 10) ∧ w' = w.alloc (.cells marksC.toArray tMark) := by
  go_enter Tryd.func150, Tryd.ntmps150
  go_wp2
  go_ret
  exact ⟨rfl, rfl⟩
/-- the first mark that a text begins with -/
theorem markL_first (l : List UInt8) (k : Nat) (hk : k < 10) (hno : ∀ j, j < k → (marksT.getD j ([], 0)).1.isPrefixOf l = false) (hy : (marksT.getD k ([], 0)).1.isPrefixOf l = true) :
    markL l = ((marksT.getD k ([], 0)).2, (marksT.getD k ([], 0)).1.length) := by
  have hc : k = 0 ∨ k = 1 ∨ k = 2 ∨ k = 3 ∨ k = 4 ∨ k = 5 ∨ k = 6 ∨ k = 7 ∨ k = 8 ∨ k = 9 := by omega
  have h1 : 1 < k → (marksT.getD 1 ([], 0)).1.isPrefixOf l = false := hno 1
  have h2 : 2 < k → (marksT.getD 2 ([], 0)).1.isPrefixOf l = false := hno 2
  clear hno hk
  rcases hc with rfl | rfl | rfl | rfl | rfl | rfl | rfl | rfl | rfl | rfl
  all_goals
    rcases l with _ | ⟨a, _ | ⟨b, t⟩⟩
    all_goals simp [marksT, List.isPrefixOf] at hy h1 h2 ⊢
    all_goals (try subst hy)
    all_goals (try (obtain ⟨rfl, rfl⟩ := hy))
    all_goals unfold markL
    all_goals (try rfl)
    all_goals (split <;> simp_all)
theorem markL_no (l : List UInt8) (hno : ∀ j, j < 10 → (marksT.getD j ([], 0)).1.isPrefixOf l = false) : (markL l).1 = 0 := by
  have h0 := hno 0 (by omega)
  have h1 := hno 1 (by omega)
  have h2 := hno 2 (by omega)
  have h3 := hno 3 (by omega)
  have h4 := hno 4 (by omega)
  have h5 := hno 5 (by omega)
  have h6 := hno 6 (by omega)
  have h7 := hno 7 (by omega)
  have h8 := hno 8 (by omega)
  have h9 := hno 9 (by omega)
  clear hno
  rcases l with _ | ⟨a, _ | ⟨b, t⟩⟩
  all_goals simp [marksT, List.isPrefixOf] at h0 h1 h2 h3 h4 h5 h6 h7 h8 h9
  all_goals unfold markL
  all_goals (split <;> simp_all)
end Go.Proofs.YteecbbnpgmceiaaDoor
