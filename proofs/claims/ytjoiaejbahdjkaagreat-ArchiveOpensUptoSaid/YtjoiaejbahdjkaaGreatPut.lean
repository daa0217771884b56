import Derived.Test.YtjoiaejbahdjkaaGreatWriter
namespace Go.Proofs.YtjoiaejbahdjkaaGreat
open Go Go.RowKit Go.Mine
set_option maxHeartbeats 400000
set_option maxRecDepth 100000
set_option linter.unusedVariables false
theorem put_any (m : Nat) (w : World) (h1 : m < 2^64) :
 Calls Tryz.prog 88 #[.int .u64 m] w fun e w' =>
  ∃ g c', e = .returned (.slice (some ⟨g, 0, none⟩) (lebl m).length c') ∧ Own w' 5 1 (some ⟨g, 0, none⟩) (lebl m).length c' (bts (lebl m)) ∧ w.heap.size ≤ g ∧ Mod (fun _ => False) w w' := by
 go_enter Tryz.func88, Tryz.ntmps88
 go_wp2
 go_loopw [0, 3] (fun n b wr => ∃ (g c' n' : Nat) (ys : List UInt8) (x : Nat), b = .slice (some ⟨g, 0, none⟩) (ys.length + 1) c' ∧ n = .int .u64 n' ∧ x < 128 ∧ n' ≤ m ∧ ys.length ≤ 10 ∧ Hid (ys ++ (if n' = 0 then [UInt8.ofNat x] else UInt8.ofNat (x + 128) :: lebl n') = lebl m)
  ∧ Hid (Own wr 5 1 (some ⟨g, 0, none⟩) (ys.length + 1) c' (bts (ys ++ [UInt8.ofNat x]))) ∧ w.heap.size ≤ g ∧ Hid (Mod (fun _ => False) w wr)) (fun n _ _ => (intOf n).toNat)
 case atStart =>
  refine ⟨_, 1, m / 128, [], m % 128, rfl, by go_num, by omega, by omega, by simp, ?_, ?_, Nat.le_refl _, (Mod.refl _ w).alloc _⟩
  ·unfold Hid
   by_cases h : m < 128
   ·rw [if_pos (by omega), lebl_small h, Nat.mod_eq_of_lt h]; rfl
   ·rw [if_neg (by omega), lebl_big (n := m) (by omega)]; rfl
  ·have O := Own.made w 5 1 #[.int .u8 ((m % 128 : Nat) : Int)] 1 1 (Nat.le_refl _) (by unfold maxLen; omega) rfl
   have e : ((m % 128 : Nat) : Int) = (m : Int) % 128 := by omega
   have e2 : bts [UInt8.ofNat (m % 128)] = [.int .u8 ((m % 128 : Nat) : Int)] := by simp [bts]; omega
   rw [List.nil_append, e2]
   rw [e] at O ⊢
   exact O
 case round =>
  obtain ⟨g, c', n', ys, x, rfl, rfl, hx, hnm, hy, hL, hO, hg, hM⟩ := hrel
  by_cases h0 : n' = 0
  ·subst h0
   go_wp2
   go_ret
   have hl : ys ++ [UInt8.ofNat x] = lebl m := by simpa using hL.out
   have hl2 : (lebl m).length = ys.length + 1 := by rw [← hl]; simp
   rw [hl2]
   refine ⟨g, c', rfl, ?_, hg, hM.out⟩
   rw [← hl]
   exact hO.out
  ·have hpos : 0 < n' := by omega
   obtain ⟨b', cur, e, hh, hn, _, hcs, htk⟩ := hO.out.2.resolve_left (by simp)
   cases e
   have hcell : wr.cell? ⟨g, ys.length, none⟩ = some (.int .u8 x) := by
    obtain ⟨b', o', e, hc⟩ := hO.out.rd ys.length (.int .u8 x) (by simp [bts]; omega)
    cases e
    simpa using hc
   have hfz : wr.frozen? ⟨g, ys.length, none⟩ = false := frozen_at hh
   clear hn hcs htk hh
   have HO2 := Hi (hO.out.store ys.length (.int .u8 ((x : Int) + 128)))
   go_wp2_with (at_builtin; refine wpL_appendN (us := [_]) rfl (.tmp 24) (.tmp 28) 23 rfl ti24 rfl HO2.out rfl rfl rfl (by omega) (by unfold maxLen; omega) ?_; intro a2 c2 w2 hO3 hG3 hn3; have HO3 := Hi hO3; have HG3 := Hi hG3; have HN3 := Hi hn3; clear hO3 hG3 hn3)
   obtain ⟨g2, rfl⟩ := HO3.out.atHead (by omega)
   have hlen := congrArg List.length hL.out
   rw [if_neg h0] at hlen
   have h10 := lebl_len64 m (by omega)
   have hp := lebl_pos n'
   simp only [List.length_append, List.length_cons] at hlen
   have hl2 : (ys ++ [UInt8.ofNat (x + 128)]).length = ys.length + 1 := by simp
   go_roundw
   case rel =>
    refine ⟨g2, c2, n' / 128, ys ++ [UInt8.ofNat (x + 128)], n' % 128, by rw [hl2], by go_num, by omega, by omega, by rw [hl2]; omega, ?_, ?_, ?_, ?_⟩
    ·unfold Hid
     rw [← hL.out, if_neg h0]
     by_cases h : n' < 128
     ·rw [if_pos (by omega), lebl_small h, Nat.mod_eq_of_lt h]; simp
     ·rw [if_neg (by omega), lebl_big (n := n') (by omega)]; simp
    ·have e : bts (ys ++ [UInt8.ofNat (x + 128)] ++ [UInt8.ofNat (n' % 128)]) = (bts (ys ++ [UInt8.ofNat x])).set ys.length (Value.int IntKind.u8 (↑x + 128)) ++ [Value.int IntKind.u8 (↑n' % 128)] := by
      have e1 : bts (ys ++ [UInt8.ofNat x]) = bts ys ++ [.int .u8 ((UInt8.ofNat x).toNat : Int)] := by simp [bts]
      have e2 : (bts ys).length = ys.length := by simp
      rw [e1, ← e2, List.set_append_right _ _ (Nat.le_refl _), Nat.sub_self, List.set_cons_zero]
      simp [bts]
      omega
     rw [hl2, e]
     exact HO3.out
    ·rcases HG3.out.pos with e | ⟨b, e, hb⟩
     ·simp at e; omega
     ·simp at e hb; have := hM.out.size; omega
    ·exact (hM.out.setCell (p := ⟨g, ys.length, none⟩) (fun h => by simp at h; omega) _).step HG3.out.mod (fun i hi hs => by simp at hs; omega)
   case measure => simp [intOf]; omega
end Go.Proofs.YtjoiaejbahdjkaaGreat
