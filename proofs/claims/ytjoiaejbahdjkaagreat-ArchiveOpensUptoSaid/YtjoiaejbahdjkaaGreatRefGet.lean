import Derived.Test.YtjoiaejbahdjkaaGreatGet
namespace Go.Proofs.YtjoiaejbahdjkaaGreat
open Go Go.RowKit Go.Mine
set_option maxHeartbeats 400000
set_option maxRecDepth 100000
set_option linter.unusedVariables false
theorem addmul (acc m wt : Nat) (h1 : (m % 128 + 1) * wt ≤ 2 ^ 64) (h3 : acc < wt) : IntKind.u64.wrap ((acc : Int) + IntKind.u64.wrap ((m : Int) % 128 * (wt : Int))) = ((acc + m % 128 * wt : Nat) : Int) := by
 have e : ((m : Int) % 128 * (wt : Int)) = ((m % 128 * wt : Nat) : Int) := by push_cast; rfl
 rw [Nat.add_mul, Nat.one_mul] at h1
 rw [e, wrap64_small _ (by omega)]
 have e2 : ((acc : Int) + ((m % 128 * wt : Nat) : Int)) = ((acc + m % 128 * wt : Nat) : Int) := by push_cast; rfl
 rw [e2, wrap64_small _ (by omega)]
theorem refGet_any (a : Option Addr) (l : List UInt8) (c : Nat) (w : World) (hr : Rd w a (bts l)) (hl : l.length < 2^60) :
 Calls Tryz.prog 91 #[.slice a l.length c] w fun e w' => e = .returned (.tuple #[.int .u64 (getL l).1, .int .i64 (getL l).2.1, .int .i64 (getL l).2.2]) ∧ w = w' := by
 have HR := Hi hr; clear hr
 go_enter Tryz.func91, Tryz.ntmps91
 go_wp2
 go_loop [5, 6, 7] (fun n wt i => ∃ (k acc : Nat), i = .int .i64 k ∧ wt = .int .u64 ((2 ^ (7 * k) : Nat) : Int) ∧ k ≤ 9 ∧ k ≤ l.length ∧ n = .int .u64 acc ∧ acc < 2 ^ (7 * k) ∧ Hid (getL l = getGo k acc (l.drop k))) (fun _ _ i => 10 - (intOf i).toNat)
 case atStart => exact ⟨0, 0, rfl, rfl, by omega, by omega, rfl, by omega, Hi rfl⟩
 case round =>
  obtain ⟨k, acc, rfl, rfl, hk9, hk, rfl, hacc, hG⟩ := hrel
  have h63 := pow7a hk9
  have hacc2 : acc < 2 ^ 64 := by omega
  have HACC2 := Hi hacc2; have HACC := Hi hacc; have H63 := Hi h63; clear hacc2 h63 hacc
  generalize hwt : 2 ^ (7 * k) = wt at *
  have HWT := Hi hwt; clear hwt
  by_cases hlt : k < l.length
  ·have hkl : ((k : Int) == (l.length : Int)) = false := by simp; omega
   obtain ⟨b, o, rfl, hc⟩ := HR.out k (.int .u8 l[k].toNat) (by simp [bts, hlt])
   have hdrop : l.drop k = l[k] :: l.drop (k + 1) := List.drop_eq_getElem_cons hlt
   have HD := Hi hdrop; clear hdrop
   generalize hcc : l[k] = x at *
   have hx : x.toNat < 256 := x.toNat_lt
   clear hcc
   generalize hxn : x.toNat = m at *
   have HXN := Hi hxn; clear hxn
   by_cases hbad : (k = 9 ∧ 1 < m) ∨ (0 < k ∧ m = 0)
   ·have hres : getL l = (0, 0, 11) := by rw [hG.out, HD.out]; exact getGo_bad (by rw [HXN.out]; exact hbad)
    have HRES := Hi hres; clear hres
    rcases hbad with ⟨h9, h1m⟩ | ⟨hk0, hm0⟩
    ·have e9 : ((k : Int) == 9) = true := by simp; omega
     clear h9
     go_wp2
     go_ret3
     exact ⟨ret_uii (by rw [HRES.out]; rfl) (by rw [HRES.out]; rfl) (by rw [HRES.out]; rfl), rfl⟩
    ·have e3 : ((m : Int) == 0) = true := by simp; omega
     have h1m : ¬ 1 < m := by omega
     clear hm0
     by_cases h9 : k = 9
     ·have e9 : ((k : Int) == 9) = true := by simp; omega
      clear h9
      go_wp2
      go_ret3
      exact ⟨ret_uii (by rw [HRES.out]; rfl) (by rw [HRES.out]; rfl) (by rw [HRES.out]; rfl), rfl⟩
     ·have e9 : ((k : Int) == 9) = false := by simp; omega
      clear h9
      go_wp2
      go_ret3
      exact ⟨ret_uii (by rw [HRES.out]; rfl) (by rw [HRES.out]; rfl) (by rw [HRES.out]; rfl), rfl⟩
   ·have HBAD := Hi hbad; clear hbad
    by_cases hs : m < 128
    ·have hres : getL l = (acc + m * 2 ^ (7 * k), k + 1, 0) := by
      rw [hG.out, HD.out, getGo_end (by rw [HXN.out]; exact HBAD.out) (by rw [HXN.out]; exact hs), HXN.out]
     have HRES := Hi hres; clear hres
     have hw1 := addmul acc m wt (by have := pow7b hk9 hs (fun h => by have := HBAD.out; omega); rw [HWT.out] at this; rw [Nat.mod_eq_of_lt hs]; exact this) HACC.out
     rw [Nat.mod_eq_of_lt hs] at hw1
     have HW1 := Hi hw1; clear hw1
     have e3 : 0 < k → ((m : Int) == 0) = false := fun hk0 => by simp; intro h; exact HBAD.out (.inr ⟨hk0, h⟩)
     by_cases h9 : k = 9
     ·have e9 : ((k : Int) == 9) = true := by simp; omega
      have e1 : ¬ 1 < m := fun h => HBAD.out (.inl ⟨h9, h⟩)
      have e3 := e3 (by omega)
      have hk0 : 0 < k := by omega
      clear h9
      go_wp2
      go_ret3
      exact ⟨ret_uii (by rw [HRES.out, HWT.out]; exact HW1.out) (by rw [HRES.out]; simp) (by rw [HRES.out]; rfl), rfl⟩
     ·have e9 : ((k : Int) == 9) = false := by simp; omega
      clear h9
      by_cases hk0 : 0 < k
      ·have e3 := e3 hk0
       go_wp2
       go_ret3
       exact ⟨ret_uii (by rw [HRES.out, HWT.out]; exact HW1.out) (by rw [HRES.out]; simp) (by rw [HRES.out]; rfl), rfl⟩
      ·have hkz : decide (0 < k) = false := by simpa using hk0
       clear e3
       go_wp2
       go_ret3
       exact ⟨ret_uii (by rw [HRES.out, HWT.out]; exact HW1.out) (by rw [HRES.out]; simp) (by rw [HRES.out]; rfl), rfl⟩
    ·have h9 : ¬ k = 9 := fun h => HBAD.out (.inl ⟨h, by omega⟩)
     have e9 : ((k : Int) == 9) = false := by simp; omega
     have hk8 : k ≤ 8 := by omega
     have e3 : ((m : Int) == 0) = false := by simp; omega
     clear h9
     have hres : getL l = getGo (k + 1) (acc + m % 128 * 2 ^ (7 * k)) (l.drop (k + 1)) := by
      rw [hG.out, HD.out, getGo_go (by rw [HXN.out]; exact HBAD.out) (by rw [HXN.out]; exact hs), HXN.out]
     have hw1 := addmul acc m wt (by have := pow7b (k := k) (m := m % 128) hk9 (by omega) (by omega); rw [HWT.out] at this; exact this) HACC.out
     have h2 : 2 ^ (7 * (k + 1)) = wt * 128 := by rw [show 7 * (k + 1) = 7 * k + 7 from by omega, Nat.pow_add, HWT.out]
     have hw2 : IntKind.u64.wrap ((wt : Int) * 128) = ((2 ^ (7 * (k + 1)) : Nat) : Int) := by
      have := pow7a (k := k + 1) (by omega)
      rw [h2] at this ⊢
      rw [IntKind.wrap_u64]; omega
     have hlt2 : acc + m % 128 * 2 ^ (7 * k) < 2 ^ (7 * (k + 1)) := by
      have h1 := HACC.out
      have h3 : m % 128 * wt ≤ 127 * wt := Nat.mul_le_mul_right _ (by omega)
      rw [h2, HWT.out]; omega
     have HRES := Hi hres; have HLT2 := Hi hlt2; have HW1 := Hi hw1; have HW2 := Hi hw2; clear hres hlt2 hw1 hw2 h2
     by_cases hk0 : 0 < k
     ·have hkz : True := trivial
      go_wp2
      go_round
      case rel => exact ⟨k + 1, _, by go_num, congrArg (Value.int IntKind.u64) HW2.out, by omega, by omega, congrArg (Value.int IntKind.u64) (HW1.out.trans (by rw [HWT.out])), HLT2.out, HRES⟩
      case measure => simp [intOf]; omega
     ·have hkz : decide (0 < k) = false := by simpa using hk0
      go_wp2
      go_round
      case rel => exact ⟨k + 1, _, by go_num, congrArg (Value.int IntKind.u64) HW2.out, by omega, by omega, congrArg (Value.int IntKind.u64) (HW1.out.trans (by rw [HWT.out])), HLT2.out, HRES⟩
      case measure => simp [intOf]; omega
  ·have hkl : ((k : Int) == (l.length : Int)) = true := by simp; omega
   have hres : getL l = (0, 0, 10) := by rw [hG.out, List.drop_eq_nil_of_le (by omega)]; rfl
   have HRES := Hi hres; clear hres
   go_wp2
   go_ret3
   exact ⟨ret_uii (by rw [HRES.out]; rfl) (by rw [HRES.out]; rfl) (by rw [HRES.out]; rfl), rfl⟩
end Go.Proofs.YtjoiaejbahdjkaaGreat
