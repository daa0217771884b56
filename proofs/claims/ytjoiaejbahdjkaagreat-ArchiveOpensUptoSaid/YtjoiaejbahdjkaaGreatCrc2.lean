/-
  The check sum of files: Whole.
-/
import Derived.Test.YtjoiaejbahdjkaaGreatCrc
import Derived.ChangeKeysEq
namespace Go.Proofs.YtjoiaejbahdjkaaGreat
open Go Go.RowKit Go.Mine
set_option linter.unusedVariables false
set_option maxHeartbeats 4000000
set_option maxRecDepth 100000
theorem updP_any (s : Nat) (hs : s < 4294967296) (a : Option Addr) (l : List UInt8) (c : Nat) (w : World) (hr : Rd w a (bts l)) (hl : l.length < 2 ^ 60) :
 Calls Tryz.prog 92 #[.int .u32 (s : Nat), .slice a l.length c] w fun e w' => e = .returned (.int .u32 (crcU s l : Nat)) ∧ Mod (fun _ => False) w w' := by
 have hx : s ^^^ 4294967295 < 4294967296 := Nat.xor_lt_two_pow (n := 32) hs (by decide)
 have H := Hi (takeP_any (s ^^^ 4294967295) hx a l c w hr hl)
 have HE : Hid (crcU s l = crcT (s ^^^ 4294967295) l ^^^ 4294967295) := Hi rfl
 have HY := Hi (crcT_lt (l := l) hx)
 have hxor := u32_xor_nat 4294967295 s (by decide) hs
 rw [Nat.xor_comm, show ((4294967295 : Nat) : Int) = IntKind.u32.max from rfl] at hxor
 generalize crcT (s ^^^ 4294967295) l = y at *
 have hyx := u32_xor_nat 4294967295 y (by decide) HY.out
 rw [Nat.xor_comm, show ((4294967295 : Nat) : Int) = IntKind.u32.max from rfl, ← HE.out] at hyx
 have HXO := Hi hxor; have HYX := Hi hyx
 clear hr hxor hyx HE HY hx
 go_enter Tryz.func92, Tryz.ntmps92
 go_wp2_with fail
 rw [HXO.out]
 refine H.out.mono ?_
 rintro e w' ⟨rfl, hM⟩
 go_wp2_with fail
 go_ret
 exact ⟨ret_u32 HYX.out, hM⟩
theorem sumP_any (a : Option Addr) (l : List UInt8) (c : Nat) (w : World) (hr : Rd w a (bts l)) (hl : l.length < 2 ^ 60) :
 Calls Tryz.prog 60 #[.slice a l.length c] w fun e w' => e = .returned (.int .u32 (crcL l : Nat)) ∧ Mod (fun _ => False) w w' := by
 have H := Hi (updP_any 0 (by decide) a l c w hr hl)
 clear hr
 go_enter Tryz.func60, Tryz.ntmps60
 go_wp2_with fail
 refine H.out.mono ?_
 rintro e w' ⟨rfl, hM⟩
 go_wp2_with fail
 go_ret
 exact ⟨rfl, hM⟩
def fourV (n : Nat) : Value := .agg #[.int .u8 ((n : Int) % 256), .int .u8 ((n : Int) / 256 % 256), .int .u8 ((n : Int) / 65536 % 256), .int .u8 ((n : Int) / 16777216)]
theorem sumBytes_any (n : Nat) (hn : n < 4294967296) (w : World) :
 Calls Tryz.prog 59 #[.int .u32 (n : Nat)] w fun e w' => e = .returned (fourV n) ∧ Mod (fun _ => False) w w' := by
 go_enter Tryz.func59, Tryz.ntmps59
 go_wp2_with fail
 have h0 := heap_alloc_new w (.cells #[.int .u8 ((n : Int) % 256), .int .u8 ((n : Int) / 256 % 256), .int .u8 ((n : Int) / 65536 % 256), .int .u8 ((n : Int) / 16777216)] 100)
 have c0 := cell_at (j := 0) h0 rfl; have c1 := cell_at (j := 1) h0 rfl; have c2 := cell_at (j := 2) h0 rfl; have c3 := cell_at (j := 3) h0 rfl
 refine bodyPost_ret (v := fourV n) ?_ rfl ⟨rfl, (Mod.refl _ w).alloc _⟩
 simp [results, Tryz.f59, go_sem, c0, c1, c2, c3, fourV]
theorem run_atp {arr e : TypeId} {n len cap : Nat} {a : Option Addr} {P : Program} (h : P.underlying arr = some (.array n e)) (hl : ¬ len < n) (w : World) : (Instr.arrayAt arr (.slice a len cap)).run P w = .ok (.pointer a) w := by
 have hu : (underlying arr).run P w = .ok (.array n e) w := by simp [underlying, go_sem, h]
 simp only [Instr.arrayAt, Sem.run_bind, hu, Result.andThen_ok]
 rw [if_neg hl]
 rfl
theorem quiet_atp {P : Program} {o : Oper} {arr e : TypeId} {x : Operand} {n len cap : Nat} {ad : Option Addr} {a : Act} {C : World → Prop} {K : Act → Prop} (ho : o.op = .sliceToArrayPointer arr x) (h : P.underlying arr = some (.array n e))
 (hx : a.eval x = .slice ad len cap) (hl : ¬ len < n) (hK : K (a.put o.dst (.pointer ad))) : o.quiet P a C K := by
 refine ⟨.pointer ad, fun w _ => ?_, hK⟩
 have : (execOp a.eval o).run P w = .ok (.value (.pointer ad)) w := by
  unfold execOp
  rw [ho]
  show (do pure (Next.value (← Instr.arrayAt arr (a.eval x))) : Sem Next).run P w = _
  rw [hx, Sem.run_bind, run_atp h hl]
  rfl
 unfold Oper.quietAt
 rw [this]
 exact ⟨rfl, rfl⟩
def fourL (n : Nat) : List UInt8 := [UInt8.ofNat (n % 256), UInt8.ofNat (n / 256 % 256), UInt8.ofNat (n / 65536 % 256), UInt8.ofNat (n / 16777216)]
theorem four_eq (a b c d a' b' c' d' : Int) (w : World) : (binOp .eql 100 (.agg #[.int .u8 a, .int .u8 b, .int .u8 c, .int .u8 d]) (.agg #[.int .u8 a', .int .u8 b', .int .u8 c', .int .u8 d'])).run Tryz.prog w = .ok (.bool (a == a' && b == b' && c == c' && d == d')) w := by
 have hS : Tryz.prog.underlying 100 = some (.array 4 5) := by kernel_rfl
 obtain ⟨i, hi⟩ : ∃ i, Tryz.prog.info? 5 = some i := ⟨_, rfl⟩
 have hc : Tryz.prog.cellsOf 5 = 1 := by kernel_rfl
 have u5 := Tryz.underlying5
 rw [run_eql_struct, show (10000 : Nat) = 9999 + 1 from rfl, run_equalIn_array w 9999 _ _ hS hi, hc, show List.range 4 = [0, 1, 2, 3] from rfl]
 have p0 : ∀ (x y z u : Value) (w : World), (part 5 #[x, y, z, u] (0 * 1)).run Tryz.prog w = .ok x w := fun x y z u w => by kernel_rfl
 have p1 : ∀ (x y z u : Value) (w : World), (part 5 #[x, y, z, u] (1 * 1)).run Tryz.prog w = .ok y w := fun x y z u w => by kernel_rfl
 have p2 : ∀ (x y z u : Value) (w : World), (part 5 #[x, y, z, u] (2 * 1)).run Tryz.prog w = .ok z w := fun x y z u w => by kernel_rfl
 have p3 : ∀ (x y z u : Value) (w : World), (part 5 #[x, y, z, u] (3 * 1)).run Tryz.prog w = .ok u w := fun x y z u w => by kernel_rfl
 simp only [Op.eqItems, Sem.run_bind, p0, Result.andThen_ok]
 go_simp
 by_cases h1 : a = a' <;> by_cases h2 : b = b' <;> by_cases h3 : c = c' <;> by_cases h4 : d = d' <;> simp [h1, h2, h3, h4]
theorem fourL_nat (n : Nat) (h : n < 4294967296) (l : List UInt8) (m : Nat) (hm : l.length = m + 4) :
 ((((l.getD (m + 0) 0).toNat : Nat) : Int) == (n : Int) % 256 && (((l.getD (m + 1) 0).toNat : Nat) : Int) == (n : Int) / 256 % 256 && (((l.getD (m + 2) 0).toNat : Nat) : Int) == (n : Int) / 65536 % 256 && (((l.getD (m + 3) 0).toNat : Nat) : Int) == (n : Int) / 16777216) = decide (l.drop m = fourL n) := by
 have hd : l.drop m = [l.getD (m + 0) 0, l.getD (m + 1) 0, l.getD (m + 2) 0, l.getD (m + 3) 0] := by
  refine List.ext_getElem (by simp [hm]) fun i h1 h2 => ?_
  rw [List.getElem_drop]
  have hi : i < 4 := h2
  match i, hi with
  | 0, _ => simp [List.getD_eq_getElem?_getD, show m < l.length by omega]
  | 1, _ => simp [List.getD_eq_getElem?_getD, show m + 1 < l.length by omega]
  | 2, _ => simp [List.getD_eq_getElem?_getD, show m + 2 < l.length by omega]
  | 3, _ => simp [List.getD_eq_getElem?_getD, show m + 3 < l.length by omega]
 rw [hd]
 have key : ∀ (x : UInt8) (k : Nat), k < 256 → (((x.toNat : Nat) : Int) == (k : Int)) = decide (x = UInt8.ofNat k) := fun x k hk => by
  by_cases hx : x = UInt8.ofNat k
  ·subst hx; simp; omega
  ·rw [decide_eq_false hx]
   have : x.toNat ≠ k := fun e => hx (by rw [← e, UInt8.ofNat_toNat])
   simp; omega
 have k0 := key (l.getD (m + 0) 0) (n % 256) (by omega)
 have k1 := key (l.getD (m + 1) 0) (n / 256 % 256) (by omega)
 have k2 := key (l.getD (m + 2) 0) (n / 65536 % 256) (by omega)
 have k3 := key (l.getD (m + 3) 0) (n / 16777216) (by omega)
 rw [show ((n % 256 : Nat) : Int) = (n : Int) % 256 by omega] at k0
 rw [show ((n / 256 % 256 : Nat) : Int) = (n : Int) / 256 % 256 by omega] at k1
 rw [show ((n / 65536 % 256 : Nat) : Int) = (n : Int) / 65536 % 256 by omega] at k2
 rw [show ((n / 16777216 : Nat) : Int) = (n : Int) / 16777216 by omega] at k3
 rw [k0, k1, k2, k3]
 unfold fourL
 simp [Bool.and_assoc]
theorem whole_any (b o m : Nat) (l : List UInt8) (c : Nat) (w : World) (hr : Rd w (some ⟨b, o, none⟩) (bts l)) (hl : l.length < 2 ^ 60) (hc : l.length ≤ c) (hm : l.length = m + 4) :
 Calls Tryz.prog 30 #[.slice (some ⟨b, o, none⟩) l.length c] w fun e w' => e = .returned (.bool (decide (l.drop m = fourL (crcL (l.take m))))) ∧ Mod (fun _ => False) w w' := by
 rw [hm]
 go_enter Tryz.func30, Tryz.ntmps30
 go_wp2_with fail
 have hcell : ∀ j, j < 4 → w.cell? ⟨b, o + m + j, none⟩ = some (.int .u8 ((l.getD (m + j) 0).toNat : Nat)) := fun j hj => by
  obtain ⟨b', o', e, hc'⟩ := byte_cell hr (i := m + j) (by omega)
  cases e
  rw [List.getD_eq_getElem?_getD, List.getElem?_eq_getElem (by omega), Option.getD_some, Nat.add_assoc]
  exact hc'
 have x0 := hcell 0 (by omega); have x1 := hcell 1 (by omega); have x2 := hcell 2 (by omega); have x3 := hcell 3 (by omega)
 simp only [Nat.add_zero] at x0
 have HS := Hi (fun (W : World) (m9 : Mod (fun _ => False) w W) => sumP_any (some ⟨b, o, none⟩) (l.take m) c W (by
  have h0 : Rd w (some ⟨b, o, none⟩) (bts (l.take m)) := by
   intro i u hi
   refine hr i u ?_
   unfold bts at hi ⊢
   rw [List.map_take, List.getElem?_take] at hi
   split at hi
   ·exact hi
   ·cases hi
  exact h0.mod m9 (fun _ _ => id)) (by rw [List.length_take]; omega))
 have e0 : (l.take m).length = m := by rw [List.length_take]; omega
 rw [e0] at HS
 have HF := Hi (fourL_nat (crcL (l.take m)) (crcL_lt _) l m hm)
 have hs := crcL_lt (l.take m)
 clear hcell e0
 obtain ⟨res, hres⟩ : ∃ r, r = decide (l.drop m = fourL (crcL (l.take m))) := ⟨_, rfl⟩
 have HRES := Hi hres
 rw [← hres] at HF
 clear hres
 generalize hsv : crcL (l.take m) = s at *
 generalize (l.getD (m + 0) 0).toNat = n0 at *
 generalize (l.getD (m + 1) 0).toNat = n1 at *
 generalize (l.getD (m + 2) 0).toNat = n2 at *
 generalize (l.getD (m + 3) 0).toNat = n3 at *
 refine wp_region_ord (fun w' => w'.cell? ⟨b, o + m, none⟩ = some (.int .u8 (n0 : Nat)) ∧ w'.cell? ⟨b, o + m + 1, none⟩ = some (.int .u8 (n1 : Nat)) ∧ w'.cell? ⟨b, o + m + 2, none⟩ = some (.int .u8 (n2 : Nat)) ∧ w'.cell? ⟨b, o + m + 3, none⟩ = some (.int .u8 (n3 : Nat))) [(0, 0), (0, 1), (0, 2), (0, 3), (0, 4), (0, 5), (0, 6), (1, 7), (0, 8), (0, 9), (0, 10), (2, 11), (2, 12), (0, 13), (0, 14), (0, 15)] (by kernel_rfl) (by kernel_rfl) ?_
 go_wp2_with (first
  |(refine ord_pure rfl rfl rfl (fun K hK => ?_); refine quiet_atp rfl Tryz.underlying100 rfl ?_ (hK _ ?_); omega; clear hK K)
  |(refine ord_pure rfl rfl rfl (fun K hK => ?_); go_big_quiet_op; refine hK _ ?_; clear hK K)
  |(refine ord_skip rfl rfl ?_; simp only [Act.put, List.setIfInBounds_toArray, List.set_cons_zero, List.set_cons_succ])
  |(refine ord_held rfl rfl rfl (⟨x0, x1, x2, x3⟩) (fun K hK => ?_); apply Exists.intro; refine ⟨fun w' hs => ?_, hK _ ?_⟩; (revert hs; dsimp only; (try simp only [and_imp]); intros; go_simp; rfl); clear hK K)
  |(refine ord_keep rfl rfl (⟨x0, x1, x2, x3⟩) (fun K hK => ?_))
  |(refine ord_nil ?_))
 refine (HS.out _ (Mod.refl _ w).drew).mono ?_
 rintro e w1 ⟨rfl, m1⟩
 have m1' := (Mod.refl (fun _ => False) w).drew.trans m1
 have y0 := m1'.cell x0 id; have y1 := m1'.cell x1 id; have y2 := m1'.cell x2 id; have y3 := m1'.cell x3 id
 refine hK _ _ ⟨y0, y1, y2, y3⟩ ?_
 clear hK K
 have HM1 := Hi m1'
 clear m1 m1' x0 x1 x2 x3
 go_wp2_with (first
  |(refine ord_pure rfl rfl rfl (fun K hK => ?_); go_big_quiet_op; refine hK _ ?_; clear hK K)
  |(refine ord_skip rfl rfl ?_; simp only [Act.put, List.setIfInBounds_toArray, List.set_cons_zero, List.set_cons_succ])
  |(refine ord_held rfl rfl rfl (⟨y0, y1, y2, y3⟩) (fun K hK => ?_); apply Exists.intro; refine ⟨fun w' hs => ?_, hK _ ?_⟩; (revert hs; dsimp only; (try simp only [and_imp]); intros; go_simp; rfl); clear hK K)
  |(refine ord_keep rfl rfl (⟨y0, y1, y2, y3⟩) (fun K hK => ?_))
  |(refine ord_nil ?_))
 refine (sumBytes_any s hs w1).mono ?_
 rintro e w2 ⟨rfl, m2⟩
 refine hK _ _ ⟨m2.cell y0 id, m2.cell y1 id, m2.cell y2 id, m2.cell y3 id⟩ ?_
 clear hK K
 have HM2 := Hi (HM1.out.trans m2)
 clear m2 y0 y1 y2 y3
 have heq := fun w => four_eq (n0 : Nat) (n1 : Nat) (n2 : Nat) (n3 : Nat) ((s : Int) % 256) ((s : Int) / 256 % 256) ((s : Int) / 65536 % 256) ((s : Int) / 16777216) w
 rw [HF.out] at heq
 unfold fourV
 go_wp2_with (first
  |(refine ord_pure rfl rfl rfl (fun K hK => ?_); go_big_quiet_op; refine hK _ ?_; clear hK K)
  |(refine ord_skip rfl rfl ?_; simp only [Act.put, List.setIfInBounds_toArray, List.set_cons_zero, List.set_cons_succ])
  |(refine ord_held rfl rfl rfl (trivial) (fun K hK => ?_); apply Exists.intro; refine ⟨fun w' hs => ?_, hK _ ?_⟩; (revert hs; dsimp only; (try simp only [and_imp]); intros; go_simp; rfl); clear hK K)
  |(refine ord_keep rfl rfl (trivial) (fun K hK => ?_))
  |(refine ord_nil ?_))
 go_ret
 exact ⟨by rw [HRES.out, hsv]; rfl, HM2.out⟩
end Go.Proofs.YtjoiaejbahdjkaaGreat
