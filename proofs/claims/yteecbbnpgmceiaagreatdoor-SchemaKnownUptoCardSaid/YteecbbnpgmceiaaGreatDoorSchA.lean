/-
  check, safe, awake (11).
-/
import Derived.Test.YteecbbnpgmceiaaGreatDoorAwake
import Derived.Test.YteecbbnpgmceiaaGreatDoorSch6
import Derived.Test.YteecbbnpgmceiaaGreatDoorSame11
import Derived.Test.YteecbbnpgmceiaaGreatDoorStrP
import Derived.Lib.SlBytesConst
import Derived.ChangeKeysEq
namespace Go.Proofs.YteecbbnpgmceiaaGreatDoor.L11
open Go Go.RowKit Go.Mine
set_option linter.unusedVariables false
set_option maxHeartbeats 4000000
set_option maxRecDepth 100000

theorem check11_any (s : ByteArray) (rs : List Rm) (w : World) (hT : Lib.Utf8Tabs 1 2 w) (hs : s.size < 2 ^ 30) (h : progS s = .ok rs) (hl : rs.length < 2 ^ 30) (hok : ∀ r ∈ rs, SchOk r) :
    Calls Tryz.prog 33 #[.string s] w fun e w' => e = .returned (.agg #[.int .i64 (checkL rs).1, .int .i64 (checkL rs).2]) ∧ Mod (fun _ => False) w w' := by
  have hP := fun a c W => parse_says s.data.toList s.size (by rw [Lib.size_eq]) hs a c W
  rw [ba_mk, h] at hP
  unfold PSay at hP
  simp only [noOf, atOf, valOf] at hP
  have HP := Lib.hid hP
  have HT := Lib.hid hT
  have HN := Lib.hid num_any
  have HOK := Lib.hid hok
  clear hP hT hok
  generalize hcl : checkL rs = cl
  obtain ⟨q1, q2⟩ := cl
  have HCL := Lib.hid hcl
  have hm1 : Mod (fun _ => False) w (w.alloc (.cells #[.int .i64 0, .int .i64 0] 73)) := (Mod.refl _ w).alloc _
  have HB0 := Lib.hid (heap_alloc_new w (.cells #[.int .i64 0, .int .i64 0] 73))
  have HM1 := Lib.hid hm1
  have hcv := run_bytes_of_string (P := Tryz.prog) (w.alloc (.cells #[.int .i64 0, .int .i64 0] 73)) 9 34 5 s (by kernel_rfl) (by kernel_rfl) (by kernel_rfl)
  clear hm1 hcl
  go_enter Tryz.func33, Tryz.ntmps33
  go_wp2_with fail
  clear hcv
  generalize grownCap (w.alloc (.cells #[.int .i64 0, .int .i64 0] 73)) s.size 0 5 = cap
  have hz : (w.alloc (.cells #[.int .i64 0, .int .i64 0] 73)).heap.size = w.heap.size + 1 := by simp
  generalize w.alloc (.cells #[.int .i64 0, .int .i64 0] 73) = w0 at *
  have hm0 : Mod (fun _ => False) w0 (w0.alloc (.cells (bytesRow s cap) 5 ((bytesRow s cap).size, (bytesRow s cap).size + 1))).drew := ((Mod.refl _ w0).alloc _).drew
  rw [← hz]
  refine (HP.out _ _ _ (rd_bytesRow s w0 cap _ _) (tabs_mod HT.out (HM1.out.trans hm0))).mono ?_
  rintro e w1 ⟨s1, rfl, hs1, hM⟩
  have HS := Lib.hid hs1
  obtain ⟨a1, c1, _, rfl, _⟩ := hs1
  have hm2 : Mod (fun _ => False) w0 (w1.alloc (.cells #[.slice a1 rs.length c1] 24)) := (hm0.trans hM).alloc _
  have hm3 : Mod (fun _ => False) w1 (w1.alloc (.cells #[.slice a1 rs.length c1] 24)) := (Mod.refl _ w1).alloc _
  have HC := Lib.hid (Check_any rs _ _ (HS.out.mod0 hm3) hl HOK.out)
  have HM2 := Lib.hid hm2
  have z0 := cell_new (w := w1) (cs := #[.slice a1 rs.length c1]) (e := 24) (j := 0) rfl rfl
  clear hm0 hm2 hm3 hM HP
  rw [hz]
  go_wp2_with (first
    | (go_at_call 27; refine (HN.out _ _).mono ?_; rintro e w' ⟨rfl, rfl⟩))
  clear z0
  refine HC.out.mono ?_
  rintro e w3 ⟨rfl, hM3⟩
  rw [HCL.out]
  have hb := (HM2.out.trans hM3).at HB0.out id
  have f0 : w3.frozen? ⟨w.heap.size, 0, none⟩ = false := frozen_at hb
  have f1 : w3.frozen? ⟨w.heap.size, 1, none⟩ = false := frozen_at hb
  have HBB := Lib.hid hb
  have HM3 := Lib.hid (HM1.out.trans (HM2.out.trans hM3))
  have d0 := cell_at (j := 0) hb rfl
  have d1 := cell_at (j := 1) hb rfl
  clear hb hM3 HC
  go_wp2_with (first
    | (go_at_call 27; refine (HN.out _ _).mono ?_; rintro e w' ⟨rfl, rfl⟩))
  have hm : Mod (fun k => k = w.heap.size) w3 ((w3.setCell ⟨w.heap.size, 0, none⟩ (.int .i64 q1)).setCell ⟨w.heap.size, 1, none⟩ (.int .i64 q2)) :=
    ((Mod.refl (fun k => k = w.heap.size) w3).setCell (p := ⟨w.heap.size, 0, none⟩) (fun _ => rfl) _).setCell (p := ⟨w.heap.size, 1, none⟩) (fun _ => rfl) _
  have hb2 := heap_setCell_at (j := 1) (.int .i64 q2) (heap_setCell_at (j := 0) (.int .i64 q1) HBB.out)
  have y0 := cell_at (j := 0) (u := .int .i64 q1) hb2 rfl
  have y1 := cell_at (j := 1) (u := .int .i64 q2) hb2 rfl
  generalize ((w3.setCell ⟨w.heap.size, 0, none⟩ (.int .i64 q1)).setCell ⟨w.heap.size, 1, none⟩ (.int .i64 q2)) = W at *
  exact bodyPost_ret (v := .agg #[.int .i64 q1, .int .i64 q2]) (by simp [results, Tryz.results33, go_sem, y0, y1]) rfl ⟨rfl, HM3.out.step hm (fun i hi hs => by omega)⟩
theorem schOk_of {r : Rm} (h : RmS r) : SchOk r := by
  have h1 := h.1.1
  have h2 := h.1.2.1
  have h3 := h.2.1
  refine ⟨⟨⟨by omega, by omega, fun t ht => by have := h.1.2.2 t ht; unfold TmS at this; omega⟩, by omega, fun l hl => ?_⟩, ⟨⟨by unfold maxLen; omega, by omega⟩, by omega, fun l hl => ?_⟩, by omega, by omega, fun l hl => ?_⟩
  · have h4 := h.2.2 l hl
    exact ⟨⟨by have := h4.1.1; omega, by have := h4.1.2.1; omega, fun t ht => by have := h4.1.2.2 t ht; unfold TmS at this; omega⟩, by have := h4.2.1; unfold TmS at this; omega, by have := h4.2.2; unfold TmS at this; omega⟩
  · have h4 := h.2.2 l hl
    have h5 := h4.1.1; have h6 := h4.1.2.1
    exact ⟨by unfold maxLen; omega, by omega⟩
  · have h4 := h.2.2 l hl
    have h6 := h4.1.2.1
    omega
theorem safe11_any (s : ByteArray) (rs : List Rm) (r : Rm) (w : World) (hT : Lib.Utf8Tabs 1 2 w) (hs : s.size < 2 ^ 30) (h : progS s = .ok rs) (hl : rs.length < 2 ^ 30) (hne : 0 < rs.length) (hr : rs[rs.length - 1]? = some r) (hok : SchOk r) :
    Calls Tryz.prog 34 #[.string s] w fun e w' => e = .returned (brV (safeB r)) ∧ Mod (fun _ => False) w w' := by
  have hP := fun a c W => parse_says s.data.toList s.size (by rw [Lib.size_eq]) hs a c W
  rw [ba_mk, h] at hP
  unfold PSay at hP
  simp only [noOf, atOf, valOf] at hP
  have HP := Lib.hid hP
  have HT := Lib.hid hT
  have HOK := Lib.hid hok
  clear hP hT hok
  have hm1 : Mod (fun _ => False) w (w.alloc (.cells #[.int .i64 0, .int .i64 0, .int .i64 0, .string ⟨#[]⟩] 76)) := (Mod.refl _ w).alloc _
  have HB0 := Lib.hid (heap_alloc_new w (.cells #[.int .i64 0, .int .i64 0, .int .i64 0, .string ⟨#[]⟩] 76))
  have HM1 := Lib.hid hm1
  have hcv := run_bytes_of_string (P := Tryz.prog) (w.alloc (.cells #[.int .i64 0, .int .i64 0, .int .i64 0, .string ⟨#[]⟩] 76)) 9 34 5 s (by kernel_rfl) (by kernel_rfl) (by kernel_rfl)
  clear hm1
  go_enter Tryz.func34, Tryz.ntmps34
  go_wp2_with fail
  clear hcv
  generalize grownCap (w.alloc (.cells #[.int .i64 0, .int .i64 0, .int .i64 0, .string ⟨#[]⟩] 76)) s.size 0 5 = cap
  have hz : (w.alloc (.cells #[.int .i64 0, .int .i64 0, .int .i64 0, .string ⟨#[]⟩] 76)).heap.size = w.heap.size + 1 := by simp
  generalize w.alloc (.cells #[.int .i64 0, .int .i64 0, .int .i64 0, .string ⟨#[]⟩] 76) = w0 at *
  have hm0 : Mod (fun _ => False) w0 (w0.alloc (.cells (bytesRow s cap) 5 ((bytesRow s cap).size, (bytesRow s cap).size + 1))).drew := ((Mod.refl _ w0).alloc _).drew
  rw [← hz]
  refine (HP.out _ _ _ (rd_bytesRow s w0 cap _ _) (tabs_mod HT.out (HM1.out.trans hm0))).mono ?_
  rintro e w1 ⟨s1, rfl, hs1, hM⟩
  obtain ⟨a1, c1, xv, rfl, hx, hrd, hxt⟩ := hs1
  have hxg : ∃ sv bv, xv[rs.length - 1]? = some (r, sv, bv) ∧ (r, sv, bv) ∈ xv := by
    obtain ⟨⟨sv, bv⟩, e1, e2⟩ := xs_get hx (i := rs.length - 1) (by omega)
    have e3 : rs[rs.length - 1] = r := by
      rw [List.getElem?_eq_getElem (by omega)] at hr
      exact Option.some.inj hr
    rw [e3] at e1 e2
    exact ⟨sv, bv, e1, e2⟩
  obtain ⟨sv, bv, hxi, hmem⟩ := hxg
  have hm2 : Mod (fun _ => False) w0 (w1.alloc (.cells #[.slice a1 rs.length c1] 24)) := (hm0.trans hM).alloc _
  have hm3 : Mod (fun _ => False) w1 (w1.alloc (.cells #[.slice a1 rs.length c1] 24)) := (Mod.refl _ w1).alloc _
  obtain ⟨b1, o1, rfl, x0, x1, x2⟩ := rd_cellR (hrd.mod hm3 (fun _ _ => id)) hxi
  have HC := Lib.hid (Safe_any r sv bv _ ((hxt _ hmem).1.mod0 hm3) ((hxt _ hmem).2.mod0 hm3) HOK.out.h0 HOK.out.b0 HOK.out.t0)
  have hmax : 0 ≤ (rs.length : Int) - 1 := by omega
  have en : ((rs.length : Int) == 0) = false := beq_eq_false_iff_ne.2 (by omega)
  have ei : (rs.length : Int) - 1 = ((rs.length - 1 : Nat) : Int) := by omega
  have hi0 : rs.length - 1 < rs.length := by omega
  obtain ⟨⟨sa, sc, hsv, _⟩, ⟨ba, bc, _, hbv, _⟩⟩ := hxt _ hmem
  simp only at hsv hbv
  subst hsv hbv
  have hyo := safeB_ok r
  unfold rmV at HC
  obtain ⟨⟨pr, hts⟩, ls⟩ := r
  simp only at x0 x1 x2 HC
  generalize hye : safeB ⟨⟨pr, hts⟩, ls⟩ = y at *
  obtain ⟨y1, y2, y3, y4⟩ := y
  have HYE := Lib.hid hye; clear hye
  have HYO := Lib.hid hyo
  have HM2 := Lib.hid hm2
  have z0 := cell_new (w := w1) (cs := #[.slice (some ⟨b1, o1, none⟩) rs.length c1]) (e := 24) (j := 0) rfl rfl
  clear hm0 hm2 hm3 hM HP hx hrd hxt hxi hmem hyo hr
  rw [hz]
  generalize hnl : rs.length = nl at *
  go_wp2_with fail
  refine HC.out.mono ?_
  rintro e w3 ⟨rfl, hM3⟩
  have HM3 := Lib.hid (HM1.out.trans (HM2.out.trans hM3))
  have HB3 := Lib.hid ((HM2.out.trans hM3).at HB0.out id)
  clear hM3 HC x0 x1 x2 z0
  unfold brV okBr
  simp only
  by_cases h0 : y1 = 0
  · rcases HYO.out with e | e
    · injection e with e1 e2 e3 e4
      skip
      subst e1 e2 e3 e4
      have hq : ∀ w : World, (binOp .eql 76 (.agg #[.int .i64 0, .int .i64 0, .int .i64 0, .string emptyB]) (.agg #[.int .i64 0, .int .i64 0, .int .i64 0, .string ⟨#[]⟩])).run Tryz.prog w = .ok (.bool true) w := br_ez0
      rw [show decide ((0 : Int) = 0) = true from rfl]
      clear HYO h0
      have hb4 := heap_alloc_new w3 (.cells #[.int .i64 (0), .int .i64 (0), .int .i64 (0), .string (emptyB)] 76)
      have hm4 : Mod (fun _ => False) w3 (w3.alloc (.cells #[.int .i64 (0), .int .i64 (0), .int .i64 (0), .string (emptyB)] 76)) := (Mod.refl _ w3).alloc _
      have hb := hm4.at HB3.out id
      have u0 := cell_at (j := 0) hb4 rfl
      have u1 := cell_at (j := 1) hb4 rfl
      have u2 := cell_at (j := 2) hb4 rfl
      have u3 := cell_at (j := 3) hb4 rfl
      have c0 := cell_at (j := 0) hb rfl
      have c1 := cell_at (j := 1) hb rfl
      have c2 := cell_at (j := 2) hb rfl
      have c3 := cell_at (j := 3) hb rfl
      have f0 := frozen_at (j := 0) hb
      have f1 := frozen_at (j := 1) hb
      have f2 := frozen_at (j := 2) hb
      have f3 := frozen_at (j := 3) hb
      have HSB := Lib.hid (store_br (⟨0, 0, 0, emptyB⟩ : Br) rfl hb (HM3.out.trans hm4) (by omega))
      clear hb hb4 hm4
      go_wp2_with fail
      have hc := HSB.out.2
      have q0 := cell_at (j := 0) hc rfl
      have q1 := cell_at (j := 1) hc rfl
      have q2 := cell_at (j := 2) hc rfl
      have q3 := cell_at (j := 3) hc rfl
      have hmm := HSB.out.1
      clear hc HSB c0 c1 c2 c3 f0 f1 f2 f3 u0 u1 u2 u3
      refine bodyPost_ret (v := .agg #[.int .i64 (0), .int .i64 (0), .int .i64 (0), .string (emptyB)]) ?_ rfl ⟨by rw [HYE.out]; rfl, hmm⟩
      simp [results, Tryz.results34, go_sem, q0, q1, q2, q3]
    · exact absurd h0 e
  · have hq := br_ez h0
    have ed : decide (y1 = 0) = false := decide_eq_false h0
    rw [ed]
    clear HYO h0 ed
    have hb4 := heap_alloc_new w3 (.cells #[.int .i64 (y1), .int .i64 (y2), .int .i64 (y3), .string (y4)] 76)
    have hm4 : Mod (fun _ => False) w3 (w3.alloc (.cells #[.int .i64 (y1), .int .i64 (y2), .int .i64 (y3), .string (y4)] 76)) := (Mod.refl _ w3).alloc _
    have hb := hm4.at HB3.out id
    have u0 := cell_at (j := 0) hb4 rfl
    have u1 := cell_at (j := 1) hb4 rfl
    have u2 := cell_at (j := 2) hb4 rfl
    have u3 := cell_at (j := 3) hb4 rfl
    have c0 := cell_at (j := 0) hb rfl
    have c1 := cell_at (j := 1) hb rfl
    have c2 := cell_at (j := 2) hb rfl
    have c3 := cell_at (j := 3) hb rfl
    have f0 := frozen_at (j := 0) hb
    have f1 := frozen_at (j := 1) hb
    have f2 := frozen_at (j := 2) hb
    have f3 := frozen_at (j := 3) hb
    have HSB := Lib.hid (store_br (⟨y1, y2, y3, y4⟩ : Br) rfl hb (HM3.out.trans hm4) (by omega))
    clear hb hb4 hm4
    go_wp2_with fail
    have hc := HSB.out.2
    have q0 := cell_at (j := 0) hc rfl
    have q1 := cell_at (j := 1) hc rfl
    have q2 := cell_at (j := 2) hc rfl
    have q3 := cell_at (j := 3) hc rfl
    have hmm := HSB.out.1
    clear hc HSB c0 c1 c2 c3 f0 f1 f2 f3 u0 u1 u2 u3
    refine bodyPost_ret (v := .agg #[.int .i64 (y1), .int .i64 (y2), .int .i64 (y3), .string (y4)]) ?_ rfl ⟨by rw [HYE.out]; rfl, hmm⟩
    simp [results, Tryz.results34, go_sem, q0, q1, q2, q3]
def awT1 : ByteArray := ⟨#[112, 40, 88, 41, 32, 58, 45, 32, 113, 40, 88, 41, 46, 32, 113, 40, 97, 41, 46]⟩
def awT2 : ByteArray := ⟨#[112, 40, 88, 41, 32, 58, 45, 32, 113, 40, 88, 41, 46, 32, 113, 40, 97, 44, 32, 98, 41, 46]⟩
def awT3 : ByteArray := ⟨#[112, 32, 58, 45, 32, 113, 40, 89, 41, 44, 32, 88, 32, 60, 32, 89, 46]⟩
def valP (s : ByteArray) : List Rm := match progS s with
  | .ok rs => rs
  | .error _ => []
theorem aw1 : progS awT1 = .ok (valP awT1) := by kernel_rfl
theorem aw2 : progS awT2 = .ok (valP awT2) := by kernel_rfl
theorem aw3 : progS awT3 = .ok (valP awT3) := by kernel_rfl
theorem aw1c : checkL (valP awT1) = (0, 0) := by kernel_rfl
theorem aw2c : checkL (valP awT2) = (1, 110) := by kernel_rfl
def awR3 : Rm := ⟨⟨⟨#[112]⟩, []⟩, [⟨1, ⟨⟨#[113]⟩, [⟨1, ⟨#[89]⟩⟩]⟩, 0, ⟨0, ⟨#[]⟩⟩, ⟨0, ⟨#[]⟩⟩⟩, ⟨3, ⟨⟨#[]⟩, []⟩, 3, ⟨1, ⟨#[88]⟩⟩, ⟨1, ⟨#[89]⟩⟩⟩]⟩
theorem aw3r : valP awT3 = [awR3] := by kernel_rfl
theorem aw3s : safeB awR3 = ⟨2, 1, 0, ⟨#[88]⟩⟩ := by kernel_rfl
theorem two_eq (a b : Int) (w : World) : (binOp .eql 73 (.agg #[.int .i64 a, .int .i64 b]) (.agg #[.int .i64 a, .int .i64 b])).run Tryz.prog w = .ok (.bool true) w := by
  have hS : Tryz.prog.underlying 73 = some (.array 2 3) := by kernel_rfl
  obtain ⟨i, hi⟩ : ∃ i, Tryz.prog.info? 3 = some i := ⟨_, rfl⟩
  have u3 := Tryz.underlying3
  have hc : Tryz.prog.cellsOf 3 = 1 := by kernel_rfl
  rw [run_eql_struct, show (10000 : Nat) = 9999 + 1 from rfl, run_equalIn_array w 9999 _ _ hS hi, hc, show List.range 2 = [0, 1] from rfl]
  have p0 : ∀ (x y : Value) (w : World), (part 3 #[x, y] (0 * 1)).run Tryz.prog w = .ok x w := fun x y w => by kernel_rfl
  have p1 : ∀ (x y : Value) (w : World), (part 3 #[x, y] (1 * 1)).run Tryz.prog w = .ok y w := fun x y w => by kernel_rfl
  simp only [Op.eqItems, Sem.run_bind, p0, Result.andThen_ok]
  go_simp
theorem br_same (a b c : Int) (s : ByteArray) (w : World) : (binOp .eql 76 (.agg #[.int .i64 a, .int .i64 b, .int .i64 c, .string s]) (.agg #[.int .i64 a, .int .i64 b, .int .i64 c, .string s])).run Tryz.prog w = .ok (.bool true) w := by
  have u3 := Tryz.underlying3
  have hS : Tryz.prog.underlying 76 = some (.struct (Tryz.prog.fieldsOf 76)) := by kernel_rfl
  have hp : Tryz.prog.stoodInHeld 76 = false := by kernel_rfl
  rw [run_eql_struct, show (10000 : Nat) = 9999 + 1 from rfl, run_equalIn_agg w 9999 76 _ _ hS hp]
  simp only [Program.fieldsOf, Tryz.underlying76]
  go_simp
  try simp
theorem awake11_true (w : World) (hT : Lib.Utf8Tabs 1 2 w) : Calls Tryz.prog 32 #[] w fun e w' => e = .returned (.bool true) ∧ Mod (fun _ => False) w w' := by
  have HT := Lib.hid hT
  have p1 := prog_small aw1; have p2 := prog_small aw2; have p3 := prog_small aw3
  have HA := Lib.hid (fun (W : World) (m : Mod (fun _ => False) w W) => check11_any awT1 _ W (tabs_mod HT.out m) (by decide) aw1 (by have := p1.1; omega) (fun r hr => schOk_of (p1.2 r hr)))
  have HB := Lib.hid (fun (W : World) (m : Mod (fun _ => False) w W) => check11_any awT2 _ W (tabs_mod HT.out m) (by decide) aw2 (by have := p2.1; omega) (fun r hr => schOk_of (p2.2 r hr)))
  have HC := Lib.hid (fun (W : World) (m : Mod (fun _ => False) w W) => safe11_any awT3 _ awR3 W (tabs_mod HT.out m) (by decide) aw3 (by have := p3.1; omega) (by rw [aw3r]; simp) (by rw [aw3r]; rfl) (schOk_of (p3.2 _ (by rw [aw3r]; simp))))
  rw [aw1c] at HA
  rw [aw2c] at HB
  rw [aw3s] at HC
  have q1 := two_eq
  have q2 := br_same
  clear hT p1 p2 p3
  go_enter Tryz.func32, Tryz.ntmps32
  go_wp2_with fail
  refine (HA.out _ (Mod.refl _ _)).mono ?_
  rintro e w1 ⟨rfl, hM1⟩
  have HM1 := Lib.hid hM1; clear hM1
  go_wp2_with fail
  refine (HB.out _ HM1.out).mono ?_
  rintro e w2 ⟨rfl, hM2⟩
  have HM2 := Lib.hid (HM1.out.trans hM2); clear hM2
  go_wp2_with fail
  refine (HC.out _ HM2.out).mono ?_
  rintro e w3 ⟨rfl, hM3⟩
  have HM3 := Lib.hid (HM2.out.trans hM3); clear hM3
  unfold brV
  go_wp2_with fail
  go_ret
  exact ⟨rfl, HM3.out⟩
end Go.Proofs.YteecbbnpgmceiaaGreatDoor.L11
