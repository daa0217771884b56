/-
  What an archive tells of a name: how many files, a file; both sides.
-/
import Derived.Test.YtjoiaejbahdjkaaGreatArcY
import Derived.Test.YtjoiaejbahdjkaaGreatAgG
import Derived.Test.YtjoiaejbahdjkaaGreatFgB
import Derived.Deep.CutRange
import Derived.Test.YtjoiaejbahdjkaaGreatFgC
import Derived.Test.YtjoiaejbahdjkaaGreatDocJ
namespace Go.Proofs.YtjoiaejbahdjkaaGreat
open Go Go.RowKit Go.Mine Go.Maps
set_option linter.unusedVariables false
set_option maxHeartbeats 8000000
set_option maxRecDepth 100000
def fileO (l : Arc) (x : ByteArray) : List UInt8 := (getA l x).getD []
theorem getA_arc (l : Ens) (x : ByteArray) : getA (arcOf l) x = (getA l x).map (·.f) := getA_map (fun e : En => e.f)
theorem len26_any (p : Nat) (mb : Option Nat) (l : Ens) (w : World) (h : AAt w p mb l) :
 Calls Tryz.prog 39 #[.pointer (some ⟨p, 0, none⟩)] w fun e w' => e = .returned (.int .i64 l.length) ∧ w = w' := by
 have p0 := cell_at (j := 0) h.box rfl
 have hlen := h.map.len
 clear h
 go_enter Tryz.func39, Tryz.ntmps39
 go_wp2_with fail
 go_ret
 exact ⟨rfl, rfl⟩
theorem lenR26_any (p : Nat) (na fa : Option Addr) (nc fc : Nat) (l : Ens) (w : World) (h : RAt w p na nc fa fc l) :
 Calls Tryz.prog 40 #[.pointer (some ⟨p, 0, none⟩)] w fun e w' => e = .returned (.int .i64 l.length) ∧ w = w' := by
 have p0 := cell_at (j := 0) h.box rfl
 clear h
 go_enter Tryz.func40, Tryz.ntmps40
 go_wp2_with fail
 go_ret
 exact ⟨rfl, rfl⟩
def FileAP (l : Arc) (x : ByteArray) (w : World) (e : Ending) (w' : World) : Prop :=
 ∃ a, e = .returned (.tuple #[.slice a (fileO l x).length (fileO l x).length, .bool (getA l x).isSome]) ∧ WrOk w' a (fileO l x).length (fileO l x) ∧ (∀ b, blk a = some b → w.heap.size ≤ b) ∧ Mine.Mod (fun _ => False) w w'
theorem file26_any (p : Nat) (mb : Option Nat) (l : Ens) (x : ByteArray) (w : World) (h : AAt w p mb l) (hx : x.size ≤ maxLen) (hl : ∀ q ∈ l, q.2.f.length < 2 ^ 38) :
 Calls Tryz.prog 74 #[.pointer (some ⟨p, 0, none⟩), .string x] w (FileAP (arcOf l) x w) := by
 have p0 := cell_at (j := 0) h.box rfl
 have hlook := h.map.look2 x hx
 unfold FileAP fileO
 rw [getA_arc]
 cases hg : getA l x with
 | none =>
   rw [hg] at hlook
   simp only [fval, Option.isSome_none] at hlook
   clear h hl
   go_enter Tryz.func74, Tryz.ntmps74
   go_wp2_with fail
   refine (clone_nil 0 0 w).mono ?_
   rintro e w1 ⟨rfl, hw⟩
   obtain rfl : w = w1 := hw
   go_wp2_with fail
   refine (clip26_any none 0 0 w (Nat.le_refl _)).mono ?_
   rintro e w1 ⟨rfl, hw⟩
   obtain rfl : w = w1 := hw
   go_wp2_with fail
   refine bodyPost_ret (v := .tuple #[.slice none 0 0, .bool false]) ?_ rfl ⟨none, rfl, .inr (Mine.Own.nil _ _ _), (fun b hb => by cases hb), Mod.refl _ _⟩
   simp [results, Tryz.results74, go_sem]
 | some e =>
   obtain ⟨g, c, f⟩ := e
   rw [hg] at hlook
   simp only [fval, En.val, Option.isSome_some] at hlook
   have hmem := getA_some hg
   obtain ⟨hf, hr⟩ := h.ents _ hmem
   have hfl := hl _ hmem
   simp only at hf hr hfl
   simp only [Option.map_some, Option.getD_some, Option.isSome_some]
   have HCL := Hi (clone_some ⟨g, 0, none⟩ f c w hr (by omega))
   have hpos : 0 < f.length := List.length_pos_iff.2 hf
   clear h hl hmem hf hr
   obtain ⟨n, hn⟩ : ∃ n, n = f.length := ⟨_, rfl⟩
   rw [← hn] at hlook hpos HCL ⊢
   have HN := Hi hn
   clear hn
   go_enter Tryz.func74, Tryz.ntmps74
   go_wp2_with fail
   refine HCL.out.mono ?_
   clear HCL
   rintro e w1 ⟨g2, c2, rfl, hg2, hO, hm⟩
   obtain ⟨hW, hc2⟩ := Wr.of hO HN.out hpos
   have HW := Hi hW; have HM := Hi hm; have HG := Hi hg2
   clear hO hm hg2 hW
   go_wp2_with fail
   refine (clip26_any (some ⟨g2, 0, none⟩) n c2 w1 hc2).mono ?_
   rintro e w2 ⟨rfl, hw⟩
   obtain rfl : w1 = w2 := hw
   go_wp2_with fail
   refine bodyPost_ret (v := .tuple #[.slice (some ⟨g2, 0, none⟩) n n, .bool true]) ?_ rfl ⟨some ⟨g2, 0, none⟩, rfl, .inl ⟨g2, rfl, HW.out, HN.out⟩, (fun b hb => by
    have hb' : g2 = b := by simpa [blk] using hb
    rw [← hb']; exact HG.out), HM.out⟩
   simp [results, Tryz.results74, go_sem]
theorem find26_any (p : Nat) (na fa : Option Addr) (nc fc : Nat) (l : Ens) (x : ByteArray) (w : World) (h : RAt w p na nc fa fc l) (hn : l.length < 2 ^ 37) :
 Calls Tryz.prog 49 #[.pointer (some ⟨p, 0, none⟩), .string x] w fun e w' => ∃ k : Int, e = .returned (.int .i64 k) ∧ ((k = -1 ∧ ∀ q ∈ l, q.1 ≠ x) ∨ ∃ (j : Nat) (hj : j < l.length), k = j ∧ l[j].1 = x) ∧ Mine.Mod (fun _ => False) w w' := by
 have H := Hi h
 obtain ⟨n, hnn⟩ : ∃ n, n = l.length := ⟨_, rfl⟩
 have HN := Hi hnn
 have HBX : Hid (w.heap[p]? = some (.cells #[.slice na n nc, .slice fa n fc] 83 (0, 0))) := Hi (by rw [hnn]; exact h.box)
 rw [← hnn] at hn
 clear h hnn
 go_enter Tryz.func49, Tryz.ntmps49
 go_wp2_with fail
 go_loopw [5] (fun iv wr => ∃ k : Nat, k ≤ n ∧ iv = .int .i64 k ∧ Hid (∀ j (hj : j < l.length), j < k → l[j].1 ≠ x) ∧ Hid (Mine.Mod (fun _ => False) w wr)) (fun iv _ => n - (intOf iv).toNat)
 case atStart => exact ⟨0, Nat.zero_le _, rfl, Hi (fun j _ hj => by omega), Hi (Mod.refl _ _)⟩
 case round =>
  obtain ⟨k, hk, rfl, hno, hM⟩ := hrel
  have p0 := cell_at (j := 0) (hM.out.at HBX.out id) rfl
  by_cases hlt : k < n
  ·have hkl : k < l.length := by rw [← HN.out]; exact hlt
   obtain ⟨b1, o1, rfl, n0'⟩ := H.out.name hkl
   have n0 := hM.out.cell n0' id
   obtain ⟨y, hy⟩ : ∃ y, y = l[k].1 := ⟨_, rfl⟩
   have HY := Hi hy
   rw [← hy] at n0
   clear n0' hy
   by_cases hyx : y = x
   ·have e1 : (y.toList == x.toList) = true := by rw [baEq, decide_eq_true hyx]
    go_wp2_with fail
    go_ret
    exact ⟨k, rfl, .inr ⟨k, hkl, rfl, by rw [← HY.out]; exact hyx⟩, hM.out⟩
   ·have e1 : (y.toList == x.toList) = false := by rw [baEq, decide_eq_false hyx]
    go_wp2_with fail
    go_roundw
    case rel =>
     refine ⟨k + 1, hlt, by go_num, Hi (fun j hj hjk => ?_), hM⟩
     by_cases hjk2 : j = k
     ·subst hjk2; rw [← HY.out]; exact hyx
     ·exact hno.out j hj (by omega)
    case measure => simp [intOf]; omega
  ·obtain rfl : n = k := by omega
   go_wp2_with fail
   go_ret
   exact ⟨-1, rfl, .inl ⟨rfl, fun q hq => by
    obtain ⟨j, hj, e⟩ := List.mem_iff_getElem.1 hq
    rw [← e]
    exact hno.out j hj (by rw [HN.out]; exact hj)⟩, hM.out⟩
theorem getA_none {β : Type} {l : List (ByteArray × β)} {x : ByteArray} (h : ∀ q ∈ l, q.1 ≠ x) : getA l x = none := by
 unfold getA
 rw [Option.map_eq_none_iff, List.find?_eq_none]
 intro q hq
 simpa using h q hq
def FileR (l : Arc) (x : ByteArray) (w0 w : World) (e : Ending) (w' : World) : Prop :=
 ∃ a c, e = .returned (.tuple #[.slice a (fileO l x).length c, .bool (getA l x).isSome]) ∧ Rd w' a (bts (fileO l x)) ∧ (∀ b, blk a = some b → b < w0.heap.size) ∧ Mine.Mod (fun _ => False) w w'
theorem fileR26_any (p : Nat) (na fa : Option Addr) (nc fc : Nat) (l : Ens) (x : ByteArray) (w0 w : World) (h0 : RAt w0 p na nc fa fc l) (m0 : Mine.Mod (fun _ => False) w0 w) (hn : l.length < 2 ^ 37) (hu : UpA l) :
 Calls Tryz.prog 75 #[.pointer (some ⟨p, 0, none⟩), .string x] w (FileR (arcOf l) x w0 w) := by
 have h := h0.mod0 m0
 have HE0 := Hi h0.ents
 clear h0 m0
 have HF := Hi (find26_any p na fa nc fc l x w h hn)
 have H := Hi h
 clear h
 go_enter Tryz.func75, Tryz.ntmps75
 go_wp2_with fail
 refine HF.out.mono ?_
 clear HF
 rintro e w1 ⟨k, rfl, hk, hm⟩
 rcases hk with ⟨rfl, hno⟩ | ⟨j, hj, rfl, hjx⟩
 ·have hg : getA (arcOf l) x = none := by rw [getA_arc, getA_none hno]; rfl
  have HG := Hi hg
  have HM := Hi hm
  clear hno hg hm
  go_wp2_with fail
  refine bodyPost_ret (v := .tuple #[.slice none 0 0, .bool false]) ?_ rfl ⟨none, 0, by unfold fileO; rw [HG.out]; rfl, by unfold fileO; rw [HG.out]; exact Rd.nil _ _, (fun b hb => by cases hb), HM.out⟩
  simp [results, Tryz.results75, go_sem]
 ·have hg : getA (arcOf l) x = some l[j].2.f := by
   rw [getA_arc, ← hjx, getA_mem hu (List.getElem_mem hj)]; rfl
  have HG := Hi hg
  have HM := Hi hm
  obtain ⟨b2, o2, rfl, f0⟩ := (H.out.mod0 hm).file hj
  have p1 := cell_at (j := 1) (hm.at H.out.box id) rfl
  obtain ⟨hf, hr⟩ := H.out.ents _ (List.getElem_mem hj)
  have HR := Hi hr; have HFF := Hi hf
  have HLT : Hid (∀ b, blk (some ⟨l[j].2.g, 0, none⟩ : Option Addr) = some b → b < w0.heap.size) := Hi (fun b hb => (HE0.out _ (List.getElem_mem hj)).2.lt (by simpa [bts] using hf) b hb)
  generalize l[j].2.f = f at *
  generalize l[j].2.g = g at *
  generalize l[j].2.c = c at *
  have e0 : decide ((j : Int) < 0) = false := decide_eq_false (by omega)
  clear hg hm hf hr hjx
  go_wp2_with fail
  refine bodyPost_ret (v := .tuple #[.slice (some ⟨g, 0, none⟩) f.length c, .bool true]) ?_ rfl ⟨some ⟨g, 0, none⟩, c, by unfold fileO; rw [HG.out]; rfl, by unfold fileO; rw [HG.out]; exact HR.out.mod HM.out fun _ _ => id, HLT.out, HM.out⟩
  simp [results, Tryz.results75, go_sem]
end Go.Proofs.YtjoiaejbahdjkaaGreat
/-
  Law 26: two relations that are the same.
-/
namespace Go.Proofs.YtjoiaejbahdjkaaGreat
open Go Go.RowKit Go.Mine
set_option linter.unusedVariables false
set_option maxHeartbeats 8000000
set_option maxRecDepth 100000
theorem relation26_any (nm : ByteArray) (A : Int) (n m : Nat) (a b : Option Addr) (ca cb : Nat) (ha hb : List Value) (rows : List (List ByteArray)) (w : World) (hx : LLR w a ha (rows.map sts)) (hy : LLR w b hb (rows.map sts)) (hm : ∀ r ∈ rows, r.length = m) (hm2 : m < 2 ^ 40) (hn : rows.length = n) (hn2 : n < 2 ^ 40) :
 Calls Tryz.prog 78 #[.agg #[.string nm, .int .i64 A, .slice a n ca], .agg #[.string nm, .int .i64 A, .slice b n cb]] w fun e w' => e = .returned (.bool true) ∧ Mod (fun _ => False) w w' := by
 have HX := Hi hx; have HY := Hi hy; have HM := Hi hm; have HN := Hi hn
 clear hx hy hm hn
 go_enter Tryz.func78, Tryz.ntmps78
 go_upto_region 1 with fail
 have HS : Hid (RS w ((w.alloc (.cells #[.string nm, .int .i64 A, .slice a n ca] 86)).alloc (.cells #[.string nm, .int .i64 A, .slice b n cb] 86)) [boxI w.heap.size #[.string nm, .int .i64 A, .slice a n ca] 86, boxI (w.heap.size + 1) #[.string nm, .int .i64 A, .slice b n cb] 86]) := Hi (by
  have h0 : RS w w [] := ⟨Fam.nil (Nat.le_refl _), Mod.refl _ _⟩
  have h1 := h0.push (i' := boxI w.heap.size #[.string nm, .int .i64 A, .slice a n ca] 86) ((Mod.refl _ w).alloc (.cells #[.string nm, .int .i64 A, .slice a n ca] 86)) (heap_alloc_new w _) (fun b hb => Nat.le_of_eq (Eq.symm hb))
  have e1 : (w.alloc (.cells #[.string nm, .int .i64 A, .slice a n ca] 86)).heap.size = w.heap.size + 1 := by simp
  exact h1.push (i' := boxI (w.heap.size + 1) #[.string nm, .int .i64 A, .slice b n cb] 86) ((Mod.refl _ _).alloc (.cells #[.string nm, .int .i64 A, .slice b n cb] 86)) (by have h := heap_alloc_new (w.alloc (.cells #[.string nm, .int .i64 A, .slice a n ca] 86)) (.cells #[.string nm, .int .i64 A, .slice b n cb] 86); rw [e1] at h; exact h) (fun b hb => Nat.le_of_eq (by rw [e1]; exact Eq.symm hb)))
 obtain ⟨B, hB⟩ : ∃ B, B = w.heap.size := ⟨_, rfl⟩
 rw [← hB] at HS ⊢
 clear hB
 obtain ⟨C, hC⟩ : ∃ C, C = B + 1 := ⟨_, rfl⟩
 rw [← hC] at HS ⊢
 clear hC
 generalize (w.alloc (.cells #[.string nm, .int .i64 A, .slice a n ca] 86)).alloc (.cells #[.string nm, .int .i64 A, .slice b n cb] 86) = w1 at *
 have h0 : w1.heap[B]? = some (.cells #[.string nm, .int .i64 A, .slice a n ca] 86 (0, 0)) := HS.out.get (k := 0) (by simp)
 have h1 : w1.heap[C]? = some (.cells #[.string nm, .int .i64 A, .slice b n cb] 86 (0, 0)) := HS.out.get (k := 1) (by simp)
 have c0 := cell_at (j := 0) h0 rfl; have c1 := cell_at (j := 1) h0 rfl; have c2 := cell_at (j := 2) h0 rfl
 have d0 := cell_at (j := 0) h1 rfl; have d1 := cell_at (j := 1) h1 rfl; have d2 := cell_at (j := 2) h1 rfl
 clear h0 h1
 have ha0 : (A == A) = true := by simp
 go_wp2_with fail
 clear c0 c1 c2 d0 d1 d2
 go_loopw [5, 6] (fun iv _ wr => ∃ i : Nat, iv = .int .i64 i ∧ i ≤ n ∧ Hid (Mod (fun _ => False) w1 wr)) (fun iv _ _ => n - (intOf iv).toNat)
 case atStart => exact ⟨0, rfl, Nat.zero_le _, Hi (Mod.refl _ _)⟩
 case round =>
  obtain ⟨i, rfl, hi, hM⟩ := hrel
  have HS2 := Hi (HS.out.mod0 hM.out)
  have c2 := cell_at (j := 2) (show wr.heap[B]? = some (.cells #[.string nm, .int .i64 A, .slice a n ca] 86 (0, 0)) from HS2.out.get (k := 0) (by simp)) rfl
  have d2 := cell_at (j := 2) (show wr.heap[C]? = some (.cells #[.string nm, .int .i64 A, .slice b n cb] 86 (0, 0)) from HS2.out.get (k := 1) (by simp)) rfl
  by_cases hlt : i < n
  ·have hil : i < rows.length := by have := HN.out; omega
   obtain ⟨b1, o1, x, xc, rfl, x0', hxr⟩ := row_get HX.out HM.out hil
   obtain ⟨b2, o2, y, yc, rfl, y0', hyr⟩ := row_get HY.out HM.out hil
   have x0 := HS2.out.md.cell x0' id
   have y0 := HS2.out.md.cell y0' id
   have hl := HM.out _ (List.getElem_mem hil)
   have HRL := Hi hl
   have HXR : Hid (Rd w x (sts rows[i])) := Hi hxr
   have HYR : Hid (Rd w y (sts rows[i])) := Hi hyr
   generalize rows[i] = row at *
   clear x0' y0' hxr hyr hil hl
   go_wp2_with fail
   refine wp_region_ord (fun w' => w'.cell? ⟨B, 2, none⟩ = some (.slice (some ⟨b1, o1, none⟩) n ca) ∧ w'.cell? ⟨C, 2, none⟩ = some (.slice (some ⟨b2, o2, none⟩) n cb) ∧ w'.cell? ⟨b1, o1 + i, none⟩ = some (.slice x m xc) ∧ w'.cell? ⟨b2, o2 + i, none⟩ = some (.slice y m yc)) [(0, 0), (1, 1), (0, 2), (0, 3), (1, 4), (0, 5), (0, 6), (1, 7), (0, 8), (0, 9), (1, 10), (0, 11), (0, 12)] (by kernel_rfl) (by kernel_rfl) ?_
   go_wp2_with (first
    |(refine ord_pure rfl rfl rfl (fun K hK => ?_); go_big_quiet_op; refine hK _ ?_; clear hK K)
    |(refine ord_held rfl rfl rfl (⟨c2, d2, x0, y0⟩) (fun K hK => ?_); apply Exists.intro; refine ⟨fun w' hs => ?_, hK _ ?_⟩; (revert hs; dsimp only; (try simp only [and_imp]); intros; go_simp; rfl); clear hK K)
    |(refine ord_nil ?_))
   have HC2 : Hid (wr.cell? ⟨B, 2, none⟩ = some (.slice (some ⟨b1, o1, none⟩) n ca) ∧ wr.cell? ⟨C, 2, none⟩ = some (.slice (some ⟨b2, o2, none⟩) n cb) ∧ wr.cell? ⟨b1, o1 + i, none⟩ = some (.slice x m xc) ∧ wr.cell? ⟨b2, o2 + i, none⟩ = some (.slice y m yc)) := Hi ⟨c2, d2, x0, y0⟩
   have HMW : Hid (Mod (fun _ => False) w wr) := Hi HS2.out.md
   have HM1 : Hid (Mod (fun _ => False) w1 wr) := Hi hM.out
   clear c2 d2 x0 y0 hM HS2
   rename World => wq
   go_loopw [6] (fun kv wr => ∃ k : Nat, kv = .int .i64 k ∧ k ≤ m ∧ Hid (Mod (fun _ => False) wq wr)) (fun kv _ => m - (intOf kv).toNat)
   case atStart => exact ⟨0, rfl, Nat.zero_le _, Hi (Mod.refl _ _).drew⟩
   case round =>
    obtain ⟨k, rfl, hk, hMk⟩ := hrel
    obtain ⟨q1, q2, q3, q4⟩ := HC2.out
    have c2 := hMk.out.cell q1 id; have d2 := hMk.out.cell q2 id; have x0 := hMk.out.cell q3 id; have y0 := hMk.out.cell q4 id
    clear q1 q2 q3 q4
    by_cases hkm : k < m
    ·have hkr : k < row.length := by rw [HRL.out]; exact hkm
     obtain ⟨b3, o3, rfl, s0⟩ := (HXR.out.mod (HMW.out.step hMk.out fun _ _ e => e) fun _ _ => id) k (.string row[k]) (by simp [sts, hkr])
     obtain ⟨b4, o4, rfl, t0⟩ := (HYR.out.mod (HMW.out.step hMk.out fun _ _ e => e) fun _ _ => id) k (.string row[k]) (by simp [sts, hkr])
     generalize row[k] = s at *
     clear hkr
     go_wp2_with fail
     refine wp_region_ord (fun w' => w'.cell? ⟨B, 2, none⟩ = some (.slice (some ⟨b1, o1, none⟩) n ca) ∧ w'.cell? ⟨C, 2, none⟩ = some (.slice (some ⟨b2, o2, none⟩) n cb) ∧ w'.cell? ⟨b1, o1 + i, none⟩ = some (.slice (some ⟨b3, o3, none⟩) m xc) ∧ w'.cell? ⟨b2, o2 + i, none⟩ = some (.slice (some ⟨b4, o4, none⟩) m yc) ∧ w'.cell? ⟨b3, o3 + k, none⟩ = some (.string s) ∧ w'.cell? ⟨b4, o4 + k, none⟩ = some (.string s)) [(0, 0), (1, 1), (0, 2), (0, 3), (1, 4), (0, 5), (0, 6), (1, 7), (0, 8), (1, 9), (0, 10), (0, 11), (1, 12), (0, 13), (0, 14), (1, 15), (0, 16)] (by kernel_rfl) (by kernel_rfl) ?_
     go_wp2_with (first
      |(refine ord_pure rfl rfl rfl (fun K hK => ?_); go_big_quiet_op; refine hK _ ?_; clear hK K)
      |(refine ord_held rfl rfl rfl (⟨c2, d2, x0, y0, s0, t0⟩) (fun K hK => ?_); apply Exists.intro; refine ⟨fun w' hs => ?_, hK _ ?_⟩; (revert hs; dsimp only; (try simp only [and_imp]); intros; go_simp; rfl); clear hK K)
      |(refine ord_nil ?_))
     go_roundw
     case rel => exact ⟨k + 1, by go_num, hkm, Hi hMk.out.drew⟩
     case measure => simp [intOf]; omega
    ·obtain rfl : m = k := by omega
     go_wp2_with fail
     go_roundw
     case rel => exact ⟨i + 1, by go_num, hlt, Hi (HM1.out.step hMk.out fun _ _ e => e)⟩
     case measure => simp [intOf]; omega
  ·obtain rfl : n = i := by omega
   go_wp2_with fail
   go_ret
   exact ⟨rfl, HS2.out.md⟩
end Go.Proofs.YtjoiaejbahdjkaaGreat
/-
  What Decode, Look and the document's Read answer: the same.
-/
namespace Go.Proofs.YtjoiaejbahdjkaaGreat
open Go Go.RowKit Go.Mine
set_option linter.unusedVariables false
structure Ans where
 nm : ByteArray
 A : Nat
 nr : Nat
 T : Nat
 d : Nat
 np : Nat
 k : Nat
 m : Nat
 rows : List (List ByteArray)
 ps : List Nat
structure AnsOk (R : Ans) : Prop where
 rl : R.rows.length = R.nr
 ml : ∀ r ∈ R.rows, r.length = R.m
 pl : R.ps.length = R.np
 mb : R.m ≤ 64
 nb : R.nr ≤ 65536
 pb : R.np ≤ 64
 e : R.k = 0 ∨ ((R.k = 3 ∨ R.k = 70 ∨ R.k = 71) ∧ R.nm = ⟨#[]⟩ ∧ R.A = 0 ∧ R.nr = 0)
def DecA (R : Ans) (w : World) (e : Ending) (w' : World) : Prop := ∃ ra rc hs, e = .returned (.tuple #[.agg #[.string R.nm, .int .i64 R.A, .slice ra R.nr rc], .int .i64 R.k]) ∧ LL (fun b => w.heap.size ≤ b) w w' 81 ra rc hs (R.rows.map sts)
def LkA (R : Ans) (w : World) (e : Ending) (w' : World) : Prop := ∃ pa pc, e = .returned (.tuple #[.agg #[.string R.nm, .int .i64 R.A, .int .i64 R.nr, .int .i64 R.T, .int .i64 R.d, .slice pa R.np pc], .int .i64 R.k]) ∧ Rd w' pa (ns R.ps) ∧ Mod (fun _ => False) w w'
def RdA (R : Ans) (w : World) (e : Ending) (w' : World) : Prop := ∃ ra rc hs pa pc, e = .returned (.tuple #[.agg #[.string R.nm, .int .i64 R.A, .slice ra R.nr rc], .agg #[.string R.nm, .int .i64 R.A, .int .i64 R.nr, .int .i64 R.T, .int .i64 R.d, .slice pa R.np pc], .int .i64 R.k]) ∧
 LL (fun b => w.heap.size ≤ b) w w' 81 ra rc hs (R.rows.map sts) ∧ Rd w' pa (ns R.ps)
theorem headF_vals (l : List UInt8) : headF l = 0 ∨ headF l = 3 ∨ headF l = 70 ∨ headF l = 71 := by
 unfold headF
 split
 ·simp
 ·split
  ·simp
  ·split
   ·simp
   ·split <;> simp
theorem answers (l : List UInt8) : ∃ R, AnsOk R ∧ (∀ w e w', DPost l w e w' → DecA R w e w') ∧ (∀ w e w', LkPost l w e w' → LkA R w e w') ∧ (∀ w e w', GPost l w e w' → RdA R w e w') := by
 by_cases hg : ∃ F, GoodF l F
 ·obtain ⟨F, hF⟩ := hg
  have K := hF.2.1.facts
  have nob : ∀ k, ¬ BadF l k := fun k hb => by
   rcases hb with ⟨h1, _⟩ | ⟨_, h1, _⟩
   ·exact h1 hF.1
   ·exact h1 F hF.2.1 hF.2.2
  refine ⟨⟨⟨F.nm.toArray⟩, F.A, F.n, F.ts.length, F.d, F.A, 0, F.A, rowsF F.ts F.cs F.n, F.ps⟩, ⟨rowsF_length _ _ _, fun r hr => ?_, by rw [K.ps, List.length_map]; exact K.len, hF.2.1.arl, hF.2.1.nrl, hF.2.1.arl, .inl rfl⟩, fun w e w' h => ?_, fun w e w' h => ?_, fun w e w' h => ?_⟩
  ·obtain ⟨i, _, rfl⟩ := List.mem_map.1 hr
   rw [rowF_len, K.len]
  ·rcases h.1 with ⟨k, hb, _⟩ | ⟨G, ra, rc, hG, he, hs, hL⟩
   ·exact absurd hb (nob k)
   ·obtain rfl := hG.2.1.same hF.2.1
    exact ⟨ra, rc, hs, he, hL⟩
  ·rcases h.1 with ⟨k, hb, _⟩ | ⟨G, pa, pc, hG, he, hp⟩
   ·exact absurd hb (nob k)
   ·obtain rfl := hG.2.1.same hF.2.1
    exact ⟨pa, pc, he, hp, h.2⟩
  ·rcases h.1 with ⟨k, hb, _⟩ | ⟨G, ra, rc, pa, pc, hG, he, ⟨hs, hL⟩, hp, _⟩
   ·exact absurd hb (nob k)
   ·obtain rfl := hG.2.1.same hF.2.1
    exact ⟨ra, rc, hs, pa, pc, he, hL, hp⟩
 ·obtain ⟨k, hk⟩ : ∃ k, k = if headF l = 0 then 70 else headF l := ⟨_, rfl⟩
  have hdet : ∀ k', BadF l k' → k' = k := fun k' hb => by
   rcases hb with ⟨h1, h2⟩ | ⟨h1, _, h2⟩
   ·rw [hk, if_neg h1]; exact h2
   ·rw [hk, if_pos h1]; exact h2
  have hkv : k = 3 ∨ k = 70 ∨ k = 71 := by
   rw [hk]
   split
   ·simp
   ·rcases headF_vals l with h | h | h | h
    ·exact absurd h ‹_›
    ·exact .inl h
    ·exact .inr (.inl h)
    ·exact .inr (.inr h)
  refine ⟨⟨⟨#[]⟩, 0, 0, 0, 0, 0, k, 0, [], []⟩, ⟨rfl, (fun r hr => by cases hr), rfl, Nat.zero_le _, Nat.zero_le _, Nat.zero_le _, .inr ⟨hkv, rfl, rfl, rfl⟩⟩, fun w e w' h => ?_, fun w e w' h => ?_, fun w e w' h => ?_⟩
  ·rcases h.1 with ⟨k', hb, he⟩ | ⟨G, ra, rc, hG, _⟩
   ·obtain rfl := hdet k' hb
    exact ⟨none, 0, [], he, (LL.nil _ _ w).mod0 h.2⟩
   ·exact absurd ⟨G, hG⟩ hg
  ·rcases h.1 with ⟨k', hb, he⟩ | ⟨G, pa, pc, hG, _⟩
   ·obtain rfl := hdet k' hb
    exact ⟨none, 0, he, Rd.nil _ _, h.2⟩
   ·exact absurd ⟨G, hG⟩ hg
  ·rcases h.1 with ⟨k', hb, he⟩ | ⟨G, ra, rc, pa, pc, hG, _⟩
   ·obtain rfl := hdet k' hb
    exact ⟨none, 0, [], none, 0, he, (LL.nil _ _ w).mod0 h.2, Rd.nil _ _⟩
   ·exact absurd ⟨G, hG⟩ hg
end Go.Proofs.YtjoiaejbahdjkaaGreat
/-
  The relation of a name: both sides.
-/
namespace Go.Proofs.YtjoiaejbahdjkaaGreat
open Go Go.RowKit Go.Mine Go.Maps
set_option linter.unusedVariables false
set_option maxHeartbeats 8000000
set_option maxRecDepth 100000
noncomputable def ansOf (f : List UInt8) : Ans := (answers f).choose
theorem ansOf_ok (f : List UInt8) : AnsOk (ansOf f) := (answers f).choose_spec.1
theorem ansOf_dec {f : List UInt8} {w : World} {e : Ending} {w' : World} (h : DPost f w e w') : DecA (ansOf f) w e w' := (answers f).choose_spec.2.1 w e w' h
noncomputable def relO (l : Arc) (x : ByteArray) : Ans := match getA l x with
 | none => ⟨⟨#[]⟩, 0, 0, 0, 0, 0, 0, 0, [], []⟩
 | some f => ansOf f
theorem relO_ok (l : Arc) (x : ByteArray) : AnsOk (relO l x) := by
 unfold relO
 split
 ·exact ⟨rfl, (fun r hr => by cases hr), rfl, Nat.zero_le _, Nat.zero_le _, Nat.zero_le _, .inl rfl⟩
 ·exact ansOf_ok _
def RelP (R : Ans) (ok : Bool) (w : World) (e : Ending) (w' : World) : Prop :=
 ∃ ra rc hs, e = .returned (.tuple #[.agg #[.string R.nm, .int .i64 R.A, .slice ra R.nr rc], .bool ok]) ∧ LL (fun b => w.heap.size ≤ b) w w' 81 ra rc hs (R.rows.map sts)
theorem relation26P_any (p : Nat) (mb : Option Nat) (l : Ens) (x : ByteArray) (w : World) (h : AAt w p mb l) (hx : x.size ≤ maxLen) (hl : ∀ q ∈ l, q.2.f.length < 2 ^ 38) :
 Calls Tryz.prog 76 #[.pointer (some ⟨p, 0, none⟩), .string x] w (RelP (relO (arcOf l) x) (getA (arcOf l) x).isSome w) := by
 have HS0 : Hid (RS w (w.alloc (.cells #[.string ⟨#[]⟩, .int .i64 0, .slice none 0 0] 86)) [boxI w.heap.size #[.string ⟨#[]⟩, .int .i64 0, .slice none 0 0] 86]) := Hi (by
  have h0 : RS w w [] := ⟨Fam.nil (Nat.le_refl _), Mod.refl _ _⟩
  exact h0.push (i' := boxI w.heap.size #[.string ⟨#[]⟩, .int .i64 0, .slice none 0 0] 86) ((Mod.refl _ w).alloc _) (heap_alloc_new w _) (fun b hb => Nat.le_of_eq (Eq.symm hb)))
 have HFI := Hi (file26_any p mb l x _ (h.mod0 HS0.out.md) hx hl)
 have HLE : Hid ((fileO (arcOf l) x).length < 2 ^ 38) := Hi (by
  unfold fileO
  rw [getA_arc]
  cases hg : getA l x with
  | none => simp
  | some e => exact hl _ (getA_some hg))
 clear h hl
 go_enter Tryz.func76, Tryz.ntmps76
 go_wp2_with fail
 obtain ⟨B, hB⟩ : ∃ B, B = w.heap.size := ⟨_, rfl⟩
 rw [← hB] at HS0 ⊢
 have HB := Hi hB
 have HZ : Hid ((w.alloc (.cells #[.string ⟨#[]⟩, .int .i64 0, .slice none 0 0] 86)).heap.size = B + 1) := Hi (by rw [hB]; simp)
 clear hB
 generalize w.alloc (.cells #[.string ⟨#[]⟩, .int .i64 0, .slice none 0 0] 86) = w0 at *
 refine HFI.out.mono ?_
 clear HFI
 rintro e w1 ⟨a1, rfl, hW, hF, hm⟩
 have HS1 := Hi (HS0.out.mod0 hm)
 cases hg : getA (arcOf l) x with
 | none =>
   simp only [Option.isSome_none]
   have HG := Hi hg
   clear hW hF hm hg
   have h0 : w1.heap[B]? = some (.cells #[.string ⟨#[]⟩, .int .i64 0, .slice none 0 0] 86 (0, 0)) := HS1.out.get (k := 0) (by simp)
   have pc0 := cell_at (j := 0) h0 rfl; have pf0 := frozen_at (j := 0) h0; have pc1 := cell_at (j := 1) h0 rfl; have pf1 := frozen_at (j := 1) h0; have pc2 := cell_at (j := 2) h0 rfl; have pf2 := frozen_at (j := 2) h0
   clear h0
   go_wp2_with fail
   have HS2 : Hid (RS w (((w1.setCell ⟨B, 0, none⟩ (.string ⟨#[]⟩)).setCell ⟨B, 1, none⟩ (.int .i64 0)).setCell ⟨B, 2, none⟩ (.slice none 0 0)) [boxI B #[.string ⟨#[]⟩, .int .i64 0, .slice none 0 0] 86]) := Hi (RS.cell (RS.cell (RS.cell HS1.out (k := 0) (by simp) rfl 0 (.string ⟨#[]⟩)) (k := 0) (by simp) rfl 1 (.int .i64 0)) (k := 0) (by simp) rfl 2 (.slice none 0 0))
   clear pc0 pf0 pc1 pf1 pc2 pf2
   generalize ((w1.setCell ⟨B, 0, none⟩ (.string ⟨#[]⟩)).setCell ⟨B, 1, none⟩ (.int .i64 0)).setCell ⟨B, 2, none⟩ (.slice none 0 0) = w3 at *
   have h0 : w3.heap[B]? = some (.cells #[.string ⟨#[]⟩, .int .i64 0, .slice none 0 0] 86 (0, 0)) := HS2.out.get (k := 0) (by simp)
   have pc0 := cell_at (j := 0) h0 rfl; have pc1 := cell_at (j := 1) h0 rfl; have pc2 := cell_at (j := 2) h0 rfl
   have hlast : RelP (relO (arcOf l) x) (getA (arcOf l) x).isSome w (.returned (.tuple #[.agg #[.string ⟨#[]⟩, .int .i64 0, .slice none 0 0], .bool false])) w3 := ⟨none, 0, [], by unfold relO; rw [HG.out]; rfl, by unfold relO; rw [HG.out]; exact (LL.nil _ _ w).mod0 HS2.out.md⟩
   refine bodyPost_ret (v := .tuple #[.agg #[.string ⟨#[]⟩, .int .i64 0, .slice none 0 0], .bool false]) ?_ rfl hlast
   clear hlast
   simp [results, Tryz.results76, go_sem, pc0, pc1, pc2]
 | some f =>
   have hfo : fileO (arcOf l) x = f := by unfold fileO; rw [hg]; rfl
   rw [hfo] at hW ⊢
   rw [hfo] at HLE
   have HG := Hi hg
   have HDE := Hi (decodeF_any a1 f.length f w1 hW.rd (Nat.le_refl _) (by have := HLE.out; omega))
   have HM01 := Hi hm
   clear hW hF hm hg hfo HLE
   simp only [Option.isSome_some]
   go_wp2_with fail
   refine HDE.out.mono ?_
   clear HDE
   intro e w2 hD
   obtain ⟨ra, rc, hs, rfl, hL⟩ := ansOf_dec hD
   have HRO : Hid (relO (arcOf l) x = ansOf f) := Hi (by unfold relO; rw [HG.out])
   have HL := Hi hL
   have HMC : Hid (Mine.Mod (fun _ => False) w w1) := Hi HS1.out.md
   have HS1' := Hi (HS1.out.mod0 hL.md)
   have HBL : Hid (w.heap.size ≤ B ∧ B < w1.heap.size) := Hi (by have h1 := HB.out; have h2 := HZ.out; have h3 := HM01.out.size; omega)
   clear hD hL HS1
   have HS1 := HS1'
   clear HS1'
   obtain ⟨nm, A, nr, T, d, np, k, m, rows, ps, hR⟩ : ∃ nm A nr T d np k m rows ps, ansOf f = ⟨nm, A, nr, T, d, np, k, m, rows, ps⟩ := ⟨_, _, _, _, _, _, _, _, _, _, rfl⟩
   rw [hR] at HL HRO ⊢
   have HRE : Hid (Ending.returned (.tuple #[.agg #[.string nm, .int .i64 A, .slice ra nr rc], .bool true]) = Ending.returned (.tuple #[.agg #[.string (relO (arcOf l) x).nm, .int .i64 (relO (arcOf l) x).A, .slice ra (relO (arcOf l) x).nr rc], .bool (getA (arcOf l) x).isSome])) := Hi (by rw [HRO.out, HG.out]; rfl)
   clear hR
   simp only
   have hb := Hi (HS1.out.mod0 ((Mod.refl _ w2).alloc (.cells #[.string nm, .int .i64 A, .slice ra nr rc] 86)))
   have h0 : (w2.alloc (.cells #[.string nm, .int .i64 A, .slice ra nr rc] 86)).heap[B]? = some (.cells #[.string ⟨#[]⟩, .int .i64 0, .slice none 0 0] 86 (0, 0)) := hb.out.get (k := 0) (by simp)
   have pc0 := cell_at (j := 0) h0 rfl; have pf0 := frozen_at (j := 0) h0; have pc1 := cell_at (j := 1) h0 rfl; have pf1 := frozen_at (j := 1) h0; have pc2 := cell_at (j := 2) h0 rfl; have pf2 := frozen_at (j := 2) h0
   clear h0 hb
   go_wp2_with fail
   have HS2 : Hid (RS w ((((w2.alloc (.cells #[.string nm, .int .i64 A, .slice ra nr rc] 86)).setCell ⟨B, 0, none⟩ (.string nm)).setCell ⟨B, 1, none⟩ (.int .i64 A)).setCell ⟨B, 2, none⟩ (.slice ra nr rc)) [boxI B #[.string nm, .int .i64 A, .slice ra nr rc] 86]) := Hi (RS.cell (RS.cell (RS.cell (HS1.out.mod0 ((Mod.refl _ w2).alloc (.cells #[.string nm, .int .i64 A, .slice ra nr rc] 86))) (k := 0) (by simp) rfl 0 (.string nm)) (k := 0) (by simp) rfl 1 (.int .i64 A)) (k := 0) (by simp) rfl 2 (.slice ra nr rc))
   have HM2 : Hid (Mine.Mod (fun b => b = B) w2 ((((w2.alloc (.cells #[.string nm, .int .i64 A, .slice ra nr rc] 86)).setCell ⟨B, 0, none⟩ (.string nm)).setCell ⟨B, 1, none⟩ (.int .i64 A)).setCell ⟨B, 2, none⟩ (.slice ra nr rc))) := Hi (((((Mod.refl (fun b => b = B) w2).alloc (.cells #[.string nm, .int .i64 A, .slice ra nr rc] 86)).setCell (p := ⟨B, 0, none⟩) (fun _ => rfl) (.string nm)).setCell (p := ⟨B, 1, none⟩) (fun _ => rfl) (.int .i64 A)).setCell (p := ⟨B, 2, none⟩) (fun _ => rfl) (.slice ra nr rc))
   clear pc0 pf0 pc1 pf1 pc2 pf2
   generalize (((w2.alloc (.cells #[.string nm, .int .i64 A, .slice ra nr rc] 86)).setCell ⟨B, 0, none⟩ (.string nm)).setCell ⟨B, 1, none⟩ (.int .i64 A)).setCell ⟨B, 2, none⟩ (.slice ra nr rc) = w3 at *
   have h0 : w3.heap[B]? = some (.cells #[.string nm, .int .i64 A, .slice ra nr rc] 86 (0, 0)) := HS2.out.get (k := 0) (by simp)
   have pc0 := cell_at (j := 0) h0 rfl; have pc1 := cell_at (j := 1) h0 rfl; have pc2 := cell_at (j := 2) h0 rfl
   have hlast : RelP (relO (arcOf l) x) (getA (arcOf l) x).isSome w (.returned (.tuple #[.agg #[.string nm, .int .i64 A, .slice ra nr rc], .bool true])) w3 := ⟨ra, rc, hs, HRE.out, by
    rw [HRO.out]
    exact HL.out.close HMC.out HM2.out (fun b hb => hb) (fun b hb => by have h1 := HBL.out; have h2 : b = B := hb; omega)⟩
   refine bodyPost_ret (v := .tuple #[.agg #[.string nm, .int .i64 A, .slice ra nr rc], .bool true]) ?_ rfl hlast
   clear hlast
   simp [results, Tryz.results76, go_sem, pc0, pc1, pc2]
theorem relation26R_any (p : Nat) (na fa : Option Addr) (nc fc : Nat) (l : Ens) (x : ByteArray) (w : World) (h : RAt w p na nc fa fc l) (hn : l.length < 2 ^ 37) (hu : UpA l) (hcap : ∀ q ∈ l, q.2.f.length ≤ q.2.c ∧ q.2.f.length < 2 ^ 40) :
 Calls Tryz.prog 77 #[.pointer (some ⟨p, 0, none⟩), .string x] w (RelP (relO (arcOf l) x) (getA (arcOf l) x).isSome w) := by
 have HS0 : Hid (RS w (w.alloc (.cells #[.string ⟨#[]⟩, .int .i64 0, .slice none 0 0] 86)) [boxI w.heap.size #[.string ⟨#[]⟩, .int .i64 0, .slice none 0 0] 86]) := Hi (by
  have h0 : RS w w [] := ⟨Fam.nil (Nat.le_refl _), Mod.refl _ _⟩
  exact h0.push (i' := boxI w.heap.size #[.string ⟨#[]⟩, .int .i64 0, .slice none 0 0] 86) ((Mod.refl _ w).alloc _) (heap_alloc_new w _) (fun b hb => Nat.le_of_eq (Eq.symm hb)))
 have H := Hi (h.mod0 HS0.out.md)
 have HFI := Hi (find26_any p na fa nc fc l x _ H.out hn)
 have HCP := Hi hcap
 clear h hcap
 go_enter Tryz.func77, Tryz.ntmps77
 go_wp2_with fail
 obtain ⟨B, hB⟩ : ∃ B, B = w.heap.size := ⟨_, rfl⟩
 rw [← hB] at HS0 ⊢
 have HB := Hi hB
 have HZ : Hid ((w.alloc (.cells #[.string ⟨#[]⟩, .int .i64 0, .slice none 0 0] 86)).heap.size = B + 1) := Hi (by rw [hB]; simp)
 clear hB
 generalize w.alloc (.cells #[.string ⟨#[]⟩, .int .i64 0, .slice none 0 0] 86) = w0 at *
 refine HFI.out.mono ?_
 clear HFI
 rintro e w1 ⟨k, rfl, hk, hm⟩
 have HS1 := Hi (HS0.out.mod0 hm)
 rcases hk with ⟨rfl, hno⟩ | ⟨j, hj, rfl, hjx⟩
 ·have hg : getA (arcOf l) x = none := by rw [getA_arc, getA_none hno]; rfl
  have HG := Hi hg
  clear hno hg hm
  have h0 : w1.heap[B]? = some (.cells #[.string ⟨#[]⟩, .int .i64 0, .slice none 0 0] 86 (0, 0)) := HS1.out.get (k := 0) (by simp)
  have pc0 := cell_at (j := 0) h0 rfl; have pf0 := frozen_at (j := 0) h0; have pc1 := cell_at (j := 1) h0 rfl; have pf1 := frozen_at (j := 1) h0; have pc2 := cell_at (j := 2) h0 rfl; have pf2 := frozen_at (j := 2) h0
  clear h0
  go_wp2_with fail
  have HS2 : Hid (RS w (((w1.setCell ⟨B, 0, none⟩ (.string ⟨#[]⟩)).setCell ⟨B, 1, none⟩ (.int .i64 0)).setCell ⟨B, 2, none⟩ (.slice none 0 0)) [boxI B #[.string ⟨#[]⟩, .int .i64 0, .slice none 0 0] 86]) := Hi (RS.cell (RS.cell (RS.cell HS1.out (k := 0) (by simp) rfl 0 (.string ⟨#[]⟩)) (k := 0) (by simp) rfl 1 (.int .i64 0)) (k := 0) (by simp) rfl 2 (.slice none 0 0))
  clear pc0 pf0 pc1 pf1 pc2 pf2
  generalize ((w1.setCell ⟨B, 0, none⟩ (.string ⟨#[]⟩)).setCell ⟨B, 1, none⟩ (.int .i64 0)).setCell ⟨B, 2, none⟩ (.slice none 0 0) = w3 at *
  have h0 : w3.heap[B]? = some (.cells #[.string ⟨#[]⟩, .int .i64 0, .slice none 0 0] 86 (0, 0)) := HS2.out.get (k := 0) (by simp)
  have pc0 := cell_at (j := 0) h0 rfl; have pc1 := cell_at (j := 1) h0 rfl; have pc2 := cell_at (j := 2) h0 rfl
  have hlast : RelP (relO (arcOf l) x) (getA (arcOf l) x).isSome w (.returned (.tuple #[.agg #[.string ⟨#[]⟩, .int .i64 0, .slice none 0 0], .bool false])) w3 := ⟨none, 0, [], by unfold relO; rw [HG.out]; rfl, by unfold relO; rw [HG.out]; exact (LL.nil _ _ w).mod0 HS2.out.md⟩
  refine bodyPost_ret (v := .tuple #[.agg #[.string ⟨#[]⟩, .int .i64 0, .slice none 0 0], .bool false]) ?_ rfl hlast
  clear hlast
  simp [results, Tryz.results77, go_sem, pc0, pc1, pc2]
 ·have hg : getA (arcOf l) x = some l[j].2.f := by
   rw [getA_arc, ← hjx, getA_mem hu (List.getElem_mem hj)]; rfl
  have HG := Hi hg
  obtain ⟨b2, o2, rfl, f0⟩ := (H.out.mod0 hm).file hj
  have p1 := cell_at (j := 1) (hm.at H.out.box id) rfl
  obtain ⟨hf, hr⟩ := (H.out.mod0 hm).ents _ (List.getElem_mem hj)
  obtain ⟨hc1, hc2⟩ := HCP.out _ (List.getElem_mem hj)
  generalize l[j].2.f = f at *
  generalize l[j].2.g = g at *
  generalize l[j].2.c = c at *
  have e0 : decide ((j : Int) < 0) = false := decide_eq_false (by omega)
  have HDE := Hi (decodeR7_any (some ⟨g, 0, none⟩) c f w1 hr hc1 hc2)
  have HM01 := Hi hm
  clear hg hm hf hr hjx hc1 hc2
  go_wp2_with fail
  refine HDE.out.mono ?_
  clear HDE p1 f0 e0
  intro e w2 hD
  obtain ⟨ra, rc, hs, rfl, hL⟩ := ansOf_dec hD
  have HRO : Hid (relO (arcOf l) x = ansOf f) := Hi (by unfold relO; rw [HG.out])
  have HL := Hi hL
  have HMC : Hid (Mine.Mod (fun _ => False) w w1) := Hi HS1.out.md
  have HS1' := Hi (HS1.out.mod0 hL.md)
  have HBL : Hid (w.heap.size ≤ B ∧ B < w1.heap.size) := Hi (by have h1 := HB.out; have h2 := HZ.out; have h3 := HM01.out.size; omega)
  clear hD hL HS1
  have HS1 := HS1'
  clear HS1'
  obtain ⟨nm, A, nr, T, d, np, k, m, rows, ps, hR⟩ : ∃ nm A nr T d np k m rows ps, ansOf f = ⟨nm, A, nr, T, d, np, k, m, rows, ps⟩ := ⟨_, _, _, _, _, _, _, _, _, _, rfl⟩
  rw [hR] at HL HRO ⊢
  have HRE : Hid (Ending.returned (.tuple #[.agg #[.string nm, .int .i64 A, .slice ra nr rc], .bool true]) = Ending.returned (.tuple #[.agg #[.string (relO (arcOf l) x).nm, .int .i64 (relO (arcOf l) x).A, .slice ra (relO (arcOf l) x).nr rc], .bool (getA (arcOf l) x).isSome])) := Hi (by rw [HRO.out, HG.out]; rfl)
  clear hR
  simp only
  have hb := Hi (HS1.out.mod0 ((Mod.refl _ w2).alloc (.cells #[.string nm, .int .i64 A, .slice ra nr rc] 86)))
  have h0 : (w2.alloc (.cells #[.string nm, .int .i64 A, .slice ra nr rc] 86)).heap[B]? = some (.cells #[.string ⟨#[]⟩, .int .i64 0, .slice none 0 0] 86 (0, 0)) := hb.out.get (k := 0) (by simp)
  have pc0 := cell_at (j := 0) h0 rfl; have pf0 := frozen_at (j := 0) h0; have pc1 := cell_at (j := 1) h0 rfl; have pf1 := frozen_at (j := 1) h0; have pc2 := cell_at (j := 2) h0 rfl; have pf2 := frozen_at (j := 2) h0
  clear h0 hb
  go_wp2_with fail
  have HS2 : Hid (RS w ((((w2.alloc (.cells #[.string nm, .int .i64 A, .slice ra nr rc] 86)).setCell ⟨B, 0, none⟩ (.string nm)).setCell ⟨B, 1, none⟩ (.int .i64 A)).setCell ⟨B, 2, none⟩ (.slice ra nr rc)) [boxI B #[.string nm, .int .i64 A, .slice ra nr rc] 86]) := Hi (RS.cell (RS.cell (RS.cell (HS1.out.mod0 ((Mod.refl _ w2).alloc (.cells #[.string nm, .int .i64 A, .slice ra nr rc] 86))) (k := 0) (by simp) rfl 0 (.string nm)) (k := 0) (by simp) rfl 1 (.int .i64 A)) (k := 0) (by simp) rfl 2 (.slice ra nr rc))
  have HM2 : Hid (Mine.Mod (fun b => b = B) w2 ((((w2.alloc (.cells #[.string nm, .int .i64 A, .slice ra nr rc] 86)).setCell ⟨B, 0, none⟩ (.string nm)).setCell ⟨B, 1, none⟩ (.int .i64 A)).setCell ⟨B, 2, none⟩ (.slice ra nr rc))) := Hi (((((Mod.refl (fun b => b = B) w2).alloc (.cells #[.string nm, .int .i64 A, .slice ra nr rc] 86)).setCell (p := ⟨B, 0, none⟩) (fun _ => rfl) (.string nm)).setCell (p := ⟨B, 1, none⟩) (fun _ => rfl) (.int .i64 A)).setCell (p := ⟨B, 2, none⟩) (fun _ => rfl) (.slice ra nr rc))
  clear pc0 pf0 pc1 pf1 pc2 pf2
  generalize (((w2.alloc (.cells #[.string nm, .int .i64 A, .slice ra nr rc] 86)).setCell ⟨B, 0, none⟩ (.string nm)).setCell ⟨B, 1, none⟩ (.int .i64 A)).setCell ⟨B, 2, none⟩ (.slice ra nr rc) = w3 at *
  have h0 : w3.heap[B]? = some (.cells #[.string nm, .int .i64 A, .slice ra nr rc] 86 (0, 0)) := HS2.out.get (k := 0) (by simp)
  have pc0 := cell_at (j := 0) h0 rfl; have pc1 := cell_at (j := 1) h0 rfl; have pc2 := cell_at (j := 2) h0 rfl
  have hlast : RelP (relO (arcOf l) x) (getA (arcOf l) x).isSome w (.returned (.tuple #[.agg #[.string nm, .int .i64 A, .slice ra nr rc], .bool true])) w3 := ⟨ra, rc, hs, HRE.out, by
   rw [HRO.out]
   exact HL.out.close HMC.out HM2.out (fun b hb => hb) (fun b hb => by have h1 := HBL.out; have h2 : b = B := hb; omega)⟩
  refine bodyPost_ret (v := .tuple #[.agg #[.string nm, .int .i64 A, .slice ra nr rc], .bool true]) ?_ rfl hlast
  clear hlast
  simp [results, Tryz.results77, go_sem, pc0, pc1, pc2]
end Go.Proofs.YtjoiaejbahdjkaaGreat
