/-
  The document's Decode: walked.
-/
import Derived.Test.YtjoiaejbahdjkaaGreatDocJ
import Derived.Test.YtjoiaejbahdjkaaGreatFgC
import Derived.Test.YtjoiaejbahdjkaaGreatAgF
namespace Go.Proofs.YtjoiaejbahdjkaaGreat
open Go Go.RowKit Go.Mine
set_option linter.unusedVariables false
set_option maxHeartbeats 4000000
set_option maxRecDepth 100000
theorem decodeR7_any (a : Option Addr) (c : Nat) (l : List UInt8) (w : World) (hr : Rd w a (bts l)) (hc : l.length ≤ c) (hl : l.length < 2 ^ 40) :
 Calls Tryz.prog 44 #[.slice a l.length c] w (DPost l w) := by
 have HR := Hi hr
 clear hr
 have HS0 : Hid (RS w (w.alloc (.cells #[.string ⟨#[]⟩, .int .i64 0, .slice none 0 0] 86)) [boxI w.heap.size #[.string ⟨#[]⟩, .int .i64 0, .slice none 0 0] 86]) := Hi (by
  have h0 : RS w w [] := ⟨Fam.nil (Nat.le_refl _), Mod.refl _ _⟩
  exact h0.push (i' := boxI w.heap.size #[.string ⟨#[]⟩, .int .i64 0, .slice none 0 0] 86) ((Mod.refl _ w).alloc (.cells #[.string ⟨#[]⟩, .int .i64 0, .slice none 0 0] 86)) (heap_alloc_new w _) (fun b hb => Nat.le_of_eq (Eq.symm hb)))
 have HZ : Hid ((w.alloc (.cells #[.string ⟨#[]⟩, .int .i64 0, .slice none 0 0] 86)).heap.size = w.heap.size + 1) := Hi (by simp)
 go_enter Tryz.func44, Tryz.ntmps44
 go_wp2_with fail
 obtain ⟨B, hB⟩ : ∃ B, B = w.heap.size := ⟨_, rfl⟩
 rw [← hB] at HS0 HZ ⊢
 have HB := Hi hB
 clear hB
 generalize w.alloc (.cells #[.string ⟨#[]⟩, .int .i64 0, .slice none 0 0] 86) = w0 at *
 refine (refRead7_any a c l w0 (HR.out.mod HS0.out.md fun _ _ => id) hc hl).mono ?_
 rintro e w1 ⟨(⟨k, hbad, rfl⟩ | ⟨F, ra, rc, pa, pc, hgood, rfl, hrows, hpg, hpl⟩), hm⟩
 ·have HBA := Hi hbad
  have HS1 := Hi (HS0.out.mod0 hm)
  clear hbad hm
  have hb := Hi (HS1.out.mod0 (((Mod.refl _ w1).alloc (.cells #[.string ⟨#[]⟩, .int .i64 0, .slice none 0 0] 86)).alloc (.cells #[.string ⟨#[]⟩, .int .i64 0, .int .i64 0, .int .i64 0, .int .i64 0, .slice none 0 0] 120)))
  have h0 : ((w1.alloc (.cells #[.string ⟨#[]⟩, .int .i64 0, .slice none 0 0] 86)).alloc (.cells #[.string ⟨#[]⟩, .int .i64 0, .int .i64 0, .int .i64 0, .int .i64 0, .slice none 0 0] 120)).heap[B]? = some (.cells #[.string ⟨#[]⟩, .int .i64 0, .slice none 0 0] 86 (0, 0)) := hb.out.get (k := 0) (by simp)
  have pc0 := cell_at (j := 0) h0 rfl; have pf0 := frozen_at (j := 0) h0; have pc1 := cell_at (j := 1) h0 rfl; have pf1 := frozen_at (j := 1) h0; have pc2 := cell_at (j := 2) h0 rfl; have pf2 := frozen_at (j := 2) h0
  clear h0 hb
  go_wp2_with fail
  have HS2 : Hid (RS w (((((w1.alloc (.cells #[.string ⟨#[]⟩, .int .i64 0, .slice none 0 0] 86)).alloc (.cells #[.string ⟨#[]⟩, .int .i64 0, .int .i64 0, .int .i64 0, .int .i64 0, .slice none 0 0] 120)).setCell ⟨B, 0, none⟩ (.string ⟨#[]⟩)).setCell ⟨B, 1, none⟩ (.int .i64 0)).setCell ⟨B, 2, none⟩ (.slice none 0 0)) [boxI B #[.string ⟨#[]⟩, .int .i64 0, .slice none 0 0] 86]) := Hi (RS.cell (RS.cell (RS.cell (HS1.out.mod0 (((Mod.refl _ w1).alloc (.cells #[.string ⟨#[]⟩, .int .i64 0, .slice none 0 0] 86)).alloc (.cells #[.string ⟨#[]⟩, .int .i64 0, .int .i64 0, .int .i64 0, .int .i64 0, .slice none 0 0] 120))) (k := 0) (by simp) rfl 0 (.string ⟨#[]⟩)) (k := 0) (by simp) rfl 1 (.int .i64 0)) (k := 0) (by simp) rfl 2 (.slice none 0 0))
  have HM2 : Hid (Mod (fun b => b = B) w1 (((((w1.alloc (.cells #[.string ⟨#[]⟩, .int .i64 0, .slice none 0 0] 86)).alloc (.cells #[.string ⟨#[]⟩, .int .i64 0, .int .i64 0, .int .i64 0, .int .i64 0, .slice none 0 0] 120)).setCell ⟨B, 0, none⟩ (.string ⟨#[]⟩)).setCell ⟨B, 1, none⟩ (.int .i64 0)).setCell ⟨B, 2, none⟩ (.slice none 0 0))) := Hi ((((((Mod.refl (fun b => b = B) w1).alloc (.cells #[.string ⟨#[]⟩, .int .i64 0, .slice none 0 0] 86)).alloc (.cells #[.string ⟨#[]⟩, .int .i64 0, .int .i64 0, .int .i64 0, .int .i64 0, .slice none 0 0] 120)).setCell (p := ⟨B, 0, none⟩) (fun _ => rfl) (.string ⟨#[]⟩)).setCell (p := ⟨B, 1, none⟩) (fun _ => rfl) (.int .i64 0)).setCell (p := ⟨B, 2, none⟩) (fun _ => rfl) (.slice none 0 0))
  clear pc0 pf0 pc1 pf1 pc2 pf2
  generalize ((((w1.alloc (.cells #[.string ⟨#[]⟩, .int .i64 0, .slice none 0 0] 86)).alloc (.cells #[.string ⟨#[]⟩, .int .i64 0, .int .i64 0, .int .i64 0, .int .i64 0, .slice none 0 0] 120)).setCell ⟨B, 0, none⟩ (.string ⟨#[]⟩)).setCell ⟨B, 1, none⟩ (.int .i64 0)).setCell ⟨B, 2, none⟩ (.slice none 0 0) = w2 at *
  have h0 : w2.heap[B]? = some (.cells #[.string ⟨#[]⟩, .int .i64 0, .slice none 0 0] 86 (0, 0)) := HS2.out.get (k := 0) (by simp)
  have pc0 := cell_at (j := 0) h0 rfl; have pf0 := frozen_at (j := 0) h0; have pc1 := cell_at (j := 1) h0 rfl; have pf1 := frozen_at (j := 1) h0; have pc2 := cell_at (j := 2) h0 rfl; have pf2 := frozen_at (j := 2) h0
  have hlast : DPost l w (.returned (.tuple #[.agg #[.string ⟨#[]⟩, .int .i64 0, .slice none 0 0], .int .i64 k])) w2 := ⟨.inl ⟨k, HBA.out, rfl⟩, HS2.out.md⟩
  refine bodyPost_ret (v := .tuple #[.agg #[.string ⟨#[]⟩, .int .i64 0, .slice none 0 0], .int .i64 k]) ?_ rfl hlast
  clear hlast
  simp [results, Tryz.results44, go_sem, pc0, pc1, pc2]
 ·have HGO := Hi hgood
  have HRO := Hi hrows
  have HPG := Hi hpg
  have HPL := Hi hpl
  have HS1 := Hi (HS0.out.mod0 hm)
  have HW0 := Hi HS0.out.md
  clear hgood hrows hpg hpl hm
  simp only [relV, statV]
  have hb := Hi (HS1.out.mod0 (((Mod.refl _ w1).alloc (.cells #[.string ⟨F.nm.toArray⟩, .int .i64 F.A, .slice ra F.n rc] 86)).alloc (.cells #[.string ⟨F.nm.toArray⟩, .int .i64 F.A, .int .i64 F.n, .int .i64 F.ts.length, .int .i64 F.d, .slice pa F.A pc] 120)))
  have h0 : ((w1.alloc (.cells #[.string ⟨F.nm.toArray⟩, .int .i64 F.A, .slice ra F.n rc] 86)).alloc (.cells #[.string ⟨F.nm.toArray⟩, .int .i64 F.A, .int .i64 F.n, .int .i64 F.ts.length, .int .i64 F.d, .slice pa F.A pc] 120)).heap[B]? = some (.cells #[.string ⟨#[]⟩, .int .i64 0, .slice none 0 0] 86 (0, 0)) := hb.out.get (k := 0) (by simp)
  have pc0 := cell_at (j := 0) h0 rfl; have pf0 := frozen_at (j := 0) h0; have pc1 := cell_at (j := 1) h0 rfl; have pf1 := frozen_at (j := 1) h0; have pc2 := cell_at (j := 2) h0 rfl; have pf2 := frozen_at (j := 2) h0
  clear h0 hb
  go_wp2_with fail
  have HS2 : Hid (RS w (((((w1.alloc (.cells #[.string ⟨F.nm.toArray⟩, .int .i64 F.A, .slice ra F.n rc] 86)).alloc (.cells #[.string ⟨F.nm.toArray⟩, .int .i64 F.A, .int .i64 F.n, .int .i64 F.ts.length, .int .i64 F.d, .slice pa F.A pc] 120)).setCell ⟨B, 0, none⟩ (.string ⟨F.nm.toArray⟩)).setCell ⟨B, 1, none⟩ (.int .i64 F.A)).setCell ⟨B, 2, none⟩ (.slice ra F.n rc)) [boxI B #[.string ⟨F.nm.toArray⟩, .int .i64 F.A, .slice ra F.n rc] 86]) := Hi (RS.cell (RS.cell (RS.cell (HS1.out.mod0 (((Mod.refl _ w1).alloc (.cells #[.string ⟨F.nm.toArray⟩, .int .i64 F.A, .slice ra F.n rc] 86)).alloc (.cells #[.string ⟨F.nm.toArray⟩, .int .i64 F.A, .int .i64 F.n, .int .i64 F.ts.length, .int .i64 F.d, .slice pa F.A pc] 120))) (k := 0) (by simp) rfl 0 (.string ⟨F.nm.toArray⟩)) (k := 0) (by simp) rfl 1 (.int .i64 F.A)) (k := 0) (by simp) rfl 2 (.slice ra F.n rc))
  have HM2 : Hid (Mod (fun b => b = B) w1 (((((w1.alloc (.cells #[.string ⟨F.nm.toArray⟩, .int .i64 F.A, .slice ra F.n rc] 86)).alloc (.cells #[.string ⟨F.nm.toArray⟩, .int .i64 F.A, .int .i64 F.n, .int .i64 F.ts.length, .int .i64 F.d, .slice pa F.A pc] 120)).setCell ⟨B, 0, none⟩ (.string ⟨F.nm.toArray⟩)).setCell ⟨B, 1, none⟩ (.int .i64 F.A)).setCell ⟨B, 2, none⟩ (.slice ra F.n rc))) := Hi ((((((Mod.refl (fun b => b = B) w1).alloc (.cells #[.string ⟨F.nm.toArray⟩, .int .i64 F.A, .slice ra F.n rc] 86)).alloc (.cells #[.string ⟨F.nm.toArray⟩, .int .i64 F.A, .int .i64 F.n, .int .i64 F.ts.length, .int .i64 F.d, .slice pa F.A pc] 120)).setCell (p := ⟨B, 0, none⟩) (fun _ => rfl) (.string ⟨F.nm.toArray⟩)).setCell (p := ⟨B, 1, none⟩) (fun _ => rfl) (.int .i64 F.A)).setCell (p := ⟨B, 2, none⟩) (fun _ => rfl) (.slice ra F.n rc))
  clear pc0 pf0 pc1 pf1 pc2 pf2
  generalize ((((w1.alloc (.cells #[.string ⟨F.nm.toArray⟩, .int .i64 F.A, .slice ra F.n rc] 86)).alloc (.cells #[.string ⟨F.nm.toArray⟩, .int .i64 F.A, .int .i64 F.n, .int .i64 F.ts.length, .int .i64 F.d, .slice pa F.A pc] 120)).setCell ⟨B, 0, none⟩ (.string ⟨F.nm.toArray⟩)).setCell ⟨B, 1, none⟩ (.int .i64 F.A)).setCell ⟨B, 2, none⟩ (.slice ra F.n rc) = w2 at *
  have h0 : w2.heap[B]? = some (.cells #[.string ⟨F.nm.toArray⟩, .int .i64 F.A, .slice ra F.n rc] 86 (0, 0)) := HS2.out.get (k := 0) (by simp)
  have pc0 := cell_at (j := 0) h0 rfl; have pf0 := frozen_at (j := 0) h0; have pc1 := cell_at (j := 1) h0 rfl; have pf1 := frozen_at (j := 1) h0; have pc2 := cell_at (j := 2) h0 rfl; have pf2 := frozen_at (j := 2) h0
  have hlast : DPost l w (.returned (.tuple #[.agg #[.string ⟨F.nm.toArray⟩, .int .i64 F.A, .slice ra F.n rc], .int .i64 0])) w2 := ⟨.inr ⟨F, ra, rc, HGO.out, rfl, by
   obtain ⟨hs, h⟩ := HRO.out
   exact ⟨hs, h.close HW0.out HM2.out (fun b hb => hb) (fun b hb => by have h1 := HB.out; have h2 := HZ.out; omega)⟩⟩, HS2.out.md⟩
  refine bodyPost_ret (v := .tuple #[.agg #[.string ⟨F.nm.toArray⟩, .int .i64 F.A, .slice ra F.n rc], .int .i64 0]) ?_ rfl hlast
  clear hlast
  simp [results, Tryz.results44, go_sem, pc0, pc1, pc2]
end Go.Proofs.YtjoiaejbahdjkaaGreat
/-
  The document's Put.
-/
namespace Go.Proofs.YtjoiaejbahdjkaaGreat
open Go Go.RowKit Go.Mine
set_option linter.unusedVariables false
set_option maxHeartbeats 8000000
set_option maxRecDepth 100000
theorem arcOf_with (l : Ens) (hu : UpA l) (x : ByteArray) (e : En) : arcOf (withGo x e false l) = putA (arcOf l) x e.f := by rw [withGo_put hu, arcOf_put]
theorem up_of {m : Nat} {l : Ens} (h : ArcOk m (arcOf l)) : UpA l := by
 have h1 := h.up
 unfold UpA at h1 ⊢
 unfold arcOf at h1
 rw [List.map_map] at h1
 exact h1
theorem rbox_ne {w : World} {a : Option Addr} {f : List UInt8} {p n1 c1 n2 c2 : Nat} {x1 x2 : Option Addr} {t : TypeId} {fz : Nat × Nat} (h : Rd w a (bts f)) (hf : f ≠ []) (hp : w.heap[p]? = some (.cells #[.slice x1 n1 c1, .slice x2 n2 c2] t fz)) : ∀ b, blk a = some b → b ≠ p :=
 bytes_ne h hf hp fun j v hj n e2 => by
  subst e2
  match j with
  | 0 => cases hj
  | 1 => cases hj
  | _ + 2 => simp at hj
theorem putR26_any (p : Nat) (na fa : Option Addr) (nc fc : Nat) (l : Ens) (a : Option Addr) (c : Nat) (f : List UInt8) (w : World) (h : RAt w p na nc fa fc l) (hok : ArcOk 16777216 (arcOf l)) (hr : Rd w a (bts f)) (hc : f.length ≤ c) (hl : f.length < 2 ^ 40) :
 Calls Tryz.prog 18 #[.pointer (some ⟨p, 0, none⟩), .slice a f.length c] w fun e w' => ∃ na' nc' fa' fc' l', e = .returned (.int .i64 ((putS (arcOf l) f).1 : Nat)) ∧ arcOf l' = (putS (arcOf l) f).2 ∧ RAt w' p na' nc' fa' fc' l' ∧ (∀ q ∈ l', q ∈ l ∨ (w.heap.size ≤ q.2.g ∧ q.2.f.length ≤ q.2.c)) ∧ (∀ b, blk na' = some b → blk na = some b ∨ w.heap.size ≤ b) ∧ (∀ b, blk fa' = some b → blk fa = some b ∨ w.heap.size ≤ b) ∧ Mod (fun b => b = p) w w' := by
 have H := Hi h
 have HR := Hi hr
 have HOK := Hi hok
 have HDE := Hi (decodeR7_any a c f w hr hc hl)
 have hpw : p < w.heap.size := (Array.getElem?_eq_some_iff.1 h.box).1
 clear h hr hok
 go_enter Tryz.func18, Tryz.ntmps18
 go_wp2_with fail
 refine HDE.out.mono ?_
 clear HDE
 rintro e w1 ⟨⟨k, hbad, rfl⟩ | ⟨F, ra, rc, hgood, rfl, _⟩, hm⟩
 ·obtain ⟨hd, hk⟩ := decA_bad hbad
  have HD := Hi hd
  have HM := Hi hm
  clear hbad hd hm
  have e1 : ((k : Int) != 0) = true := by simp; omega
  go_wp2_with fail
  go_ret
  have hs : putS (arcOf l) f = (k, arcOf l) := by unfold putS; rw [HD.out]
  have hM : Mod (fun _ => False) w _ := HM.out.alloc (.cells #[.string ⟨#[]⟩, .int .i64 0, .slice none 0 0] 86)
  exact ⟨na, nc, fa, fc, l, by rw [hs]; rfl, by rw [hs], H.out.mod0 hM, fun q hq => .inl hq, fun b hb => .inl hb, fun b hb => .inl hb, hM.mono fun _ _ e => e.elim⟩
 ·have HD := Hi (decA_good hgood)
  have HM := Hi hm
  clear hgood hm
  simp only [relV]
  obtain ⟨x, hx⟩ : ∃ x : ByteArray, x = ⟨F.nm.toArray⟩ := ⟨_, rfl⟩
  rw [← hx] at HD ⊢
  clear hx
  have HFO := Hi (decA_ok HD.out)
  have HM2 : Hid (Mod (fun _ => False) w (w1.alloc (.cells #[.string x, .int .i64 F.A, .slice ra F.n rc] 86))) := Hi (HM.out.alloc _)
  have HBX2 : Hid ((w1.alloc (.cells #[.string x, .int .i64 F.A, .slice ra F.n rc] 86)).heap[w1.heap.size]? = some (.cells #[.string x, .int .i64 F.A, .slice ra F.n rc] 86 (0, 0))) := Hi (heap_alloc_new w1 _)
  go_upto_region 7 with fail
  obtain ⟨r, hr⟩ : ∃ r, r = w1.heap.size := ⟨_, rfl⟩
  rw [← hr] at HBX2 ⊢
  clear hr
  generalize w1.alloc (.cells #[.string x, .int .i64 F.A, .slice ra F.n rc] 86) = w2 at *
  have HR2 := Hi (HR.out.mod HM2.out fun _ _ => id)
  obtain ⟨m, hm⟩ : ∃ m, m = f.length := ⟨_, rfl⟩
  have HME := Hi hm
  rw [← hm] at hl hc ⊢
  clear hm
  go_wp2_with (first
   |(at_builtin; refine wpL_append0 rfl (.tmp 19) (.tmp 20) 23 23 rfl ti24 rfl rfl (Src.ofRd ti24.ht m c HR2.out (by rw [HME.out]; simp [bts]) (bts_one f)) (by omega) (by unfold maxLen; omega) ?_; intro a3 c3 w3 hO3 hM3 hF3 hz3
     obtain ⟨g3, rfl⟩ := hO3.atHead (by intro e0; have h1 := HFO.out.2.1; have h2 := HME.out; rw [e0] at h2; exact h1 (List.eq_nil_of_length_eq_zero h2.symm))
     have HC3 : Hid (m ≤ c3) := Hi (by
      rcases hO3.2 with ⟨h, _⟩ | ⟨_, _, _, _, h, _⟩
      ·cases h
      ·exact h)
     have HO3 := Hi hO3; have HM3 := Hi hM3; have HF3 := Hi hF3
     have x3 := hM3.cell (cell_at (j := 0) HBX2.out rfl) id
     clear hO3 hM3 hF3 hz3))
  have HM03 : Hid (Mod (fun _ => False) w w3) := Hi (HM2.out.step HM3.out fun _ _ e => e)
  have hbd := HOK.out.bnds (by decide)
  have HWI := Hi (with26_any p na fa nc fc l x ⟨g3, c3, f⟩ w3 (H.out.mod0 HM03.out) hbd.n)
  simp only [En.val] at HWI
  rw [← HME.out] at HWI
  refine HWI.out.mono ?_
  clear HWI x3
  rintro e w4 ⟨X, na2, nc2, fa2, fc2, rfl, hW⟩
  have hup := up_of HOK.out
  obtain ⟨l2, hl2⟩ : ∃ l2, l2 = withGo x (⟨g3, c3, f⟩ : En) false l := ⟨_, rfl⟩
  rw [← hl2] at hW
  have ha2 : arcOf l2 = putA (arcOf l) x f := by rw [hl2, arcOf_with l hup]
  have HA2 := Hi ha2
  have hmem : ∀ q ∈ l2, q = (x, ⟨g3, c3, f⟩) ∨ q ∈ l := fun q hq => by
   rw [hl2, withGo_put hup] at hq
   exact putA_mem q hq
  have HME2 := Hi hmem
  have HM4 : Hid (Mod (fun _ => False) w w4) := Hi (HM03.out.step hW.md fun _ _ e => e)
  have HG3 : Hid (w.heap.size ≤ g3) := Hi (Nat.le_trans HM2.out.size (HF3.out g3 rfl))
  have HEN : Hid (EntOk w4 l2) := Hi fun q hq => by
   rcases hmem q hq with rfl | hq
   ·exact ⟨HFO.out.2.1, HO3.out.rd.mod hW.md fun _ _ => id⟩
   ·exact ⟨(H.out.ents q hq).1, (H.out.ents q hq).2.mod HM4.out fun _ _ => id⟩
  have HRX : Hid (RAt w4 X na2 nc2 fa2 fc2 l2) := Hi ⟨by have h := hW.box; unfold hvals at h; rw [List.length_map, List.length_map] at h; exact h, hW.on.rd, hW.of.rd, HEN.out⟩
  have HW := Hi hW
  have hok2 : ArcOk 33558558 (arcOf l2) := by
   rw [ha2]
   exact (HOK.out.put (by decide) HFO.out.1 ⟨HFO.out.2.1, HFO.out.2.2.1⟩).mono (by omega)
  have HSZ := Hi (sizeR26_any X na2 fa2 nc2 fc2 l2 w4 HRX.out (hok2.bnds (by decide)))
  clear hW hup hl2 ha2 hmem hok2 hbd
  go_wp2_with fail
  refine HSZ.out.mono ?_
  clear HSZ
  rintro e w5 ⟨rfl, hm5⟩
  have HM5 : Hid (Mod (fun _ => False) w w5) := Hi (HM4.out.step hm5 fun _ _ e => e)
  have HRX5 := Hi (HRX.out.mod0 hm5)
  clear hm5 HRX HM4
  obtain ⟨s, hs⟩ : ∃ s, s = arSz (arcOf l2) := ⟨_, rfl⟩
  rw [← hs]
  have HS : Hid (s = arSz (putA (arcOf l) x f)) := Hi (by rw [hs, HA2.out])
  clear hs
  by_cases hbig : 16777216 < s
  ·have e1 : decide ((16777216 : Int) < (s : Int)) = true := decide_eq_true (by omega)
   go_wp2_with fail
   go_ret
   have hsp : putS (arcOf l) f = (3, arcOf l) := by
    unfold putS; rw [HD.out]; simp only; rw [if_pos (by rw [← HS.out]; exact hbig)]
   exact ⟨na, nc, fa, fc, l, by rw [hsp]; rfl, by rw [hsp], H.out.mod0 HM5.out, fun q hq => .inl hq, fun b hb => .inl hb, fun b hb => .inl hb, HM5.out.mono fun _ _ e => e.elim⟩
  ·have e1 : decide ((16777216 : Int) < (s : Int)) = false := decide_eq_false (by omega)
   obtain ⟨n2, hn2⟩ : ∃ n2, n2 = l2.length := ⟨_, rfl⟩
   have HN2 := Hi hn2
   have hXb := HRX5.out.box
   rw [← hn2] at hXb
   have HXB := Hi hXb
   have hPb := HM5.out.at H.out.box id
   have HPB := Hi hPb
   have hXp : X ≠ p := fun e => by have h1 := HW.out.lX; have h2 := HM03.out.size; omega
   have x0 := cell_at (j := 0) hXb rfl
   have p0 := cell_at (j := 0) hPb rfl
   have q0 := frozen_at (j := 0) hPb
   have hPb1 : (w5.setCell ⟨p, 0, none⟩ (.slice na2 n2 nc2)).heap[p]? = _ := heap_setCell_at _ hPb
   have m1 : Mod (fun b => b = p) w5 (w5.setCell ⟨p, 0, none⟩ (.slice na2 n2 nc2)) := (Mod.refl (fun b => b = p) w5).setCell (p := ⟨p, 0, none⟩) (fun _ => rfl) _
   have x1 := cell_at (j := 1) (m1.at hXb hXp) rfl
   have p1 := cell_at (j := 1) hPb1 rfl
   have q1 := frozen_at (j := 1) hPb1
   have HM1 := Hi m1
   have HXP := Hi hXp
   clear hXb hPb hPb1 m1 hXp hn2
   go_wp2_with fail
   go_ret
   have hsp : putS (arcOf l) f = (0, putA (arcOf l) x f) := by
    unfold putS; rw [HD.out]; simp only; rw [if_neg (by rw [← HS.out]; exact hbig)]
   have m2 : Mod (fun b => b = p) w5 ((w5.setCell ⟨p, 0, none⟩ (.slice na2 n2 nc2)).setCell ⟨p, 1, none⟩ (.slice fa2 n2 fc2)) := HM1.out.setCell (p := ⟨p, 1, none⟩) (fun _ => rfl) _
   have hbox : ((w5.setCell ⟨p, 0, none⟩ (.slice na2 n2 nc2)).setCell ⟨p, 1, none⟩ (.slice fa2 n2 fc2)).heap[p]? = some (.cells #[.slice na2 n2 nc2, .slice fa2 n2 fc2] 83 (0, 0)) := by
    have h := heap_setCell_at (j := 1) (.slice fa2 n2 fc2) (heap_setCell_at (j := 0) (.slice na2 n2 nc2) HPB.out)
    exact h
   refine ⟨na2, nc2, fa2, fc2, l2, by rw [hsp]; rfl, by rw [hsp, HA2.out], ⟨by rw [← HN2.out]; exact hbox, HRX5.out.nm.mod m2 fun b hb e => ?_, HRX5.out.fl.mod m2 fun b hb e => ?_, fun q hq => ?_⟩, fun q hq => ?_, fun b hb => .inr ?_, fun b hb => .inr ?_, (HM5.out.mono fun _ _ e => e.elim).step m2 fun _ _ e => e⟩
   ·have h1 := HW.out.ln b hb; have h2 := HM03.out.size; have h3 : b = p := e; omega
   ·have h1 := HW.out.lf b hb; have h2 := HM03.out.size; have h3 : b = p := e; omega
   ·obtain ⟨h1, h2⟩ := HRX5.out.ents q hq
    exact ⟨h1, h2.mod m2 fun b hb e => rbox_ne h2 h1 HPB.out b hb e⟩
   ·rcases HME2.out q hq with rfl | h
    ·exact .inr ⟨HG3.out, by have h1 := HC3.out; have h2 := HME.out; show f.length ≤ c3; omega⟩
    ·exact .inl h
   ·exact Nat.le_trans HM03.out.size (HW.out.ln b hb)
   ·exact Nat.le_trans HM03.out.size (HW.out.lf b hb)
end Go.Proofs.YtjoiaejbahdjkaaGreat
