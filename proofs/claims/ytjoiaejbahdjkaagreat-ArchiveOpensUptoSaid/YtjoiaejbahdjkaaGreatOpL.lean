/-
  How a law's row is closed: the walk says 'true, and nothing that was there has turned'; the row's ending follows.
-/
import Derived.Test.YtjoiaejbahdjkaaGreatRows
import Derived.Test.YtjoiaejbahdjkaaGreatBase
import Derived.ProofKit
import Derived.OpenShut
import Derived.JoinedCond
import Derived.SliceStrings
import Derived.Test.YtjoiaejbahdjkaaGreatOpH
import Derived.Test.YtjoiaejbahdjkaaGreatOpJ
import Derived.Test.YtjoiaejbahdjkaaGreatOpK
namespace Go.Proofs.YtjoiaejbahdjkaaGreat
open Go Go.RowKit Go.Mine Go.ChangeShapes Go.WideShapes Go.ChangeAt
set_option linter.unusedVariables false
theorem own : ownKnob Tryz.prog.godebug = none := by kernel_rfl
theorem laidOut : laidOutB Tryz.prog = true := by kernel_rfl
theorem trodAll_stays {H : Type} {enc : TypeId × Value → H} {W W' : World} (hb : Below W.heap.size W W') :
 ∀ (ts : List TypeId) (vs : List Value) (ds : List (DataW H)) (p : List MemPlace), (∀ t ∈ ts, Tryz.prog.readableRec t = true ∧ t < Tryz.prog.types.size) → (∀ x ∈ p, x.block < W.heap.size) →
 DataW.TrodAll enc Tryz.prog W 0 (fun _ => true) true ts vs ds p → DataW.TrodAll enc Tryz.prog W' 0 (fun b => decide (b < W.heap.size)) true ts vs ds p
 | [], vs, ds, p, _, _, h => by
   obtain ⟨rfl, rfl, rfl⟩ := trodAll_nil h
   exact trodAll_mk0
 | t :: ts, vs, ds, p, ht, hp, h => by
   obtain ⟨v0, vs0, d0, ds0, p0, q0, rfl, rfl, rfl, h0, r0⟩ := trodAll_cons h
   exact trodAll_cons_mk (Below.trod laidOut (ht t (by simp)).1 (ht t (by simp)).2 h0 hb (fun x hx => hp x (by simp [hx])))
    (trodAll_stays hb ts vs0 ds0 q0 (fun t h => ht t (by simp [h])) (fun x hx => hp x (by simp [hx])) r0)
theorem law_fin {H : Type} {enc : TypeId × Value → H} {f : Func} {s : ChangeSpec} {W W' : World} {args : Array Value} {ds gs : List (DataW H)} {before : List MemPlace}
 (hp : ∀ t ∈ f.params.toList, Tryz.prog.readableRec t = true ∧ t < Tryz.prog.types.size) (hvars : s.vars = []) (hrt : f.resultTypes = #[4])
 (hres : (s.fn H (ds ++ gs)).results = [.lit (.bool true)]) (hargs : (s.fn H (ds ++ gs)).args = ds) (hv : (s.fn H (ds ++ gs)).vars = [])
 (hW : DataW.Whole enc Tryz.prog f.params.toList s.vars false W args.toList ds gs before) (hM : Mine.Mod (fun _ => False) W W') :
 s.post enc Tryz.prog f false true false false W args (.bool true) W' := by
 have hlt := fun x hx => hW.lt x hx
 have hW' := hW
 obtain ⟨p, q, hA, hV, rfl, _, _⟩ := hW
 rw [hvars] at hV
 obtain ⟨rfl, rfl⟩ := trodVars_none hV
 refine ⟨_, _, _, [] ++ [], p, [], hW', ?_, ?_, ?_, hM.below.frame _, fun h => by cases h⟩
 ·rw [hres, hrt]
  exact trodAll_cons_mk (shut_bool (by kernel_rfl) true) trodAll_mk0
 ·rw [hargs]
  exact trodAll_stays hM.below _ _ _ _ hp (fun x hx => by simpa using hlt x (by simp [hx])) hA
 ·rw [hv, hvars]; rfl
theorem Rd.ofAdd {w : World} {a : Addr} {xs : List Value} (h : ∀ i u, xs[i]? = some u → w.cell? (a.add i) = some u) : Rd w (some a) xs := by
 intro i u hi
 have hs : a.spot = none := by
  cases xs with
  | nil => simp at hi
  | cons x xs =>
    have h0 := h 0 x rfl
    have e : a.add 0 = a := by simp [Addr.add]
    rw [e] at h0
    unfold World.cell? at h0
    split at h0
    ·split at h0
     ·cases h0
     ·rename_i hh; simpa using hh
    ·cases h0
 obtain ⟨b, o, s⟩ := a
 simp only at hs
 subst hs
 have e : (⟨b, o, none⟩ : Addr).add i = ⟨b, o + i, none⟩ := by unfold Addr.add; split <;> simp_all
 have := h i u hi
 rw [e] at this
 exact ⟨b, o, rfl, this⟩
theorem Rd.ofStrs {w : World} {a : Addr} {ss : List ByteArray} {n : Nat} (hcell : ∀ i, i < ss.length → w.cell? (a.add i) = some (.string (ss.getD i ByteArray.empty))) : Rd w (some a) (sts (ss.take n)) := by
 have h : Rd w (some a) (sts ss) := Rd.ofAdd fun i u hi => by
  simp only [sts, List.getElem?_map] at hi
  cases hs : ss[i]? with
  | none => rw [hs] at hi; simp at hi
  | some s =>
    rw [hs] at hi; simp at hi; subst hi
    have hlt : i < ss.length := (List.getElem?_eq_some_iff.1 hs).1
    rw [hcell i hlt]
    simp [List.getD, hs]
 have := h.take n
 simpa [sts, List.map_take] using this
theorem bulk_strs {H : Type} (ss : List ByteArray) : ss.length ≤ Rows.uptoBulkAll (strs (H := H) ss) ∧ ∀ s ∈ ss, s.size ≤ Rows.uptoBulkAll (strs (H := H) ss) := by
 induction ss with
 | nil => simp
 | cons s ss ih =>
   have e : Rows.uptoBulkAll (strs (H := H) (s :: ss)) = s.size + 1 + Rows.uptoBulkAll (strs (H := H) ss) := by
    simp only [strs, List.map_cons, Rows.uptoBulkAll, Rows.uptoBulk]
    rw [Lib.size_eq]
   rw [e]
   refine ⟨by simp; omega, fun x hx => ?_⟩
   rcases List.mem_cons.1 hx with rfl | hx
   ·omega
   ·have := ih.2 x hx; omega
theorem bulk_bound {H : Type} {l : List (DataW H)} (hk : Rows.uptoSmall H l = true) : Rows.uptoBulkAll l ≤ 1048576 := of_decide_eq_true hk
end Go.Proofs.YtjoiaejbahdjkaaGreat
/-
  How a row whose argument is a []byte is opened.
-/
namespace Go.Proofs.YtjoiaejbahdjkaaGreat
open Go Go.RowKit Go.Mine Go.ChangeShapes Go.WideShapes Go.ChangeAt
set_option linter.unusedVariables false
def u8s (zs : List Int) : List UInt8 := zs.map fun n => UInt8.ofNat n.toNat
@[simp] theorem u8s_length (zs : List Int) : (u8s zs).length = zs.length := by simp [u8s]
theorem u8_back {n : Int} (h : (Lit.int .u8 n).wf = true) : (((UInt8.ofNat n.toNat).toNat : Nat) : Int) = n := by
 have h2 : 0 ≤ n ∧ n ≤ 255 := by
  simp only [Lit.wf, Bool.and_eq_true] at h
  exact ⟨of_decide_eq_true h.1, of_decide_eq_true h.2⟩
 have : (UInt8.ofNat n.toNat).toNat = n.toNat := by
  rw [UInt8.toNat_ofNat']; omega
 rw [this]; omega
theorem Rd.ofBytes {w : World} {a : Addr} {zs : List Int} {n : Nat} (hcell : ∀ i, i < zs.length → w.cell? (a.add i) = some (.int .u8 (zs.getD i 0))) (hwf : ∀ n ∈ zs, (Lit.int .u8 n).wf = true) :
 Rd w (some a) (bts (u8s (zs.take n))) := by
 have h : Rd w (some a) (bts (u8s zs)) := Rd.ofAdd fun i u hi => by
  simp only [bts, u8s, List.getElem?_map] at hi
  cases hs : zs[i]? with
  | none => rw [hs] at hi; simp at hi
  | some s =>
    rw [hs] at hi; simp only [Option.map_some, Option.some.injEq] at hi
    have hlt : i < zs.length := (List.getElem?_eq_some_iff.1 hs).1
    rw [u8_back (hwf s (List.mem_of_getElem? hs))] at hi
    rw [hcell i hlt, ← hi]
    simp [List.getD, hs]
 have := h.take n
 simpa [bts, u8s, List.map_take] using this
theorem bulk_ints {H : Type} (k : IntKind) (zs : List Int) : zs.length ≤ Rows.uptoBulkAll (lits (H := H) k zs) := by
 induction zs with
 | nil => simp
 | cons z zs ih =>
   have e : Rows.uptoBulkAll (lits (H := H) k (z :: zs)) = 1 + Rows.uptoBulkAll (lits (H := H) k zs) := by
    simp only [lits, List.map_cons, Rows.uptoBulkAll, Rows.uptoBulk]
   rw [e]; simp; omega
end Go.Proofs.YtjoiaejbahdjkaaGreat
/-
  ArchiveOpens: the walk.
-/
namespace Go.Proofs.YtjoiaejbahdjkaaGreat
open Go Go.RowKit Go.Mine
set_option linter.unusedVariables false
set_option maxHeartbeats 8000000
set_option maxRecDepth 100000
theorem LentA.wr {w : World} {g c : Nat} {l : List UInt8} (h : LentA w g c l) : WrOk w (some ⟨g, 0, none⟩) c l := by
 obtain ⟨⟨h1, h2⟩, hc⟩ := h
 rcases h2 with ⟨e, _⟩ | ⟨b, cur, e, h3, h4, h5, h6, h7⟩
 ·cases e
 ·refine .inr ⟨by simp [bts], .inr ⟨b, cur, e, h3, by omega, h5, h6, ?_⟩⟩
  have h8 := congrArg (List.take l.length) h7
  rw [List.take_take, bts_append, List.take_left' (by simp [bts])] at h8
  rw [Nat.mul_one, ← h8]
  congr 1
  omega
theorem RFr.far {S : Nat → Prop} {w0 w w' : World} {p : Nat} {es : Ens} (h : RFr w0 w p es) (m : Mod S w w') (hS : ∀ b, S b → b < w0.heap.size) : RFr w0 w' p es := by
 have hN : ∀ b, w0.heap.size ≤ b → ¬ S b := fun b hb e => by have := hS b e; omega
 obtain ⟨na, nc, fa, fc, h1, h2, h3⟩ := h.ex
 exact ⟨⟨na, nc, fa, fc, ⟨m.at h1.box (hN p h.lo), h1.nm.mod m fun b hb => hN b (h2 b hb), h1.fl.mod m fun b hb => hN b (h3 b hb), fun q hq => ⟨(h1.ents q hq).1, (h1.ents q hq).2.mod m fun b hb => hN b (by
  have e : q.2.g = b := by simpa [blk] using hb
  rw [← e]; exact (h.ents q hq).1)⟩⟩, h2, h3⟩, h.lo, h.ents, h.ok⟩
theorem opens_walk (a : Option Addr) (c : Nat) (b : List UInt8) (w : World) (hr : Rd w a (bts b)) (hc : b.length ≤ c) (hl : b.length < 2 ^ 39) :
 Calls Tryz.prog 4 #[.slice a b.length c] w fun e w' => e = .returned (.bool true) ∧ Mod (fun _ => False) w w' := by
 have HR := Hi hr
 have HLE := Hi (lent26_any a c b w hr (by omega))
 have HRO := Hi fun W (m : Mod (fun _ => False) w W) => openR_any a c b W (hr.mod m fun _ _ => id) hc (by omega)
 have HPO := Hi fun g c' W (h : LentA W g c' b) => openP_any (some ⟨g, 0, none⟩) c' b W h.rd (by have := h.2; omega) (by omega)
 have HKE := Hi fun g c' W (h : LentA W g c' b) (m : Mod (fun _ => False) w W) => kept26_any g c' a c b W h (hr.mod m fun _ _ => id) (by omega)
 have HOV := Hi fun g c' W (h : LentA W g c' b) => over26_any (some ⟨g, 0, none⟩) c' b W h.wr hl
 obtain ⟨n, hn⟩ : ∃ n, n = b.length := ⟨_, rfl⟩
 rw [← hn] at hc hl HLE HRO HPO HKE HOV ⊢
 clear hr hn
 unfold OpenR at HRO
 unfold OpenP at HPO
 go_enter Tryz.func4, Tryz.ntmps4
 go_wp2_with fail
 refine HLE.out.mono ?_
 clear HLE
 rintro e w1 ⟨g, c1, rfl, hL1, hm1, hg⟩
 have HL1 := Hi hL1; have HM1 := Hi hm1; have HG := Hi hg
 clear hL1 hm1 hg
 go_wp2_with fail
 refine (HRO.out w1 HM1.out).mono ?_
 rintro e w2 ⟨hres, hm2⟩
 have HM2 := Hi (HM1.out.step hm2 fun _ _ e => e)
 have HL2 := Hi (HL1.out.mod hm2 id)
 have HG1 : Hid (g < w1.heap.size) := Hi (HL1.out.1.lt g rfl)
 have HS2 : Hid (w1.heap.size ≤ w2.heap.size) := Hi hm2.size
 clear HRO HL1 HM1 hm2
 rcases hres with ⟨q, es2, hS, rfl, hF⟩ | ⟨k, hS, hk, rfl⟩
 ·have HS := Hi hS; have HF2 := Hi hF
  clear hS hF
  go_wp2_with fail
  refine (HPO.out g c1 w2 HL2.out).mono ?_
  rintro e w3 ⟨hres, hm3⟩
  rcases hres with ⟨l, p, mb, es, hS, rfl, hA, hal, hp, hmb, heg⟩ | ⟨k, hS, hk, rfl⟩
  ·rw [HS.out] at hS
   simp only [Prod.mk.injEq, true_and, Option.some.injEq] at hS
   have HAE : Hid (arcOf es = arcOf es2) := Hi (hal.trans hS.symm)
   have HA3 := Hi hA; have HPF := Hi (And.intro hp (And.intro hmb heg))
   have HM3 := Hi (HM2.out.step hm3 fun _ _ e => e)
   have HL3 := Hi (HL2.out.mod hm3 id)
   have HF3 := Hi (HF2.out.mod0 hm3)
   clear hS hA hal hp hmb heg hm3 HL2 HF2 HM2
   go_wp2_with fail
   refine (num26_any 0 w3).mono ?_
   rintro e w4 ⟨rfl, hw⟩
   obtain rfl : w3 = w4 := hw
   go_wp2_with fail
   refine (HKE.out g c1 w3 HL3.out HM3.out).mono ?_
   rintro e w4 ⟨rfl, hm4⟩
   have HA4 := Hi (HA3.out.mod0 hm4)
   have HM4 := Hi (HM3.out.step hm4 fun _ _ e => e)
   have HL4 := Hi (HL3.out.mod hm4 id)
   have HF4 := Hi (HF3.out.mod0 hm4)
   clear hm4 HA3 HM3 HL3 HF3
   go_wp2_with fail
   refine (HOV.out g c1 w4 HL4.out).mono ?_
   rintro e w5 ⟨rfl, hm5⟩
   have hgb : ∀ b, blk (some ⟨g, 0, none⟩ : Option Addr) = some b → b = g := fun b hb => by
    have h1 : g = b := by simpa [blk] using hb
    exact h1.symm
   have HM5 := Hi (HM4.out.step hm5 fun b hb e => by have h1 := hgb b e; have h2 := HG.out; omega)
   have HF5 := Hi (HF4.out.far hm5 fun b e => by rw [hgb b e]; exact HG1.out)
   have HA5 : Hid (AAt w5 p mb es) := Hi (HA4.out.mod hm5 (fun e => by have h1 := hgb p e; have h2 := HPF.out.1; have h3 := HG1.out; have h4 := HS2.out; omega) (fun b hb e => by have h1 := hgb b e; have h2 := HPF.out.2.1 b hb; have h3 := HG1.out; have h4 := HS2.out; omega) (fun x hx e => by have h1 := hgb _ e; have h2 := HPF.out.2.2 x hx; have h3 := HG1.out; have h4 := HS2.out; omega))
   obtain ⟨na, nc, fa, fc, hRA, _, _⟩ := HF5.out.ex
   have HTO := Hi (told26_any p mb es q na fa nc fc es2 ⟨#[112]⟩ w5 HA5.out hRA HAE.out HF5.out.ok (fun x hx => (HF5.out.ents x hx).2) (by decide))
   clear hm5 HA4 HM4 HL4 HF4 hRA
   go_wp2_with fail
   refine HTO.out.mono ?_
   rintro e w6 ⟨rfl, hm6⟩
   have HM6 := Hi (HM5.out.step hm6 fun _ _ e => e)
   clear hm6
   go_wp2_with fail
   go_ret
   exact ⟨rfl, HM6.out⟩
  ·rw [HS.out] at hS
   simp at hS
 ·have HS := Hi hS; have HK := Hi hk
  clear hS hk
  go_wp2_with fail
  refine (HPO.out g c1 w2 HL2.out).mono ?_
  rintro e w3 ⟨hres, hm3⟩
  rcases hres with ⟨l, p, mb, es, hS, rfl, hA, hal, hp, hmb, heg⟩ | ⟨k', hS, hk, rfl⟩
  ·rw [HS.out] at hS
   simp at hS
  ·rw [HS.out] at hS
   simp only [Prod.mk.injEq, and_true] at hS
   obtain rfl : k = k' := hS
   have HM3 := Hi (HM2.out.step hm3 fun _ _ e => e)
   have HL3 := Hi (HL2.out.mod hm3 id)
   clear hm3 hk HL2 HM2
   go_wp2_with fail
   refine (num26_any k w3).mono ?_
   rintro e w4 ⟨rfl, hw⟩
   obtain rfl : w3 = w4 := hw
   have e0 : ((k : Int) != (k : Int)) = false := by simp
   go_wp2_with fail
   refine (HKE.out g c1 w3 HL3.out HM3.out).mono ?_
   rintro e w4 ⟨rfl, hm4⟩
   have HM4 := Hi (HM3.out.step hm4 fun _ _ e => e)
   have HL4 := Hi (HL3.out.mod hm4 id)
   clear hm4 HM3 HL3
   go_wp2_with fail
   refine (HOV.out g c1 w4 HL4.out).mono ?_
   rintro e w5 ⟨rfl, hm5⟩
   have HM5 := Hi (HM4.out.step hm5 fun b hb e => by
    have h1 : g = b := by simpa [blk] using e
    have h2 := HG.out
    omega)
   clear hm5 HM4 HL4
   go_wp2_with fail
   go_ret
   exact ⟨rfl, HM5.out⟩
end Go.Proofs.YtjoiaejbahdjkaaGreat
/- ArchiveOpens answers true of any bytes, where what it reads is of bulk at most 1048576. -/
namespace Go.Proofs.YtjoiaejbahdjkaaGreat.archiveOpens
open Go Go.RowKit Go.Mine Go.ChangeShapes Go.WideShapes Go.ChangeAt
set_option linter.unusedVariables false
set_option maxRecDepth 100000 in
theorem contract (H : Type) (enc : TypeId × Value → H) (W : World) (base : Nat) (args : Array Value) (ds gs : List (DataW H)) (before : List MemPlace)
 (hval : ∀ (j : Nat) t v, Tryz.f4.params[j]? = some t → args[j]? = some v → Value.okWide Tryz.prog W .any base t v)
 (hW : DataW.Whole enc Tryz.prog Tryz.f4.params.toList Rows.archiveOpensSpec.vars false W args.toList ds gs before) (hk : Rows.uptoSmall H (ds ++ gs) = true) :
 Calls Tryz.prog 4 args W fun e W' => ∃ v, e = .returned v ∧ Rows.archiveOpensSpec.post enc Tryz.prog Tryz.f4 false true false false W args v W' := by
 have hW' := hW
 have hbulk := bulk_bound hk
 obtain ⟨p, q, hA0, hV, rfl, hfz, hnd⟩ := hW
 have hA : DataW.TrodAll enc Tryz.prog W 0 (fun _ => true) true Tryz.f4.params.toList args.toList ds p := hA0
 rw [Tryz.params4] at hA hval
 obtain ⟨v0, d0, rfl, rfl, h0⟩ := trodAll_one hA
 obtain ⟨rfl, rfl⟩ := trodVars_none hV
 obtain ⟨a0, len, cap, rfl⟩ := okWide_slice Tryz.underlying23 (hval 0 23 v0 rfl rfl)
 obtain ⟨fuel, hf⟩ := h0
 have fin : ∀ W' : World, Mine.Mod (fun _ => False) W W' → Rows.archiveOpensSpec.post enc Tryz.prog Tryz.f4 false true false false W #[.slice a0 len cap] (.bool true) W' := fun W' hM =>
  law_fin (by rw [Tryz.params4]; intro t ht; simp at ht; subst ht; exact ⟨by kernel_rfl, of_decide_eq_true (by kernel_rfl)⟩) rfl rfl rfl rfl rfl hW' hM
 simp only [List.append_nil, Rows.uptoBulkAll] at hbulk
 rcases open_ints Tryz.underlying23 Tryz.underlying5 (by kernel_rfl) hf with ⟨hcs, hx⟩ | ⟨a, len', cap', zs, hcs, _, hl, hm, hz, hx, hcell, hws⟩
 ·simp [Value.cells] at hcs
  obtain ⟨rfl, rfl, rfl⟩ := hcs
  exact (opens_walk none 0 [] W (Rd.nil _ _) (by simp) (by simp)).mono fun e W' ⟨he, hM⟩ => ⟨_, he, fin W' hM⟩
 ·simp [Value.cells] at hcs
  obtain ⟨rfl, rfl, rfl⟩ := hcs
  simp only [Prod.mk.injEq] at hx
  obtain ⟨rfl, _⟩ := hx
  simp only [if_true] at hz
  simp only [Rows.uptoBulk] at hbulk
  have b1 := bulk_ints (H := H) .u8 (zs.take len)
  have hlen : (zs.take len).length = len := by rw [List.length_take, hz]; omega
  have hrd : Rd W (some a) (bts (u8s (zs.take len))) := Rd.ofBytes hcell hws
  have := opens_walk (some a) cap (u8s (zs.take len)) W hrd (by rw [u8s_length]; omega) (by rw [u8s_length]; omega)
  rw [u8s_length, hlen] at this
  exact this.mono fun e W' ⟨he, hM⟩ => ⟨_, he, fin W' hM⟩
set_option maxRecDepth 100000 in
theorem lifted (os : Os) (started : os.Started) (H : Type) (enc : TypeId × Value → H) (F : Stop.Interp) :
 ReturnsInHanded {} Tryz.checked os 4 .any ((Rows.OpenSpec.upto Rows.archiveOpensSpec).pre6 enc Tryz.prog Tryz.f4 Rows.archiveOpensUptoRow.domain false) (((Rows.OpenSpec.upto Rows.archiveOpensSpec).at F).post enc Tryz.prog Tryz.f4 false true false false) := by
 refine returnsInHanded_of_cond (C := Tryz.checked) (s := Rows.OpenSpec.upto Rows.archiveOpensSpec) (k := Rows.uptoSmall) rfl own started (by kernel_rfl) Tryz.func4
  (OpenSpec.witness (enc := enc) (C := Tryz.checked) (s := Rows.OpenSpec.upto Rows.archiveOpensSpec) (k := Rows.uptoSmall) rfl false ⟨#[], #[.slice none 0 0], []⟩ 8 (by kernel_rfl) (by kernel_rfl) (by kernel_rfl)
   (x := ([.nil], [], [])) (by kernel_rfl) rfl (by kernel_rfl)) ?_
 intro W base args ds gs before hval hW _ hk _
 exact contract H enc W base args ds gs before hval hW hk
theorem over : Rows.archiveOpensUptoRow.holds Tryz.pinned (Rows.OpenSpec.upto Rows.archiveOpensSpec) :=
 OpenClaim.holds_of_cond 4 Tryz.f4 rfl rfl rfl rfl rfl rfl rfl ⟨rfl, rfl, rfl, rfl, rfl⟩ rfl rfl rfl rfl rfl (by kernel_rfl) Tryz.func4 (by kernel_rfl)
  (of_decide_eq_true (by kernel_rfl)) (by unfold Func.isWrapper; first | (rw [if_pos (by decide +kernel)]; kernel_rfl) | (rw [if_neg (by decide +kernel)]; exact ⟨rfl, rfl⟩))
  (fun os started H enc _ F => lifted os started H enc F)
theorem proved : Rows.ArchiveOpensUptoSaid := over
end Go.Proofs.YtjoiaejbahdjkaaGreat.archiveOpens
