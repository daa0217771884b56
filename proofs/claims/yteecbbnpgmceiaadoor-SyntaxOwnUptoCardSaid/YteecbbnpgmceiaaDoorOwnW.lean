/-
  SyntaxOwn, walked.
-/
import Derived.Test.YteecbbnpgmceiaaDoorOwLP
import Derived.Test.YteecbbnpgmceiaaDoorAwake
namespace Go.Proofs.YteecbbnpgmceiaaDoor
open Go Go.RowKit Go.Mine
set_option linter.unusedVariables false
set_option maxHeartbeats 4000000
set_option maxRecDepth 100000

theorem own_rd {w : World} {g c : Nat} {l : List UInt8} (hO : Mine.Own w 5 1 (some ⟨g, 0, none⟩) (l.length + 2) c (bts (l ++ [201, 202]))) : Rd w (some ⟨g, 0, none⟩) (bts l) := by
  have := hO.rd.take l.length
  rw [bts_append, List.take_left' (by simp)] at this
  exact this
theorem six_hnd {w3 w4 w5 w6 w7 w8 w9 w10 w11 w12 w13 w14 : World} {vp vq vx vy : Value} {ps qs : List Rm} {rv sv : Rm × Value × Value} {xt yt : List Tm} {bp bq br bs bx by_ : List Nat} (hp : RsF w4 w3.heap.size vp ps bp) (hq : RsF w6 w5.heap.size vq qs bq)
    (hr : RF w8 w7.heap.size rv br) (hs : RF w10 w9.heap.size sv bs) (hx : TsF w12 w11.heap.size vx xt bx) (hy : TsF w14 w13.heap.size vy yt by_)
    (h : w4.heap.size ≤ w5.heap.size ∧ w5.heap.size ≤ w6.heap.size ∧ w6.heap.size ≤ w7.heap.size ∧ w7.heap.size ≤ w8.heap.size ∧ w8.heap.size ≤ w9.heap.size ∧ w9.heap.size ≤ w10.heap.size ∧ w10.heap.size ≤ w11.heap.size ∧ w11.heap.size ≤ w12.heap.size ∧ w12.heap.size ≤ w13.heap.size) :
    (bp ++ bq ++ br ++ bs ++ bx ++ by_).Nodup := by
  have n1 : bp.Nodup := by obtain ⟨_, _, _, _, _, _, _, _, _, hn, _⟩ := hp; exact hn
  have n2 : bq.Nodup := by obtain ⟨_, _, _, _, _, _, _, _, _, hn, _⟩ := hq; exact hn
  have n3 : br.Nodup := by obtain ⟨_, _, _, _, _, hn⟩ := hr; exact hn
  have n4 : bs.Nodup := by obtain ⟨_, _, _, _, _, hn⟩ := hs; exact hn
  exact six_nd (k3 := 0) (k14 := 0) n1 n2 n3 n4 hx.nodup hy.nodup hp.lt (fun b hb => ⟨hq.ge b hb, hq.lt b hb⟩) (fun b hb => hr.bd b hb) (fun b hb => hs.bd b hb) (fun b hb => ⟨hx.ge b hb, hx.lt b hb⟩) hy.ge h
theorem rf_at {w : World} {lo : Nat} {r : Rm} {s1 s2 : Value} {b : List Nat} (h : RF w lo (r, s1, s2) b) : TsAt w s1 r.head.terms ∧ LsAt w s2 r.body := by
  obtain ⟨_, _, h1, h2, _⟩ := h
  exact ⟨h1.at_, h2.at_⟩
/-- a text over which another one is laid, blanks behind it -/
def ovf (m : List UInt8) (i : Nat) : UInt8 := (m[i]?).getD 32
def ovr (m l : List UInt8) (k : Nat) : List UInt8 := (List.range k).map (ovf m) ++ l.drop k
theorem ovr_zero (m l : List UInt8) : ovr m l 0 = l := by simp [ovr]
theorem ovr_len (m l : List UInt8) {k : Nat} (h : k ≤ l.length) : (ovr m l k).length = l.length := by simp [ovr]; omega
theorem ovr_get (m l : List UInt8) {k : Nat} (h : k < l.length) : (bts (ovr m l k ++ [201, 202]))[k]? = some (.int .u8 l[k].toNat) := by
  rw [bts, List.getElem?_map, ovr, List.append_assoc, List.getElem?_append_right (by simp), List.length_map, List.length_range, Nat.sub_self, List.drop_eq_getElem_cons h]
  rfl
theorem ovr_set (m l : List UInt8) {k : Nat} (h : k < l.length) : (bts (ovr m l k ++ [201, 202])).set k (.int .u8 (ovf m k).toNat) = bts (ovr m l (k + 1) ++ [201, 202]) := by
  have e0 : (bts ((List.range k).map (ovf m))).length = k := by simp
  have e1 : bts (l[k] :: (l.drop (k + 1) ++ [201, 202])) = .int .u8 l[k].toNat :: bts (l.drop (k + 1) ++ [201, 202]) := rfl
  unfold ovr
  rw [List.drop_eq_getElem_cons h, List.append_assoc, bts_append, List.set_append_right _ _ (by omega), e0, Nat.sub_self, List.cons_append, e1, List.set_cons_zero, List.range_succ, List.map_append, List.append_assoc, List.append_assoc, bts_append ((List.range k).map (ovf m))]
  rfl
theorem ovr_set1 (m l : List UInt8) {k : Nat} (h : k < l.length) (hk : ¬ k < m.length) : (bts (ovr m l k ++ [201, 202])).set k (.int .u8 32) = bts (ovr m l (k + 1) ++ [201, 202]) := by
  have e := ovr_set m l h
  rw [show ovf m k = 32 by unfold ovf; rw [List.getElem?_eq_none (by omega)]; rfl] at e
  exact e
theorem ovr_set2 (m l : List UInt8) {k : Nat} (h : k < l.length) (hk : k < m.length) : ((bts (ovr m l k ++ [201, 202])).set k (.int .u8 32)).set k (.int .u8 m[k].toNat) = bts (ovr m l (k + 1) ++ [201, 202]) := by
  have e := ovr_set m l h
  rw [show ovf m k = m[k] by unfold ovf; rw [List.getElem?_eq_getElem hk]; rfl] at e
  rw [List.set_set]
  exact e
theorem SyntaxOwn_true (a : Option Addr) (c : Nat) (l : List UInt8) (a2 : Option Addr) (c2 : Nat) (l2 : List UInt8) (w : World) (hr : Rd w a (bts l)) (hr2 : Rd w a2 (bts l2)) (hs : l.length ≤ 1048576) (hs2 : l2.length ≤ 1048576) (hT : Lib.Utf8Tabs 1 2 w) :
    Calls Tryd.prog 3 #[.slice a l.length c, .slice a2 l2.length c2] w fun e w' => e = .returned (.bool true) ∧ Mod (fun _ => False) w w' := by
  have HR := Lib.hid hr; have HR2 := Lib.hid hr2; have HT := Lib.hid hT
  have HPP := Lib.hid (fun g c W => parse_saysF l l.length rfl (by omega) (some ⟨g, 0, none⟩) c W)
  have HPR := Lib.hid (fun g c W => parseRule_saysF l l.length rfl (by omega) (some ⟨g, 0, none⟩) c W)
  have HPA := Lib.hid (fun g c W => parseAtom_saysF l l.length rfl (by omega) (some ⟨g, 0, none⟩) c W)
  have hps := progV_small ⟨l.toArray⟩
  have hrs := ruleV_small ⟨l.toArray⟩
  have has := atomV_small ⟨l.toArray⟩
  unfold PSayF at HPP
  unfold RSayF rmV at HPR
  unfold ASayF at HPA
  generalize valOf [] (progS ⟨l.toArray⟩) = ps at *
  generalize valOf rm0 (ruleS ⟨l.toArray⟩) = rv at *
  generalize valOf am0 (atomS ⟨l.toArray⟩) = av at *
  have HPS := Lib.hid hps; have HRS := Lib.hid hrs; have HAS := Lib.hid has
  clear hr hr2 hT hps hrs has
  go_enter Tryd.func3, Tryd.ntmps3
  go_wp2_with fail
  refine (awake_true w HT.out).mono ?_
  rintro e w1 ⟨rfl, hM1⟩
  have HM1 := Lib.hid hM1; clear hM1
  go_wp2_with fail
  refine (law8Lent_any a c l w1 (HR.out.mod HM1.out (fun _ _ => id)) (by omega)).mono ?_
  rintro e w2 ⟨g, c', rfl, hg, hI, hM2⟩
  have HM2 := Lib.hid (HM1.out.trans hM2); have HI := Lib.hid hI; have HG := Lib.hid (Nat.le_trans HM1.out.size hg)
  clear hM2 hI hg HM1
  go_wp2_with fail
  obtain ⟨w3, hw3⟩ : ∃ w3, w3 = w2.alloc (.cells #[.slice none 0 0, .slice none 0 0, .slice none 0 0] 30) := ⟨_, rfl⟩
  rw [← hw3]
  have HM3 : Hid (Mod (fun _ => False) w2 w3) := Lib.hid (by rw [hw3]; exact (Mod.refl _ w2).alloc _)
  have HB3 : Hid (w3.heap[w2.heap.size]? = some (.cells #[.slice none 0 0, .slice none 0 0, .slice none 0 0] 30 (0, 0))) := Lib.hid (by rw [hw3]; exact heap_alloc_new w2 _)
  have HS3 : Hid (w2.heap.size < w3.heap.size) := Lib.hid (by rw [hw3]; simp)
  clear hw3
  refine (HPP.out g c' w3 (own_rd (HI.out.mod HM3.out (fun _ _ => id))) (tabs_mod HT.out (HM2.out.trans HM3.out))).mono ?_
  rintro e w4 ⟨ap, np, bp, rfl, hf, hMx⟩
  go_wp2_with fail
  obtain ⟨w5, hww5⟩ : ∃ v, v = w4.alloc (.cells #[.slice ap np np] 33) := ⟨_, rfl⟩
  rw [← hww5]
  have HM5 : Hid (Mod (fun _ => False) w2 w5) := Lib.hid (by rw [hww5]; exact (HM3.out.trans hMx).alloc _)
  have HC5 : Hid (Mod (fun _ => False) w4 w5) := Lib.hid (by rw [hww5]; exact (Mod.refl _ w4).alloc _)
  have HD5 : Hid (Mod (fun _ => False) w3 w4) := Lib.hid hMx
  have HB5 : Hid (w5.heap[w4.heap.size]? = some (.cells #[.slice ap np np] 33 )) := Lib.hid (by rw [hww5]; exact heap_alloc_new w4 _)
  have HS5 : Hid (w4.heap.size < w5.heap.size) := Lib.hid (by rw [hww5]; simp)
  have HF5 := Lib.hid hf
  clear hMx hf hww5
  refine (HPP.out g c' w5 (own_rd (HI.out.mod HM5.out (fun _ _ => id))) (tabs_mod HT.out (HM2.out.trans HM5.out))).mono ?_
  rintro e w6 ⟨aq, nq, bq, rfl, hf, hMx⟩
  go_wp2_with fail
  obtain ⟨w7, hww7⟩ : ∃ v, v = w6.alloc (.cells #[.slice aq nq nq] 33) := ⟨_, rfl⟩
  rw [← hww7]
  have HM7 : Hid (Mod (fun _ => False) w2 w7) := Lib.hid (by rw [hww7]; exact (HM5.out.trans hMx).alloc _)
  have HC7 : Hid (Mod (fun _ => False) w6 w7) := Lib.hid (by rw [hww7]; exact (Mod.refl _ w6).alloc _)
  have HD7 : Hid (Mod (fun _ => False) w5 w6) := Lib.hid hMx
  have HB7 : Hid (w7.heap[w6.heap.size]? = some (.cells #[.slice aq nq nq] 33 )) := Lib.hid (by rw [hww7]; exact heap_alloc_new w6 _)
  have HS7 : Hid (w6.heap.size < w7.heap.size) := Lib.hid (by rw [hww7]; simp)
  have HF7 := Lib.hid hf
  clear hMx hf hww7
  refine (HPR.out g c' w7 (own_rd (HI.out.mod HM7.out (fun _ _ => id))) (tabs_mod HT.out (HM2.out.trans HM7.out))).mono ?_
  rintro e w8 ⟨ar1, nr1, ar2, nr2, br, rfl, hf, hgr, hMx⟩
  go_wp2_with fail
  obtain ⟨w9, hww9⟩ : ∃ v, v = w8.alloc (.cells #[.string rv.head.pred, .slice ar1 nr1 nr1, .slice ar2 nr2 nr2] 42) := ⟨_, rfl⟩
  rw [← hww9]
  have HM9 : Hid (Mod (fun _ => False) w2 w9) := Lib.hid (by rw [hww9]; exact (HM7.out.trans hMx).alloc _)
  have HC9 : Hid (Mod (fun _ => False) w8 w9) := Lib.hid (by rw [hww9]; exact (Mod.refl _ w8).alloc _)
  have HD9 : Hid (Mod (fun _ => False) w7 w8) := Lib.hid hMx
  have HB9 : Hid (w9.heap[w8.heap.size]? = some (.cells #[.string rv.head.pred, .slice ar1 nr1 nr1, .slice ar2 nr2 nr2] 42 )) := Lib.hid (by rw [hww9]; exact heap_alloc_new w8 _)
  have HS9 : Hid (w8.heap.size < w9.heap.size) := Lib.hid (by rw [hww9]; simp)
  have HF9 := Lib.hid (And.intro hf hgr)
  clear hMx hf hgr hww9
  refine (HPR.out g c' w9 (own_rd (HI.out.mod HM9.out (fun _ _ => id))) (tabs_mod HT.out (HM2.out.trans HM9.out))).mono ?_
  rintro e w10 ⟨as1, ns1, as2, ns2, bs, rfl, hf, hgr, hMx⟩
  go_wp2_with fail
  obtain ⟨w11, hww11⟩ : ∃ v, v = w10.alloc (.cells #[.string rv.head.pred, .slice as1 ns1 ns1, .slice as2 ns2 ns2] 42) := ⟨_, rfl⟩
  rw [← hww11]
  have HM11 : Hid (Mod (fun _ => False) w2 w11) := Lib.hid (by rw [hww11]; exact (HM9.out.trans hMx).alloc _)
  have HC11 : Hid (Mod (fun _ => False) w10 w11) := Lib.hid (by rw [hww11]; exact (Mod.refl _ w10).alloc _)
  have HD11 : Hid (Mod (fun _ => False) w9 w10) := Lib.hid hMx
  have HB11 : Hid (w11.heap[w10.heap.size]? = some (.cells #[.string rv.head.pred, .slice as1 ns1 ns1, .slice as2 ns2 ns2] 42 )) := Lib.hid (by rw [hww11]; exact heap_alloc_new w10 _)
  have HS11 : Hid (w10.heap.size < w11.heap.size) := Lib.hid (by rw [hww11]; simp)
  have HF11 := Lib.hid (And.intro hf hgr)
  clear hMx hf hgr hww11
  refine (HPA.out g c' w11 (own_rd (HI.out.mod HM11.out (fun _ _ => id))) (tabs_mod HT.out (HM2.out.trans HM11.out))).mono ?_
  rintro e w12 ⟨ax, nx, bx, rfl, hf, hMx⟩
  go_wp2_with fail
  obtain ⟨w13, hww13⟩ : ∃ v, v = w12.alloc (.cells #[.string av.pred, .slice ax nx nx] 39) := ⟨_, rfl⟩
  rw [← hww13]
  have HM13 : Hid (Mod (fun _ => False) w2 w13) := Lib.hid (by rw [hww13]; exact (HM11.out.trans hMx).alloc _)
  have HC13 : Hid (Mod (fun _ => False) w12 w13) := Lib.hid (by rw [hww13]; exact (Mod.refl _ w12).alloc _)
  have HD13 : Hid (Mod (fun _ => False) w11 w12) := Lib.hid hMx
  have HB13 : Hid (w13.heap[w12.heap.size]? = some (.cells #[.string av.pred, .slice ax nx nx] 39 )) := Lib.hid (by rw [hww13]; exact heap_alloc_new w12 _)
  have HS13 : Hid (w12.heap.size < w13.heap.size) := Lib.hid (by rw [hww13]; simp)
  have HF13 := Lib.hid hf
  clear hMx hf hww13
  refine (HPA.out g c' w13 (own_rd (HI.out.mod HM13.out (fun _ _ => id))) (tabs_mod HT.out (HM2.out.trans HM13.out))).mono ?_
  rintro e w14 ⟨ay, ny, by_, rfl, hf, hMx⟩
  obtain ⟨w15, hww15⟩ : ∃ v, v = w14.alloc (.cells #[.string av.pred, .slice ay ny ny] 39) := ⟨_, rfl⟩
  have HM15 : Hid (Mod (fun _ => False) w2 w15) := Lib.hid (by rw [hww15]; exact (HM13.out.trans hMx).alloc _)
  have HC15 : Hid (Mod (fun _ => False) w14 w15) := Lib.hid (by rw [hww15]; exact (Mod.refl _ w14).alloc _)
  have HD15 : Hid (Mod (fun _ => False) w13 w14) := Lib.hid hMx
  have HB15 : Hid (w15.heap[w14.heap.size]? = some (.cells #[.string av.pred, .slice ay ny ny] 39 )) := Lib.hid (by rw [hww15]; exact heap_alloc_new w14 _)
  have HS15 : Hid (w14.heap.size < w15.heap.size) := Lib.hid (by rw [hww15]; simp)
  have HF15 := Lib.hid hf
  clear hMx hf
  have HX13 : Hid (Mod (fun _ => False) w13 w15) := Lib.hid (HD15.out.trans HC15.out)
  have HX11 : Hid (Mod (fun _ => False) w11 w15) := Lib.hid ((HD13.out.trans HC13.out).trans HX13.out)
  have HX9 : Hid (Mod (fun _ => False) w9 w15) := Lib.hid ((HD11.out.trans HC11.out).trans HX11.out)
  have HX7 : Hid (Mod (fun _ => False) w7 w15) := Lib.hid ((HD9.out.trans HC9.out).trans HX9.out)
  have HX5 : Hid (Mod (fun _ => False) w5 w15) := Lib.hid ((HD7.out.trans HC7.out).trans HX7.out)
  have HE5 := Lib.hid (HX5.out.at HB5.out id)
  have HE7 := Lib.hid (HX7.out.at HB7.out id)
  have HE9 := Lib.hid (HX9.out.at HB9.out id)
  have HE11 := Lib.hid (HX11.out.at HB11.out id)
  have HE13 := Lib.hid (HX13.out.at HB13.out id)
  have HE15 := HB15
  have HG5 := Lib.hid (HF5.out.mod (HC5.out.trans HX5.out) (fun _ _ => id))
  have HG7 := Lib.hid (HF7.out.mod (HC7.out.trans HX7.out) (fun _ _ => id))
  have HG9 := Lib.hid (HF9.out.1.mod (HC9.out.trans HX9.out) (fun _ _ => id))
  have HG11 := Lib.hid (HF11.out.1.mod (HC11.out.trans HX11.out) (fun _ _ => id))
  have HG13 := Lib.hid (HF13.out.mod (HC13.out.trans HX13.out) (fun _ _ => id))
  have HG15 := Lib.hid (HF15.out.mod HC15.out (fun _ _ => id))
  clear HB5 HB7 HB9 HB11 HB13 HB15
  have t5 := cell_at (j := 0) HE5.out rfl
  have t7 := cell_at (j := 0) HE7.out rfl
  rw [hww15] at t5 t7
  go_wp2_with fail
  rw [← hww15]
  clear t5 t7 hww15
  refine (law8Prog_true ps _ _ w15 HG5.out.at_ HG7.out.at_ (by have := HPS.out.1; omega) (fun r hr => (HPS.out.2 r hr).smR)).mono ?_
  rintro e w16 ⟨rfl, hM16⟩
  have HM16 := Lib.hid hM16
  have t0 := cell_at (j := 0) (hM16.at HE9.out id) rfl
  have t1 := cell_at (j := 1) (hM16.at HE9.out id) rfl
  have t2 := cell_at (j := 2) (hM16.at HE9.out id) rfl
  have u0 := cell_at (j := 0) (hM16.at HE11.out id) rfl
  have u1 := cell_at (j := 1) (hM16.at HE11.out id) rfl
  have u2 := cell_at (j := 2) (hM16.at HE11.out id) rfl
  have HRL := Lib.hid (law8Rule_true rv (.slice ar1 nr1 nr1) (.slice as1 ns1 ns1) (.slice ar2 nr2 nr2) (.slice as2 ns2 ns2) w16 (rf_at (HG9.out.mod hM16 (fun _ _ => id))).1 (rf_at (HG11.out.mod hM16 (fun _ _ => id))).1 (rf_at (HG9.out.mod hM16 (fun _ _ => id))).2 (rf_at (HG11.out.mod hM16 (fun _ _ => id))).2 HRS.out.smR)
  unfold rmV at HRL
  clear hM16
  go_wp2_with fail
  refine HRL.out.mono ?_
  rintro e w17 ⟨rfl, hM17⟩
  clear HRL t0 t1 t2 u0 u1 u2
  have HM17 := Lib.hid (HM16.out.trans hM17)
  clear hM17 HM16
  have t0 := cell_at (j := 0) (HM17.out.at HE13.out id) rfl
  have t1 := cell_at (j := 1) (HM17.out.at HE13.out id) rfl
  have u0 := cell_at (j := 0) (HM17.out.at HE15.out id) rfl
  have u1 := cell_at (j := 1) (HM17.out.at HE15.out id) rfl
  go_wp2_with fail
  refine (law8Atom_true av.pred av.terms _ _ w17 ((HG13.out.mod HM17.out (fun _ _ => id)).at_) ((HG15.out.mod HM17.out (fun _ _ => id)).at_) (by have := HAS.out.2.1; omega)).mono ?_
  rintro e w18 ⟨rfl, hM18⟩
  clear t0 t1 u0 u1
  have HM18 := Lib.hid (HM17.out.trans hM18)
  clear hM18 HM17
  go_wp2_with fail
  refine (law8Kept_true g c' a c l w18 (HI.out.mod (HM15.out.trans HM18.out) (fun _ _ => id)) (HR.out.mod ((HM2.out.trans HM15.out).trans HM18.out) (fun _ _ => id)) (by omega)).mono ?_
  rintro e w19 ⟨rfl, hM19⟩
  have HM19 := Lib.hid (HM18.out.trans hM19)
  clear hM19 HM18
  have t5 := cell_at (j := 0) (HM19.out.at HE5.out id) rfl
  go_wp2_with fail
  have HSZ : Hid (w2.heap.size < w3.heap.size ∧ w3.heap.size ≤ w4.heap.size ∧ w4.heap.size < w5.heap.size ∧ w5.heap.size ≤ w6.heap.size ∧ w6.heap.size < w7.heap.size ∧ w7.heap.size ≤ w8.heap.size ∧ w8.heap.size < w9.heap.size ∧
      w9.heap.size ≤ w10.heap.size ∧ w10.heap.size < w11.heap.size ∧ w11.heap.size ≤ w12.heap.size ∧ w12.heap.size < w13.heap.size ∧ w13.heap.size ≤ w14.heap.size ∧ w14.heap.size < w15.heap.size) :=
    Lib.hid ⟨HS3.out, HD5.out.size, HS5.out, HD7.out.size, HS7.out, HD9.out.size, HS9.out, HD11.out.size, HS11.out, HD13.out.size, HS13.out, HD15.out.size, HS15.out⟩
  have HND : Hid ((bp ++ bq ++ br ++ bs ++ bx ++ by_).Nodup) := Lib.hid (six_hnd HF5.out HF7.out HF9.out.1 HF11.out.1 HF13.out HF15.out (by have := HSZ.out; omega))
  have hT19 : TD w19 w15.heap.size w2.heap.size none 0 none 0 none 0 [] [] [] := by
    refine ⟨?_, by have := HSZ.out; omega, Mine.Own.nil _ _ _, Mine.Own.nil _ _ _, Mine.Own.nil _ _ _, by simp, by simp, by simp, by simp, by simp, by simp⟩
    exact HM19.out.at (HX5.out.at (HC5.out.at (HD5.out.at HB3.out id) id) id) id
  have HT19 := Lib.hid hT19
  clear hT19 HS3 HS5 HS7 HS9 HS11 HS13 HS15
  obtain ⟨ap', xp, bsp, hep, hcp, hxp, hlp, htp, hbp, hndp, hgep⟩ := HG5.out
  obtain ⟨aq', xq, bsq, heq, hcq, hxq, hlq, htq, hbq, hndq, hgeq⟩ := HG7.out
  simp only [Value.slice.injEq] at hep heq
  obtain ⟨rfl, rfl, _⟩ := hep
  obtain ⟨rfl, hnq, _⟩ := heq
  subst hnq
  have HP1 := Lib.hid hcp.rd; have HP2 := Lib.hid (And.intro hxp (And.intro hlp htp)); have HP3 := Lib.hid hbp; have HP4 := Lib.hid hgep
  have HQ1 := Lib.hid hcq.rd; have HQ2 := Lib.hid (And.intro hxq (And.intro hlq htq)); have HQ3 := Lib.hid hbq; have HQ4 := Lib.hid hgeq
  have HP5 := Lib.hid hcp.lt; have HQ5 := Lib.hid hcq.lt
  have HPL := Lib.hid HF5.out.lt; have HQLT := Lib.hid HF7.out.lt
  obtain ⟨ha9, ba9, ys9, h91, h92, hRL9⟩ := rf_rl HG9.out HRS.out
  obtain ⟨ha11, ba11, ys11, h111, h112, hRL11⟩ := rf_rl HG11.out HRS.out
  have HR9 := Lib.hid hRL9; have HR11 := Lib.hid hRL11
  simp only [Value.slice.injEq] at h91 h92 h111 h112
  obtain ⟨rfl, rfl, _⟩ := h91
  obtain ⟨rfl, rfl, _⟩ := h92
  obtain ⟨rfl, h111n, _⟩ := h111
  obtain ⟨rfl, h112n, _⟩ := h112
  subst h111n h112n
  have HF9b := Lib.hid HF9.out.2; have HF11b := Lib.hid HF11.out.2
  clear hRL9 hRL11
  clear hcp hcq hxp hxq hlp hlq htp htq hbp hbq hndp hndq hgep hgeq t5
  go_loopw [25] (fun iv wr => ∃ (i : Nat) (d1 : Option Addr) (e1 : Nat) (d2 : Option Addr) (e2 : Nat) (Lt Ll : Ps), iv = .int .i64 i ∧ i ≤ ps.length ∧ i ≤ 40 ∧ Hid (TD wr w15.heap.size w2.heap.size d1 e1 d2 e2 none 0 Lt Ll []) ∧
    Hid (Mod (fun b => b = w2.heap.size ∨ w15.heap.size ≤ b) w15 wr) ∧ Hid (Sofar w15 Lt Ll ((bsp.take i).flatten ++ (bsq.take i).flatten)) ∧ Hid (Lt.length ≤ 130 * i ∧ Ll.length ≤ 2 * i)) (fun iv _ => 40 - (intOf iv).toNat)
  case atStart => exact ⟨0, none, 0, none, 0, [], [], rfl, Nat.zero_le _, Nat.zero_le _, HT19, Lib.hid (HM19.out.mono (fun _ _ h => h.elim)), Lib.hid ((Sofar.nil w15).mono (fun c => by simp)), Lib.hid ⟨by simp, by simp⟩⟩
  case round =>
    obtain ⟨i, d1, e1, d2, e2, Lt, Ll, rfl, hi, hi4, hT, hM, hSo, hLn⟩ := hrel
    have t5 := hM.out.cell (cell_at (j := 0) HE5.out rfl) (by have := HSZ.out; simp only; omega)
    by_cases hlt : i < ps.length
    · by_cases hl4 : i < 40
      · obtain ⟨r, ha, ba, ys, b, hx1, hb1, hRL⟩ := rs_told HP2.out.1 HP2.out.2.1 HP2.out.2.2 HPS.out.2 hlt
        obtain ⟨pb, po, rfl, x0, x1, x2⟩ := rd_cellR (HP1.out.mod hM.out (fun c hc e => by
          have h1 := HP5.out c hc
          have h2 := HP4.out c (by rw [HP3.out, hc]; simp)
          have := HSZ.out
          omega)) hx1
        have HRL := Lib.hid hRL; have HB1 := Lib.hid hb1
        clear hx1 hb1 hRL
        go_wp2_with fail
        have hbk : ∀ c ∈ b, w3.heap.size ≤ c ∧ c < w4.heap.size := fun c hc => by
          have : c ∈ bp := by rw [HP3.out]; exact List.mem_append_right _ (List.mem_flatten.2 ⟨b, List.mem_of_getElem? HB1.out, hc⟩)
          exact ⟨HP4.out c this, HPL.out c this⟩
        refine (told_rule wr w15.heap.size w2.heap.size d1 e1 d2 e2 none 0 Lt Ll [] hT.out hM.out.size r.head.pred ha r.head.terms.length ba ys r.body.length HRL.out.len
          (HRL.out.rd.mod hM.out (fun c hc e => by have := hbk c (HRL.out.mem c hc); have := HSZ.out; omega)) (fun c hc => by have := hbk c (HRL.out.mem c hc); have := HSZ.out; omega) (qs ys) HRL.out.q (by have := HRL.out.sm; omega) (by have := HRL.out.sm; have := hLn.out; omega) (by have := hLn.out; omega)).mono ?_
        rintro e w20 ⟨rfl, d3, e3, d4, e4, hT20, hM20⟩
        have HT20 := Lib.hid hT20; have HM20 := Lib.hid (hM.out.trans hM20)
        have HS20 := Lib.hid (HRL.out.told hSo.out)
        have HL20 : Hid ((Lt ++ [(ha, r.head.terms.length)] ++ qs ys).length ≤ 130 * i + 65 ∧ (Ll ++ [(ba, r.body.length)]).length ≤ 2 * i + 1) := Lib.hid (by
          have h1 := hLn.out; have h2 := HRL.out.sm; have h3 := HRL.out.len
          simp [qs]; omega)
        clear hT20 hM20 t5 x0 x1 x2
        obtain ⟨r', ha', ba', ys', b', hx2, hb2, hRL2⟩ := rs_told HQ2.out.1 HQ2.out.2.1 HQ2.out.2.2 HPS.out.2 hlt
        have t7 := HM20.out.cell (cell_at (j := 0) HE7.out rfl) (by have := HSZ.out; simp only; omega)
        obtain ⟨qb, qo, rfl, y0, y1, y2⟩ := rd_cellR (HQ1.out.mod HM20.out (fun c hc e => by
          have h1 := HQ5.out c hc
          have h2 := HQ4.out c (by rw [HQ3.out, hc]; simp)
          have := HSZ.out
          omega)) hx2
        have HRL2 := Lib.hid hRL2; have HB2 := Lib.hid hb2
        clear hx2 hb2 hRL2
        go_wp2_with fail
        have hbk2 : ∀ c ∈ b', w5.heap.size ≤ c ∧ c < w6.heap.size := fun c hc => by
          have : c ∈ bq := by rw [HQ3.out]; exact List.mem_append_right _ (List.mem_flatten.2 ⟨b', List.mem_of_getElem? HB2.out, hc⟩)
          exact ⟨HQ4.out c this, HQLT.out c this⟩
        refine (told_rule w20 w15.heap.size w2.heap.size d3 e3 d4 e4 none 0 _ _ [] HT20.out HM20.out.size r'.head.pred ha' r'.head.terms.length ba' ys' r'.body.length HRL2.out.len
          (HRL2.out.rd.mod HM20.out (fun c hc e => by have := hbk2 c (HRL2.out.mem c hc); have := HSZ.out; omega)) (fun c hc => by have := hbk2 c (HRL2.out.mem c hc); have := HSZ.out; omega) (qs ys') HRL2.out.q (by have := HRL2.out.sm; omega) (by have := HRL2.out.sm; have := HL20.out; omega) (by have := HL20.out; omega)).mono ?_
        rintro e w21 ⟨rfl, d5, e5, d6, e6, hT21, hM21⟩
        have HT21 := Lib.hid hT21; have HM21 := Lib.hid (HM20.out.trans hM21)
        have HS21 := Lib.hid (HRL2.out.told HS20.out)
        have HL21 : Hid ((Lt ++ [(ha, r.head.terms.length)] ++ qs ys ++ [(ha', r'.head.terms.length)] ++ qs ys').length ≤ 130 * (i + 1) ∧ (Ll ++ [(ba, r.body.length)] ++ [(ba', r'.body.length)]).length ≤ 2 * (i + 1)) := Lib.hid (by
          have h1 := HL20.out; have h2 := HRL2.out.sm; have h3 := HRL2.out.len
          simp [qs] at h1 ⊢; omega)
        clear hT21 hM21 t7 y0 y1 y2
        go_wp2_with fail
        go_roundw
        case rel =>
          refine ⟨i + 1, d5, e5, d6, e6, _, _, by go_num, hlt, hl4, HT21, HM21, Lib.hid (HS21.out.mono (fun c => ?_)), HL21⟩
          rw [flat_take HB1.out, flat_take HB2.out]
          simp only [List.count_append]
          omega
        case measure => simp [intOf]; omega
      · obtain rfl : i = 40 := by omega
        have v0 := hM.out.cell (cell_at (j := 0) HE9.out rfl) (by have := HSZ.out; simp only; omega)
        have v1 := hM.out.cell (cell_at (j := 1) HE9.out rfl) (by have := HSZ.out; simp only; omega)
        have v2 := hM.out.cell (cell_at (j := 2) HE9.out rfl) (by have := HSZ.out; simp only; omega)
        have hb9 : ∀ c, blk _ = some c → c < w15.heap.size ∧ c ≠ w2.heap.size := fun c hc => ⟨by obtain ⟨_, h⟩ := HR9.out.l; exact h.lt c hc, by have := HF9b.out c (HR9.out.mem c hc); have := HSZ.out; omega⟩
        have hb11 : ∀ c, blk _ = some c → c < w15.heap.size ∧ c ≠ w2.heap.size := fun c hc => ⟨by obtain ⟨_, h⟩ := HR11.out.l; exact h.lt c hc, by have := HF11b.out c (HR11.out.mem c hc); have := HSZ.out; omega⟩
        go_wp2_with fail
        refine (told_rule wr w15.heap.size w2.heap.size d1 e1 d2 e2 none 0 Lt Ll [] hT.out hM.out.size _ _ _ _ ys9 _ HR9.out.len (HR9.out.rd.mod hM.out (fun c hc e => by have := hb9 c hc; omega)) hb9 (qs ys9) HR9.out.q (by have := HR9.out.sm; omega) (by have := HR9.out.sm; have := hLn.out; omega) (by have := hLn.out; omega)).mono ?_
        rintro e w22 ⟨rfl, d3, e3, d4, e4, hT22, hM22⟩
        have HT22 := Lib.hid hT22; have HM22 := Lib.hid (hM.out.trans hM22)
        have HS22 := Lib.hid (HR9.out.told hSo.out)
        clear hT22 hM22 v0 v1 v2 t5
        have v0 := HM22.out.cell (cell_at (j := 0) HE11.out rfl) (by have := HSZ.out; simp only; omega)
        have v1 := HM22.out.cell (cell_at (j := 1) HE11.out rfl) (by have := HSZ.out; simp only; omega)
        have v2 := HM22.out.cell (cell_at (j := 2) HE11.out rfl) (by have := HSZ.out; simp only; omega)
        go_wp2_with fail
        refine (told_rule w22 w15.heap.size w2.heap.size d3 e3 d4 e4 none 0 _ _ [] HT22.out HM22.out.size _ _ _ _ ys11 _ HR11.out.len (HR11.out.rd.mod HM22.out (fun c hc e => by have := hb11 c hc; omega)) hb11 (qs ys11) HR11.out.q (by have := HR11.out.sm; omega) (by have h := HR11.out.sm; have h2 := hLn.out; have h3 := HR9.out.sm; have h4 := HR9.out.len; simp [qs]; omega) (by have := hLn.out; simp; omega)).mono ?_
        rintro e w23 ⟨rfl, d5, e5, d6, e6, hT23, hM23⟩
        obtain ⟨L3, M3, hT3, hS3, hl3, hm3⟩ : ∃ L3 M3, TD w23 w15.heap.size w2.heap.size d5 e5 d6 e6 none 0 L3 M3 [] ∧ Sofar w15 L3 M3 (((((bsp.take 40).flatten ++ (bsq.take 40).flatten)) ++ br) ++ bs) ∧ L3.length ≤ 6000 ∧ M3.length ≤ 100 :=
          ⟨_, _, hT23, HR11.out.told HS22.out, by have h := HR11.out.sm; have h2 := hLn.out; have h3 := HR9.out.sm; have h4 := HR9.out.len; have h5 := HR11.out.len; simp [qs]; omega, by have := hLn.out; simp; omega⟩
        have HT23 := Lib.hid hT3; have HM23 := Lib.hid (HM22.out.trans hM23); have HS23 := Lib.hid hS3
        clear hT23 hM23 v0 v1 v2 hT3 hS3 HT22 HM22 HS22
        have q0 := cell_at (j := 0) HT23.out.at_ rfl
        have x1 := HM23.out.cell (cell_at (j := 1) HE13.out rfl) (by have := HSZ.out; simp only; omega)
        have y1 := HM23.out.cell (cell_at (j := 1) HE15.out rfl) (by have := HSZ.out; simp only; omega)
        go_wp2_with fail
        refine wp_region_ord (fun W => W.cell? ⟨w2.heap.size, 0, none⟩ = some (.slice d5 L3.length e5) ∧ W.cell? ⟨w12.heap.size, 1, none⟩ = some (.slice ax nx nx) ∧ W.cell? ⟨w14.heap.size, 1, none⟩ = some (.slice ay ny ny)) [(0, 0), (0, 1), (0, 2), (0, 3), (1, 4), (0, 5), (1, 6), (0, 7), (1, 8), (2, 9), (3, 10), (0, 11), (0, 12), (3, 13)] (by kernel_rfl) (by kernel_rfl) ?_
        go_wp2_with (first
          | (refine ord_pure rfl rfl rfl (fun K hK => ?_); go_big_quiet_op; refine hK _ ?_; clear hK K)
                        | (refine ord_skip rfl rfl ?_; simp only [Act.put, List.setIfInBounds_toArray, List.set_cons_zero, List.set_cons_succ])
                        | (refine ord_held rfl rfl rfl (⟨q0, x1, y1⟩) (fun K hK => ?_); apply Exists.intro; refine ⟨fun w' hs => ?_, hK _ ?_⟩; (revert hs; dsimp only; (try simp only [and_imp]); intros; go_simp; rfl); clear hK K)
                        | (refine ord_keep rfl rfl (⟨q0, x1, y1⟩) (fun K hK => ?_))
                        | (refine ord_drop rfl rfl (fun K hK => ?_))
                        | (refine ord_nil ?_))
        have m5 : Mod (fun _ => False) w23 (w23.alloc (.cells #[.slice ax nx nx, .slice ay ny ny] 37)).drew := ((Mod.refl _ w23).alloc _).drew
        refine hK _ _ ⟨m5.cell q0 id, m5.cell x1 id, m5.cell y1 id⟩ ?_; clear hK K
        have HT5 := Lib.hid (HT23.out.mod0 m5)
        have HM5 := Lib.hid m5
        clear m5 q0 x1 y1
        go_wp2_with (first
          | (refine ord_drop rfl rfl (fun K hK => ?_); refine wpO_append (.tmp 145) (.tmp 150) 26 26 rfl tiTs rfl HT5.out.o1 rfl (Src.ofRd tiTs.ht 2 2 (Rd.dr (Rd.news w23 [_, _] 37)) (by simp) (by simp [Value.oneCell'])) (by omega) (by unfold maxLen; omega) ?_; intro d7 e7 w24 hO5 hG5 _
             have hb5 := hG5.mod.at HT5.out.at_ (fun e => by have := HT5.out.g1 _ e; have := HT5.out.tlt; omega)
             have g5 := cell_at (j := 0) hb5 rfl
             have q5 : w24.frozen? ⟨w2.heap.size, 0, none⟩ = false := frozen_at hb5
             have HO5 := Lib.hid hO5; have HG5 := Lib.hid hG5
             clear hO5 hG5 hb5
             refine hK _ _ ?_; clear hK K)
          | (refine ord_pure rfl rfl rfl (fun K hK => ?_); go_big_quiet_op; refine hK _ ?_; clear hK K)
                        | (refine ord_skip rfl rfl ?_; simp only [Act.put, List.setIfInBounds_toArray, List.set_cons_zero, List.set_cons_succ])
                        | (refine ord_held rfl rfl rfl (trivial) (fun K hK => ?_); apply Exists.intro; refine ⟨fun w' hs => ?_, hK _ ?_⟩; (revert hs; dsimp only; (try simp only [and_imp]); intros; go_simp; rfl); clear hK K)
                        | (refine ord_keep rfl rfl (trivial) (fun K hK => ?_))
                        | (refine ord_drop rfl rfl (fun K hK => ?_))
                        | (refine ord_nil ?_))
        clear g5 q5
        obtain ⟨hT25, hM25⟩ := HT23.out.step1 (P := [(ax, nx), (ay, ny)]) HM23.out.size HM5.out (n := L3.length + 2) (by simp) HO5.out HG5.out
        obtain ⟨w25, hw25⟩ : ∃ w25, w25 = w24.setCell ⟨w2.heap.size, 0, none⟩ (.slice d7 (L3.length + 2) e7) := ⟨_, rfl⟩
        rw [← hw25] at hT25 hM25 ⊢
        clear hw25
        have HT25 := Lib.hid hT25
        have HM25 : Hid (Mod (fun b => b = w2.heap.size ∨ w15.heap.size ≤ b) w15 w25) := Lib.hid (HM23.out.trans (hM25.mono (fun b _ e => e.elim .inl (fun e => .inr (HT23.out.g1 b e)))))
        clear hT25 hM25 HO5 HG5 HT5 HM5 HM23
        have q2 := cell_at (j := 2) HT25.out.at_ rfl
        have p1 := HM25.out.cell (cell_at (j := 0) HE5.out rfl) (by have := HSZ.out; simp only; omega)
        have p2 := HM25.out.cell (cell_at (j := 0) HE7.out rfl) (by have := HSZ.out; simp only; omega)
        refine wp_region_ord (fun W => W.cell? ⟨w2.heap.size, 2, none⟩ = some (.slice none 0 0) ∧ W.cell? ⟨w4.heap.size, 0, none⟩ = some (.slice ap ps.length ps.length) ∧ W.cell? ⟨w6.heap.size, 0, none⟩ = some (.slice aq ps.length ps.length)) [(0, 0), (0, 1), (0, 2), (0, 3), (1, 4), (0, 5), (1, 6), (0, 7), (1, 8), (2, 9), (3, 10), (0, 11), (0, 12), (3, 13)] (by kernel_rfl) (by kernel_rfl) ?_
        go_wp2_with (first
          | (refine ord_pure rfl rfl rfl (fun K hK => ?_); go_big_quiet_op; refine hK _ ?_; clear hK K)
                        | (refine ord_skip rfl rfl ?_; simp only [Act.put, List.setIfInBounds_toArray, List.set_cons_zero, List.set_cons_succ])
                        | (refine ord_held rfl rfl rfl (⟨q2, p1, p2⟩) (fun K hK => ?_); apply Exists.intro; refine ⟨fun w' hs => ?_, hK _ ?_⟩; (revert hs; dsimp only; (try simp only [and_imp]); intros; go_simp; rfl); clear hK K)
                        | (refine ord_keep rfl rfl (⟨q2, p1, p2⟩) (fun K hK => ?_))
                        | (refine ord_drop rfl rfl (fun K hK => ?_))
                        | (refine ord_nil ?_))
        have m6 : Mod (fun _ => False) w25 (w25.alloc (.cells #[.slice ap ps.length ps.length, .slice aq ps.length ps.length] 31)).drew := ((Mod.refl _ w25).alloc _).drew
        refine hK _ _ ⟨m6.cell q2 id, m6.cell p1 id, m6.cell p2 id⟩ ?_; clear hK K
        have HT6 := Lib.hid (HT25.out.mod0 m6)
        have HM6 := Lib.hid m6
        clear m6 q2 p1 p2
        go_wp2_with (first
          | (refine ord_drop rfl rfl (fun K hK => ?_); refine wpO_append (.tmp 158) (.tmp 163) 28 28 rfl tiRs rfl HT6.out.o3 rfl (Src.ofRd tiRs.ht 2 2 (Rd.dr (Rd.news w25 [_, _] 31)) (by simp) (by simp [Value.oneCell'])) (by simp) (by unfold maxLen; simp) ?_; intro d9 e9 w26 hO6 hG6 _
             have hb6 := hG6.mod.at HT6.out.at_ (fun e => by simp at e)
             have g6 := cell_at (j := 2) hb6 rfl
             have q6 : w26.frozen? ⟨w2.heap.size, 2, none⟩ = false := frozen_at hb6
             have HO6 := Lib.hid hO6; have HG6 := Lib.hid hG6
             clear hO6 hG6 hb6
             refine hK _ _ ?_; clear hK K)
          | (refine ord_pure rfl rfl rfl (fun K hK => ?_); go_big_quiet_op; refine hK _ ?_; clear hK K)
                        | (refine ord_skip rfl rfl ?_; simp only [Act.put, List.setIfInBounds_toArray, List.set_cons_zero, List.set_cons_succ])
                        | (refine ord_held rfl rfl rfl (trivial) (fun K hK => ?_); apply Exists.intro; refine ⟨fun w' hs => ?_, hK _ ?_⟩; (revert hs; dsimp only; (try simp only [and_imp]); intros; go_simp; rfl); clear hK K)
                        | (refine ord_keep rfl rfl (trivial) (fun K hK => ?_))
                        | (refine ord_drop rfl rfl (fun K hK => ?_))
                        | (refine ord_nil ?_))
        clear g6 q6
        obtain ⟨hT27, hM27⟩ := HT25.out.step3 (P := [(ap, ps.length), (aq, ps.length)]) HM25.out.size HM6.out (n := 2) rfl HO6.out HG6.out
        obtain ⟨w27, hw27⟩ : ∃ w27, w27 = w26.setCell ⟨w2.heap.size, 2, none⟩ (.slice d9 2 e9) := ⟨_, rfl⟩
        rw [← hw27] at hT27 hM27 ⊢
        clear hw27
        have HT27 := Lib.hid hT27
        have HM27 : Hid (Mod (fun b => b = w2.heap.size ∨ w15.heap.size ≤ b) w15 w27) := Lib.hid (HM25.out.trans (hM27.mono (fun b _ e => e.elim .inl (fun e => by simp at e))))
        clear hT27 hM27 HO6 HG6 HT6 HM6 HM25 HT25
        have hS27 : Sofar w15 (L3 ++ [(ax, nx), (ay, ny)]) (M3 ++ []) ((((((bsp.take 40).flatten ++ (bsq.take 40).flatten)) ++ br) ++ bs) ++ (bx ++ by_)) := by
          obtain ⟨ax', hx1, hx2, hx3, _⟩ := HG13.out
          obtain ⟨ay', hy1, hy2, hy3, _⟩ := HG15.out
          simp only [Value.slice.injEq] at hx1 hy1
          obtain ⟨rfl, hx4, _⟩ := hx1
          obtain ⟨rfl, hy4, _⟩ := hy1
          have h64 := HAS.out.2.1
          refine HS23.out.add (fun p hp => ?_) (by simp) (fun c => ?_)
          · simp only [List.mem_cons, List.not_mem_nil, or_false] at hp
            rcases hp with rfl | rfl
            · exact ⟨by simp only; omega, _, by rw [hx4]; exact hx2⟩
            · exact ⟨by simp only; omega, _, by rw [hy4]; exact hy2⟩
          · rw [hx3, hy3]; simp [psB]
        rw [List.append_nil M3] at hS27
        have htot : ∀ c, ((((((bsp.take 40).flatten ++ (bsq.take 40).flatten)) ++ br) ++ bs) ++ (bx ++ by_)).count c + (psB ([] ++ [(ap, ps.length), (aq, ps.length)])).count c ≤ (bp ++ bq ++ br ++ bs ++ bx ++ by_).count c := fun c => by
          have h1 := flat_sub bsp 40 c
          have h2 := flat_sub bsq 40 c
          rw [HP3.out, HQ3.out]
          simp only [psB, List.nil_append, List.flatMap_cons, List.flatMap_nil, List.append_nil, List.count_append]
          omega
        have hap := apart3 (told_nd hS27 HND.out htot)
        have hin : ∀ b, inPs (L3 ++ [(ax, nx), (ay, ny)]) b ∨ inPs M3 b ∨ inPs ([] ++ [(ap, ps.length), (aq, ps.length)]) b → w3.heap.size ≤ b ∧ b < w15.heap.size := fun b h => by
          have h2 := told_in hS27 htot h
          have hz := HSZ.out
          simp only [List.mem_append, or_assoc] at h2
          rcases h2 with h2 | h2 | h2 | h2 | h2 | h2
          · have := HP4.out b h2; have := HPL.out b h2; omega
          · have := HQ4.out b h2; have := HQLT.out b h2; omega
          · have := HF9.out.1.bd b h2; omega
          · have := HF11.out.1.bd b h2; omega
          · have := HF13.out.ge b h2; have := HF13.out.lt b h2; omega
          · have := HF15.out.ge b h2; have := HF15.out.lt b h2; omega
        have hout : ∀ b, w3.heap.size ≤ b ∧ b < w15.heap.size → ¬ (b = w2.heap.size ∨ w15.heap.size ≤ b) := fun b h e => by have hz := HSZ.out.1; omega
        have hAt : Apart w27 72 2 (L3 ++ [(ax, nx), (ay, ny)]) := (Apart.of hS27.t hap.1 (by simp; omega)).mod HM27.out (fun b hb => hout b (hin b (.inl hb)))
        have hAl : Apart w27 74 8 M3 := (Apart.of hS27.l hap.2.1 (by omega)).mod HM27.out (fun b hb => hout b (hin b (.inr (.inl hb))))
        have hAr : Apart w27 42 3 ([] ++ [(ap, ps.length), (aq, ps.length)]) := by
          refine (Apart.of (w := w15) (fun p hp => ?_) hap.2.2.1 (by simp)).mod HM27.out (fun b hb => hout b (hin b (.inr (.inr hb))))
          have h1024 := HPS.out.1
          simp only [List.nil_append, List.mem_cons, List.not_mem_nil, or_false] at hp
          rcases hp with rfl | rfl
          · obtain ⟨a', xp', _, he, hc, _⟩ := HG5.out
            simp only [Value.slice.injEq] at he
            obtain ⟨rfl, _, _⟩ := he
            exact ⟨by simp only; omega, _, hc⟩
          · obtain ⟨a', xp', _, he, hc, _⟩ := HG7.out
            simp only [Value.slice.injEq] at he
            obtain ⟨rfl, _, _⟩ := he
            exact ⟨by simp only; omega, _, hc⟩
        refine (apart_true HT27.out hAt hAl hAr (by simp) (fun b hb => ?_) hap.2.2.2.1 hap.2.2.2.2.1 hap.2.2.2.2.2).mono ?_
        · have h1 := hin b hb
          have hz := HSZ.out.1
          omega
        rintro e w28 ⟨rfl, hM28⟩
        have HM28 : Hid (Mod (fun b => w2.heap.size ≤ b) w2 w28) := Lib.hid (by
          have q1 := HM15.out.mono (T := fun b => w2.heap.size ≤ b) (fun _ _ e => e.elim)
          have q2 := HM27.out.mono (T := fun b => w2.heap.size ≤ b) (fun b _ e => by have hz := HSZ.out; rcases e with e | e <;> omega)
          have q3 := hM28.mono (T := fun b => w2.heap.size ≤ b) (fun b _ e => by have h1 := hin b e; have hz := HSZ.out.1; omega)
          exact (q1.trans q2).trans q3)
        clear hM28 hAt hAl hAr hap hin hout hS27 htot
        clear HT27 HM27 HG5 HG7 HG9 HG11 HG13 HG15 HR9 HR11 HS23 HND HF9b HF11b HP1 HP2 HP3 HP4 HP5 HPL HQ1 HQ2 HQ3 HQ4 HQ5 HQLT
        have HW28 : Hid (Mod (fun _ => False) w w28) := Lib.hid (HM2.out.step HM28.out (fun i hi e => by have := HM2.out.size; omega))
        have HGL : Hid (g < w2.heap.size) := Lib.hid (HI.out.lt g rfl)
        have hgi : ∀ b, blk (some (⟨g, 0, none⟩ : Addr)) = some b → ¬ w2.heap.size ≤ b := fun b hb e => by have hb2 : g = b := Option.some.inj hb; have := HGL.out; omega
        have HGI := Lib.hid hgi
        clear hgi
        go_wp2_with fail
        refine (HPP.out g c' w28 (own_rd (HI.out.mod HM28.out HGI.out)) (tabs_mod HT.out HW28.out)).mono ?_
        rintro e w29 ⟨_, _, _, rfl, _, hM29⟩
        have HM29 := Lib.hid (HM28.out.step hM29 (fun _ _ e => e.elim)); have HW29 := Lib.hid (HW28.out.trans hM29)
        clear hM29 HM28 HW28
        go_wp2_with fail
        refine (HPR.out g c' w29 (own_rd (HI.out.mod HM29.out HGI.out)) (tabs_mod HT.out HW29.out)).mono ?_
        rintro e w30 ⟨_, _, _, _, _, rfl, _, _, hM30⟩
        have HM30 := Lib.hid (HM29.out.step hM30 (fun _ _ e => e.elim)); have HW30 := Lib.hid (HW29.out.trans hM30)
        clear hM30 HM29 HW29
        go_wp2_with fail
        refine (HPA.out g c' w30 (own_rd (HI.out.mod HM30.out HGI.out)) (tabs_mod HT.out HW30.out)).mono ?_
        rintro e w31 ⟨_, _, _, rfl, _, hM31⟩
        have HI31 := Lib.hid (HI.out.mod (HM30.out.step hM31 (fun _ _ e => e.elim)) HGI.out); have HW31 := Lib.hid (HW30.out.trans hM31)
        clear hM31 HM30 HW30 HPP HPR HPA HI HGI HGL
        go_wp2_with fail
        go_loopw [26] (fun iv wr => ∃ k : Nat, iv = .int .i64 k ∧ k ≤ l.length ∧ Hid (Mine.Own wr 5 1 (some ⟨g, 0, none⟩) (l.length + 2) c' (bts (ovr l2 l k ++ [201, 202]))) ∧ Hid (Mod (fun b => b = g) w31 wr)) (fun iv _ => l.length - (intOf iv).toNat)
        case atStart => exact ⟨0, rfl, Nat.zero_le _, by rw [ovr_zero]; exact HI31, Lib.hid (Mod.refl _ _)⟩
        case round =>
          obtain ⟨k, rfl, hk, hO, hM⟩ := hrel
          by_cases hlt : k < l.length
          · have hcell : wr.cell? ⟨g, k, none⟩ = some (.int .u8 l[k].toNat) := by
              obtain ⟨b, o, e, hc⟩ := hO.out.rd k (.int .u8 l[k].toNat) (ovr_get l2 l hlt)
              cases e
              simpa using hc
            have hfz : wr.frozen? ⟨g, k, none⟩ = false := hO.out.frozen rfl
            by_cases hk2 : k < l2.length
            · obtain ⟨b2, o2, rfl, y0⟩ := bts_cell (HR2.out.mod (HW31.out.step hM.out (fun i hi e => by have e : i = g := e; have := HG.out; omega)) (fun _ _ => id)) hk2
              have hb2 : b2 < w.heap.size := HR2.out.lt (by intro e; have := congrArg List.length e; simp only [bts_length, List.length_nil] at this; omega) b2 rfl
              have hn1 : ¬ b2 = g := fun e => by have := HG.out; omega
              have hn2 : ¬ g = b2 := fun e => by have := HG.out; omega
              have HST := Lib.hid (ovr_set2 l2 l hlt hk2)
              clear hb2
              go_wp2_with fail
              go_roundw
              case rel => exact ⟨k + 1, by go_num, hlt, by unfold Hid; rw [← HST.out]; exact (hO.out.store k _).store k _, Lib.hid ((hM.out.setCell (p := ⟨g, k, none⟩) (fun _ => rfl) _).setCell (p := ⟨g, k, none⟩) (fun _ => rfl) _)⟩
              case measure => simp [intOf]; omega
            · have HST := Lib.hid (ovr_set1 l2 l hlt hk2)
              go_wp2_with fail
              go_roundw
              case rel => exact ⟨k + 1, by go_num, hlt, by unfold Hid; rw [← HST.out]; exact hO.out.store k _, Lib.hid (hM.out.setCell (p := ⟨g, k, none⟩) (fun _ => rfl) _)⟩
              case measure => simp [intOf]; omega
          · obtain rfl : k = l.length := by omega
            obtain ⟨m, hm, hml⟩ : ∃ m, m = ovr l2 l l.length ∧ m.length = l.length := ⟨_, rfl, ovr_len l2 l (Nat.le_refl _)⟩
            have hO2 := hO.out
            rw [← hm, ← hml] at hO2
            have HW32 : Hid (Mod (fun _ => False) w wr) := Lib.hid (HW31.out.step hM.out (fun i hi e => by have e : i = g := e; have := HG.out; omega))
            have HO32 := Lib.hid hO2
            have hml2 : l.length ≤ 1048576 := hs
            clear hO2 hO hM hm
            clear HI31 HW31 HR2 HC5 HC7 HC9 HC11 HC13 HC15 HD5 HD7 HD9 HD11 HD13 HD15 HX5 HX7 HX9 HX11 HX13
            obtain ⟨u0, hu0⟩ : ∃ u0, u0 = wr := ⟨_, rfl⟩
            rw [← hu0] at HW32 HO32 ⊢
            clear hu0 wr
            have hml3 : m.length ≤ 1048576 := by omega
            have HPP := Lib.hid (fun a0 c0 W => parse_saysF m l.length hml (by omega) a0 c0 W)
            have HPR := Lib.hid (fun a0 c0 W => parseRule_saysF m l.length hml (by omega) a0 c0 W)
            have HPA := Lib.hid (fun a0 c0 W => parseAtom_saysF m l.length hml (by omega) a0 c0 W)
            have hps := progV_small ⟨m.toArray⟩
            have hrs := ruleV_small ⟨m.toArray⟩
            have has := atomV_small ⟨m.toArray⟩
            have HLN := Lib.hid (law8Lent_any (some ⟨g, 0, none⟩) c' m u0 (own_rd HO32.out) (by omega))
            rw [hml] at HLN
            unfold PSayF at HPP
            unfold RSayF rmV at HPR
            unfold ASayF at HPA
            generalize valOf [] (progS ⟨m.toArray⟩) = ps2 at *
            generalize valOf rm0 (ruleS ⟨m.toArray⟩) = rv2 at *
            generalize valOf am0 (atomS ⟨m.toArray⟩) = av2 at *
            generalize atOf (progS ⟨m.toArray⟩) = pat at *
            generalize noOf (progS ⟨m.toArray⟩) = pno at *
            generalize atOf (ruleS ⟨m.toArray⟩) = rat at *
            generalize noOf (ruleS ⟨m.toArray⟩) = rno at *
            generalize atOf (atomS ⟨m.toArray⟩) = aat at *
            generalize noOf (atomS ⟨m.toArray⟩) = ano at *
            have HPS2 := Lib.hid hps; have HRS2 := Lib.hid hrs; have HAS2 := Lib.hid has
            clear hps hrs has
            go_wp2_with fail
            refine HLN.out.mono ?_
            rintro e u1 ⟨g2, c2', rfl, hg2, hI2, hMx⟩
            have HI2 := Lib.hid hI2
            have HN1 : Hid (Mod (fun _ => False) u0 u1) := Lib.hid hMx
            have HO1 := Lib.hid (own_rd HO32.out)
            have HI1 := Lib.hid (own_rd (l := m) (by rw [hml]; exact HI2.out))
            have HP1 : Hid (Mod (fun _ => False) u1 u1) := Lib.hid (Mod.refl _ u1)
            clear hMx hI2 HLN hg2 HO32 HI2
            go_wp2_with fail
            -- six readings
            refine (HPP.out (some ⟨g, 0, none⟩) c' u1 (HO1.out.mod HN1.out (fun _ _ => id)) (tabs_mod HT.out (HW32.out.trans HN1.out))).mono ?_
            rintro e u2 ⟨b11, k11, bb1, rfl, hf, hMx⟩
            go_wp2_with fail
            obtain ⟨u3, hu3⟩ : ∃ v, v = u2.alloc (.cells #[.slice b11 k11 k11] 33) := ⟨_, rfl⟩
            rw [← hu3]
            have HN3 : Hid (Mod (fun _ => False) u0 u3) := Lib.hid (by rw [hu3]; exact (HN1.out.trans hMx).alloc _)
            have HQ3 : Hid (Mod (fun _ => False) u2 u3) := Lib.hid (by rw [hu3]; exact (Mod.refl _ u2).alloc _)
            have HR3 : Hid (Mod (fun _ => False) u1 u3) := Lib.hid (by rw [hu3]; exact hMx.alloc _)
            have HP3 : Hid (Mod (fun _ => False) u1 u3) := Lib.hid (HR3.out)
            have HB3 : Hid (u3.heap[u2.heap.size]? = some (.cells #[.slice b11 k11 k11] 33 )) := Lib.hid (by rw [hu3]; exact heap_alloc_new u2 _)
            have HF3 := Lib.hid hf
            clear hMx hf hu3
            refine (HPP.out (some ⟨g2, 0, none⟩) c2' u3 (HI1.out.mod HP3.out (fun _ _ => id)) (tabs_mod HT.out (HW32.out.trans HN3.out))).mono ?_
            rintro e u4 ⟨b21, k21, bb2, rfl, hf, hMx⟩
            go_wp2_with fail
            obtain ⟨u5, hu5⟩ : ∃ v, v = u4.alloc (.cells #[.slice b21 k21 k21] 33) := ⟨_, rfl⟩
            rw [← hu5]
            have HN5 : Hid (Mod (fun _ => False) u0 u5) := Lib.hid (by rw [hu5]; exact (HN3.out.trans hMx).alloc _)
            have HQ5 : Hid (Mod (fun _ => False) u4 u5) := Lib.hid (by rw [hu5]; exact (Mod.refl _ u4).alloc _)
            have HR5 : Hid (Mod (fun _ => False) u3 u5) := Lib.hid (by rw [hu5]; exact hMx.alloc _)
            have HP5 : Hid (Mod (fun _ => False) u1 u5) := Lib.hid (HP3.out.trans HR5.out)
            have HB5 : Hid (u5.heap[u4.heap.size]? = some (.cells #[.slice b21 k21 k21] 33 )) := Lib.hid (by rw [hu5]; exact heap_alloc_new u4 _)
            have HF5 := Lib.hid hf
            clear hMx hf hu5
            refine (HPR.out (some ⟨g, 0, none⟩) c' u5 (HO1.out.mod HN5.out (fun _ _ => id)) (tabs_mod HT.out (HW32.out.trans HN5.out))).mono ?_
            rintro e u6 ⟨b31, k31, b32, k32, bb3, rfl, hf, _, hMx⟩
            go_wp2_with fail
            obtain ⟨u7, hu7⟩ : ∃ v, v = u6.alloc (.cells #[.string rv2.head.pred, .slice b31 k31 k31, .slice b32 k32 k32] 42) := ⟨_, rfl⟩
            rw [← hu7]
            have HN7 : Hid (Mod (fun _ => False) u0 u7) := Lib.hid (by rw [hu7]; exact (HN5.out.trans hMx).alloc _)
            have HQ7 : Hid (Mod (fun _ => False) u6 u7) := Lib.hid (by rw [hu7]; exact (Mod.refl _ u6).alloc _)
            have HR7 : Hid (Mod (fun _ => False) u5 u7) := Lib.hid (by rw [hu7]; exact hMx.alloc _)
            have HP7 : Hid (Mod (fun _ => False) u1 u7) := Lib.hid (HP5.out.trans HR7.out)
            have HB7 : Hid (u7.heap[u6.heap.size]? = some (.cells #[.string rv2.head.pred, .slice b31 k31 k31, .slice b32 k32 k32] 42 )) := Lib.hid (by rw [hu7]; exact heap_alloc_new u6 _)
            have HF7 := Lib.hid hf
            clear hMx hf hu7
            refine (HPR.out (some ⟨g2, 0, none⟩) c2' u7 (HI1.out.mod HP7.out (fun _ _ => id)) (tabs_mod HT.out (HW32.out.trans HN7.out))).mono ?_
            rintro e u8 ⟨b41, k41, b42, k42, bb4, rfl, hf, _, hMx⟩
            go_wp2_with fail
            obtain ⟨u9, hu9⟩ : ∃ v, v = u8.alloc (.cells #[.string rv2.head.pred, .slice b41 k41 k41, .slice b42 k42 k42] 42) := ⟨_, rfl⟩
            rw [← hu9]
            have HN9 : Hid (Mod (fun _ => False) u0 u9) := Lib.hid (by rw [hu9]; exact (HN7.out.trans hMx).alloc _)
            have HQ9 : Hid (Mod (fun _ => False) u8 u9) := Lib.hid (by rw [hu9]; exact (Mod.refl _ u8).alloc _)
            have HR9 : Hid (Mod (fun _ => False) u7 u9) := Lib.hid (by rw [hu9]; exact hMx.alloc _)
            have HP9 : Hid (Mod (fun _ => False) u1 u9) := Lib.hid (HP7.out.trans HR9.out)
            have HB9 : Hid (u9.heap[u8.heap.size]? = some (.cells #[.string rv2.head.pred, .slice b41 k41 k41, .slice b42 k42 k42] 42 )) := Lib.hid (by rw [hu9]; exact heap_alloc_new u8 _)
            have HF9 := Lib.hid hf
            clear hMx hf hu9
            refine (HPA.out (some ⟨g, 0, none⟩) c' u9 (HO1.out.mod HN9.out (fun _ _ => id)) (tabs_mod HT.out (HW32.out.trans HN9.out))).mono ?_
            rintro e u10 ⟨b51, k51, bb5, rfl, hf, hMx⟩
            go_wp2_with fail
            obtain ⟨u11, hu11⟩ : ∃ v, v = u10.alloc (.cells #[.string av2.pred, .slice b51 k51 k51] 39) := ⟨_, rfl⟩
            rw [← hu11]
            have HN11 : Hid (Mod (fun _ => False) u0 u11) := Lib.hid (by rw [hu11]; exact (HN9.out.trans hMx).alloc _)
            have HQ11 : Hid (Mod (fun _ => False) u10 u11) := Lib.hid (by rw [hu11]; exact (Mod.refl _ u10).alloc _)
            have HR11 : Hid (Mod (fun _ => False) u9 u11) := Lib.hid (by rw [hu11]; exact hMx.alloc _)
            have HP11 : Hid (Mod (fun _ => False) u1 u11) := Lib.hid (HP9.out.trans HR11.out)
            have HB11 : Hid (u11.heap[u10.heap.size]? = some (.cells #[.string av2.pred, .slice b51 k51 k51] 39 )) := Lib.hid (by rw [hu11]; exact heap_alloc_new u10 _)
            have HF11 := Lib.hid hf
            clear hMx hf hu11
            refine (HPA.out (some ⟨g2, 0, none⟩) c2' u11 (HI1.out.mod HP11.out (fun _ _ => id)) (tabs_mod HT.out (HW32.out.trans HN11.out))).mono ?_
            rintro e u12 ⟨b61, k61, bb6, rfl, hf, hMx⟩
            obtain ⟨u13, hu13⟩ : ∃ v, v = u12.alloc (.cells #[.string av2.pred, .slice b61 k61 k61] 39) := ⟨_, rfl⟩
            have HN13 : Hid (Mod (fun _ => False) u0 u13) := Lib.hid (by rw [hu13]; exact (HN11.out.trans hMx).alloc _)
            have HQ13 : Hid (Mod (fun _ => False) u12 u13) := Lib.hid (by rw [hu13]; exact (Mod.refl _ u12).alloc _)
            have HR13 : Hid (Mod (fun _ => False) u11 u13) := Lib.hid (by rw [hu13]; exact hMx.alloc _)
            have HP13 : Hid (Mod (fun _ => False) u1 u13) := Lib.hid (HP11.out.trans HR13.out)
            have HB13 : Hid (u13.heap[u12.heap.size]? = some (.cells #[.string av2.pred, .slice b61 k61 k61] 39 )) := Lib.hid (by rw [hu13]; exact heap_alloc_new u12 _)
            have HF13 := Lib.hid hf
            clear hMx hf
            have HX11 : Hid (Mod (fun _ => False) u11 u13) := HR13
            have HX9 : Hid (Mod (fun _ => False) u9 u13) := Lib.hid (HR11.out.trans HX11.out)
            have HX7 : Hid (Mod (fun _ => False) u7 u13) := Lib.hid (HR9.out.trans HX9.out)
            have HX5 : Hid (Mod (fun _ => False) u5 u13) := Lib.hid (HR7.out.trans HX7.out)
            have HX3 : Hid (Mod (fun _ => False) u3 u13) := Lib.hid (HR5.out.trans HX5.out)
            have HE3 := Lib.hid (HX3.out.at HB3.out id)
            have HE5 := Lib.hid (HX5.out.at HB5.out id)
            have HE7 := Lib.hid (HX7.out.at HB7.out id)
            have HE9 := Lib.hid (HX9.out.at HB9.out id)
            have HE11 := Lib.hid (HX11.out.at HB11.out id)
            have HE13 := HB13
            have HG3 := Lib.hid (HF3.out.mod (HQ3.out.trans HX3.out) (fun _ _ => id))
            have HG5 := Lib.hid (HF5.out.mod (HQ5.out.trans HX5.out) (fun _ _ => id))
            have HG7 := Lib.hid (HF7.out.mod (HQ7.out.trans HX7.out) (fun _ _ => id))
            have HG9 := Lib.hid (HF9.out.mod (HQ9.out.trans HX9.out) (fun _ _ => id))
            have HG11 := Lib.hid (HF11.out.mod (HQ11.out.trans HX11.out) (fun _ _ => id))
            have HG13 := Lib.hid (HF13.out.mod HQ13.out (fun _ _ => id))
            -- end of the six readings
            clear HB3 HB5 HB7 HB9 HB11 HB13
            have t3 := cell_at (j := 0) HE3.out rfl
            have t5 := cell_at (j := 0) HE5.out rfl
            rw [hu13] at t3 t5
            go_wp2_with fail
            rw [← hu13]
            clear t3 t5 hu13
            refine (law8Prog_true ps2 _ _ u13 HG3.out.at_ HG5.out.at_ (by have := HPS2.out.1; omega) (fun r hr => (HPS2.out.2 r hr).smR)).mono ?_
            rintro e u14 ⟨rfl, hM14⟩
            have HM14 := Lib.hid hM14
            have t0 := cell_at (j := 0) (hM14.at HE7.out id) rfl
            have t1 := cell_at (j := 1) (hM14.at HE7.out id) rfl
            have t2 := cell_at (j := 2) (hM14.at HE7.out id) rfl
            have u0 := cell_at (j := 0) (hM14.at HE9.out id) rfl
            have u1 := cell_at (j := 1) (hM14.at HE9.out id) rfl
            have u2 := cell_at (j := 2) (hM14.at HE9.out id) rfl
            have HRL := Lib.hid (law8Rule_true rv2 (.slice b31 k31 k31) (.slice b41 k41 k41) (.slice b32 k32 k32) (.slice b42 k42 k42) u14 (rf_at (HG7.out.mod hM14 (fun _ _ => id))).1 (rf_at (HG9.out.mod hM14 (fun _ _ => id))).1 (rf_at (HG7.out.mod hM14 (fun _ _ => id))).2 (rf_at (HG9.out.mod hM14 (fun _ _ => id))).2 HRS2.out.smR)
            unfold rmV at HRL
            clear hM14
            go_wp2_with fail
            refine HRL.out.mono ?_
            rintro e u15 ⟨rfl, hM15⟩
            clear HRL t0 t1 t2 u0 u1 u2
            have HM15' := Lib.hid (HM14.out.trans hM15)
            clear hM15 HM14
            have t0 := cell_at (j := 0) (HM15'.out.at HE11.out id) rfl
            have t1 := cell_at (j := 1) (HM15'.out.at HE11.out id) rfl
            have u0 := cell_at (j := 0) (HM15'.out.at HE13.out id) rfl
            have u1 := cell_at (j := 1) (HM15'.out.at HE13.out id) rfl
            go_wp2_with fail
            refine (law8Atom_true av2.pred av2.terms _ _ u15 ((HG11.out.mod HM15'.out (fun _ _ => id)).at_) ((HG13.out.mod HM15'.out (fun _ _ => id)).at_) (by have := HAS2.out.2.1; omega)).mono ?_
            rintro e u16 ⟨rfl, hM16'⟩
            clear t0 t1 u0 u1
            have HM16' := Lib.hid ((HW32.out.trans HN13.out).trans (HM15'.out.trans hM16'))
            clear hM16' HM15'
            go_wp2_with fail
            go_ret
            exact ⟨rfl, HM16'.out⟩
    · obtain rfl : i = ps.length := by omega
      have v0 := hM.out.cell (cell_at (j := 0) HE9.out rfl) (by have := HSZ.out; simp only; omega)
      have v1 := hM.out.cell (cell_at (j := 1) HE9.out rfl) (by have := HSZ.out; simp only; omega)
      have v2 := hM.out.cell (cell_at (j := 2) HE9.out rfl) (by have := HSZ.out; simp only; omega)
      have hb9 : ∀ c, blk _ = some c → c < w15.heap.size ∧ c ≠ w2.heap.size := fun c hc => ⟨by obtain ⟨_, h⟩ := HR9.out.l; exact h.lt c hc, by have := HF9b.out c (HR9.out.mem c hc); have := HSZ.out; omega⟩
      have hb11 : ∀ c, blk _ = some c → c < w15.heap.size ∧ c ≠ w2.heap.size := fun c hc => ⟨by obtain ⟨_, h⟩ := HR11.out.l; exact h.lt c hc, by have := HF11b.out c (HR11.out.mem c hc); have := HSZ.out; omega⟩
      go_wp2_with fail
      refine (told_rule wr w15.heap.size w2.heap.size d1 e1 d2 e2 none 0 Lt Ll [] hT.out hM.out.size _ _ _ _ ys9 _ HR9.out.len (HR9.out.rd.mod hM.out (fun c hc e => by have := hb9 c hc; omega)) hb9 (qs ys9) HR9.out.q (by have := HR9.out.sm; omega) (by have := HR9.out.sm; have := hLn.out; omega) (by have := hLn.out; omega)).mono ?_
      rintro e w22 ⟨rfl, d3, e3, d4, e4, hT22, hM22⟩
      have HT22 := Lib.hid hT22; have HM22 := Lib.hid (hM.out.trans hM22)
      have HS22 := Lib.hid (HR9.out.told hSo.out)
      clear hT22 hM22 v0 v1 v2 t5
      have v0 := HM22.out.cell (cell_at (j := 0) HE11.out rfl) (by have := HSZ.out; simp only; omega)
      have v1 := HM22.out.cell (cell_at (j := 1) HE11.out rfl) (by have := HSZ.out; simp only; omega)
      have v2 := HM22.out.cell (cell_at (j := 2) HE11.out rfl) (by have := HSZ.out; simp only; omega)
      go_wp2_with fail
      refine (told_rule w22 w15.heap.size w2.heap.size d3 e3 d4 e4 none 0 _ _ [] HT22.out HM22.out.size _ _ _ _ ys11 _ HR11.out.len (HR11.out.rd.mod HM22.out (fun c hc e => by have := hb11 c hc; omega)) hb11 (qs ys11) HR11.out.q (by have := HR11.out.sm; omega) (by have h := HR11.out.sm; have h2 := hLn.out; have h3 := HR9.out.sm; have h4 := HR9.out.len; simp [qs]; omega) (by have := hLn.out; simp; omega)).mono ?_
      rintro e w23 ⟨rfl, d5, e5, d6, e6, hT23, hM23⟩
      obtain ⟨L3, M3, hT3, hS3, hl3, hm3⟩ : ∃ L3 M3, TD w23 w15.heap.size w2.heap.size d5 e5 d6 e6 none 0 L3 M3 [] ∧ Sofar w15 L3 M3 (((((bsp.take ps.length).flatten ++ (bsq.take ps.length).flatten)) ++ br) ++ bs) ∧ L3.length ≤ 6000 ∧ M3.length ≤ 100 :=
        ⟨_, _, hT23, HR11.out.told HS22.out, by have h := HR11.out.sm; have h2 := hLn.out; have h3 := HR9.out.sm; have h4 := HR9.out.len; have h5 := HR11.out.len; simp [qs]; omega, by have := hLn.out; simp; omega⟩
      have HT23 := Lib.hid hT3; have HM23 := Lib.hid (HM22.out.trans hM23); have HS23 := Lib.hid hS3
      clear hT23 hM23 v0 v1 v2 hT3 hS3 HT22 HM22 HS22
      have q0 := cell_at (j := 0) HT23.out.at_ rfl
      have x1 := HM23.out.cell (cell_at (j := 1) HE13.out rfl) (by have := HSZ.out; simp only; omega)
      have y1 := HM23.out.cell (cell_at (j := 1) HE15.out rfl) (by have := HSZ.out; simp only; omega)
      go_wp2_with fail
      refine wp_region_ord (fun W => W.cell? ⟨w2.heap.size, 0, none⟩ = some (.slice d5 L3.length e5) ∧ W.cell? ⟨w12.heap.size, 1, none⟩ = some (.slice ax nx nx) ∧ W.cell? ⟨w14.heap.size, 1, none⟩ = some (.slice ay ny ny)) [(0, 0), (0, 1), (0, 2), (0, 3), (1, 4), (0, 5), (1, 6), (0, 7), (1, 8), (2, 9), (3, 10), (0, 11), (0, 12), (3, 13)] (by kernel_rfl) (by kernel_rfl) ?_
      go_wp2_with (first
        | (refine ord_pure rfl rfl rfl (fun K hK => ?_); go_big_quiet_op; refine hK _ ?_; clear hK K)
                        | (refine ord_skip rfl rfl ?_; simp only [Act.put, List.setIfInBounds_toArray, List.set_cons_zero, List.set_cons_succ])
                        | (refine ord_held rfl rfl rfl (⟨q0, x1, y1⟩) (fun K hK => ?_); apply Exists.intro; refine ⟨fun w' hs => ?_, hK _ ?_⟩; (revert hs; dsimp only; (try simp only [and_imp]); intros; go_simp; rfl); clear hK K)
                        | (refine ord_keep rfl rfl (⟨q0, x1, y1⟩) (fun K hK => ?_))
                        | (refine ord_drop rfl rfl (fun K hK => ?_))
                        | (refine ord_nil ?_))
      have m5 : Mod (fun _ => False) w23 (w23.alloc (.cells #[.slice ax nx nx, .slice ay ny ny] 37)).drew := ((Mod.refl _ w23).alloc _).drew
      refine hK _ _ ⟨m5.cell q0 id, m5.cell x1 id, m5.cell y1 id⟩ ?_; clear hK K
      have HT5 := Lib.hid (HT23.out.mod0 m5)
      have HM5 := Lib.hid m5
      clear m5 q0 x1 y1
      go_wp2_with (first
        | (refine ord_drop rfl rfl (fun K hK => ?_); refine wpO_append (.tmp 145) (.tmp 150) 26 26 rfl tiTs rfl HT5.out.o1 rfl (Src.ofRd tiTs.ht 2 2 (Rd.dr (Rd.news w23 [_, _] 37)) (by simp) (by simp [Value.oneCell'])) (by omega) (by unfold maxLen; omega) ?_; intro d7 e7 w24 hO5 hG5 _
           have hb5 := hG5.mod.at HT5.out.at_ (fun e => by have := HT5.out.g1 _ e; have := HT5.out.tlt; omega)
           have g5 := cell_at (j := 0) hb5 rfl
           have q5 : w24.frozen? ⟨w2.heap.size, 0, none⟩ = false := frozen_at hb5
           have HO5 := Lib.hid hO5; have HG5 := Lib.hid hG5
           clear hO5 hG5 hb5
           refine hK _ _ ?_; clear hK K)
        | (refine ord_pure rfl rfl rfl (fun K hK => ?_); go_big_quiet_op; refine hK _ ?_; clear hK K)
                        | (refine ord_skip rfl rfl ?_; simp only [Act.put, List.setIfInBounds_toArray, List.set_cons_zero, List.set_cons_succ])
                        | (refine ord_held rfl rfl rfl (trivial) (fun K hK => ?_); apply Exists.intro; refine ⟨fun w' hs => ?_, hK _ ?_⟩; (revert hs; dsimp only; (try simp only [and_imp]); intros; go_simp; rfl); clear hK K)
                        | (refine ord_keep rfl rfl (trivial) (fun K hK => ?_))
                        | (refine ord_drop rfl rfl (fun K hK => ?_))
                        | (refine ord_nil ?_))
      clear g5 q5
      obtain ⟨hT25, hM25⟩ := HT23.out.step1 (P := [(ax, nx), (ay, ny)]) HM23.out.size HM5.out (n := L3.length + 2) (by simp) HO5.out HG5.out
      obtain ⟨w25, hw25⟩ : ∃ w25, w25 = w24.setCell ⟨w2.heap.size, 0, none⟩ (.slice d7 (L3.length + 2) e7) := ⟨_, rfl⟩
      rw [← hw25] at hT25 hM25 ⊢
      clear hw25
      have HT25 := Lib.hid hT25
      have HM25 : Hid (Mod (fun b => b = w2.heap.size ∨ w15.heap.size ≤ b) w15 w25) := Lib.hid (HM23.out.trans (hM25.mono (fun b _ e => e.elim .inl (fun e => .inr (HT23.out.g1 b e)))))
      clear hT25 hM25 HO5 HG5 HT5 HM5 HM23
      have q2 := cell_at (j := 2) HT25.out.at_ rfl
      have p1 := HM25.out.cell (cell_at (j := 0) HE5.out rfl) (by have := HSZ.out; simp only; omega)
      have p2 := HM25.out.cell (cell_at (j := 0) HE7.out rfl) (by have := HSZ.out; simp only; omega)
      refine wp_region_ord (fun W => W.cell? ⟨w2.heap.size, 2, none⟩ = some (.slice none 0 0) ∧ W.cell? ⟨w4.heap.size, 0, none⟩ = some (.slice ap ps.length ps.length) ∧ W.cell? ⟨w6.heap.size, 0, none⟩ = some (.slice aq ps.length ps.length)) [(0, 0), (0, 1), (0, 2), (0, 3), (1, 4), (0, 5), (1, 6), (0, 7), (1, 8), (2, 9), (3, 10), (0, 11), (0, 12), (3, 13)] (by kernel_rfl) (by kernel_rfl) ?_
      go_wp2_with (first
        | (refine ord_pure rfl rfl rfl (fun K hK => ?_); go_big_quiet_op; refine hK _ ?_; clear hK K)
                        | (refine ord_skip rfl rfl ?_; simp only [Act.put, List.setIfInBounds_toArray, List.set_cons_zero, List.set_cons_succ])
                        | (refine ord_held rfl rfl rfl (⟨q2, p1, p2⟩) (fun K hK => ?_); apply Exists.intro; refine ⟨fun w' hs => ?_, hK _ ?_⟩; (revert hs; dsimp only; (try simp only [and_imp]); intros; go_simp; rfl); clear hK K)
                        | (refine ord_keep rfl rfl (⟨q2, p1, p2⟩) (fun K hK => ?_))
                        | (refine ord_drop rfl rfl (fun K hK => ?_))
                        | (refine ord_nil ?_))
      have m6 : Mod (fun _ => False) w25 (w25.alloc (.cells #[.slice ap ps.length ps.length, .slice aq ps.length ps.length] 31)).drew := ((Mod.refl _ w25).alloc _).drew
      refine hK _ _ ⟨m6.cell q2 id, m6.cell p1 id, m6.cell p2 id⟩ ?_; clear hK K
      have HT6 := Lib.hid (HT25.out.mod0 m6)
      have HM6 := Lib.hid m6
      clear m6 q2 p1 p2
      go_wp2_with (first
        | (refine ord_drop rfl rfl (fun K hK => ?_); refine wpO_append (.tmp 158) (.tmp 163) 28 28 rfl tiRs rfl HT6.out.o3 rfl (Src.ofRd tiRs.ht 2 2 (Rd.dr (Rd.news w25 [_, _] 31)) (by simp) (by simp [Value.oneCell'])) (by simp) (by unfold maxLen; simp) ?_; intro d9 e9 w26 hO6 hG6 _
           have hb6 := hG6.mod.at HT6.out.at_ (fun e => by simp at e)
           have g6 := cell_at (j := 2) hb6 rfl
           have q6 : w26.frozen? ⟨w2.heap.size, 2, none⟩ = false := frozen_at hb6
           have HO6 := Lib.hid hO6; have HG6 := Lib.hid hG6
           clear hO6 hG6 hb6
           refine hK _ _ ?_; clear hK K)
        | (refine ord_pure rfl rfl rfl (fun K hK => ?_); go_big_quiet_op; refine hK _ ?_; clear hK K)
                        | (refine ord_skip rfl rfl ?_; simp only [Act.put, List.setIfInBounds_toArray, List.set_cons_zero, List.set_cons_succ])
                        | (refine ord_held rfl rfl rfl (trivial) (fun K hK => ?_); apply Exists.intro; refine ⟨fun w' hs => ?_, hK _ ?_⟩; (revert hs; dsimp only; (try simp only [and_imp]); intros; go_simp; rfl); clear hK K)
                        | (refine ord_keep rfl rfl (trivial) (fun K hK => ?_))
                        | (refine ord_drop rfl rfl (fun K hK => ?_))
                        | (refine ord_nil ?_))
      clear g6 q6
      obtain ⟨hT27, hM27⟩ := HT25.out.step3 (P := [(ap, ps.length), (aq, ps.length)]) HM25.out.size HM6.out (n := 2) rfl HO6.out HG6.out
      obtain ⟨w27, hw27⟩ : ∃ w27, w27 = w26.setCell ⟨w2.heap.size, 2, none⟩ (.slice d9 2 e9) := ⟨_, rfl⟩
      rw [← hw27] at hT27 hM27 ⊢
      clear hw27
      have HT27 := Lib.hid hT27
      have HM27 : Hid (Mod (fun b => b = w2.heap.size ∨ w15.heap.size ≤ b) w15 w27) := Lib.hid (HM25.out.trans (hM27.mono (fun b _ e => e.elim .inl (fun e => by simp at e))))
      clear hT27 hM27 HO6 HG6 HT6 HM6 HM25 HT25
      have hS27 : Sofar w15 (L3 ++ [(ax, nx), (ay, ny)]) (M3 ++ []) ((((((bsp.take ps.length).flatten ++ (bsq.take ps.length).flatten)) ++ br) ++ bs) ++ (bx ++ by_)) := by
        obtain ⟨ax', hx1, hx2, hx3, _⟩ := HG13.out
        obtain ⟨ay', hy1, hy2, hy3, _⟩ := HG15.out
        simp only [Value.slice.injEq] at hx1 hy1
        obtain ⟨rfl, hx4, _⟩ := hx1
        obtain ⟨rfl, hy4, _⟩ := hy1
        have h64 := HAS.out.2.1
        refine HS23.out.add (fun p hp => ?_) (by simp) (fun c => ?_)
        · simp only [List.mem_cons, List.not_mem_nil, or_false] at hp
          rcases hp with rfl | rfl
          · exact ⟨by simp only; omega, _, by rw [hx4]; exact hx2⟩
          · exact ⟨by simp only; omega, _, by rw [hy4]; exact hy2⟩
        · rw [hx3, hy3]; simp [psB]
      rw [List.append_nil M3] at hS27
      have htot : ∀ c, ((((((bsp.take ps.length).flatten ++ (bsq.take ps.length).flatten)) ++ br) ++ bs) ++ (bx ++ by_)).count c + (psB ([] ++ [(ap, ps.length), (aq, ps.length)])).count c ≤ (bp ++ bq ++ br ++ bs ++ bx ++ by_).count c := fun c => by
        have h1 := flat_sub bsp ps.length c
        have h2 := flat_sub bsq ps.length c
        rw [HP3.out, HQ3.out]
        simp only [psB, List.nil_append, List.flatMap_cons, List.flatMap_nil, List.append_nil, List.count_append]
        omega
      have hap := apart3 (told_nd hS27 HND.out htot)
      have hin : ∀ b, inPs (L3 ++ [(ax, nx), (ay, ny)]) b ∨ inPs M3 b ∨ inPs ([] ++ [(ap, ps.length), (aq, ps.length)]) b → w3.heap.size ≤ b ∧ b < w15.heap.size := fun b h => by
        have h2 := told_in hS27 htot h
        have hz := HSZ.out
        simp only [List.mem_append, or_assoc] at h2
        rcases h2 with h2 | h2 | h2 | h2 | h2 | h2
        · have := HP4.out b h2; have := HPL.out b h2; omega
        · have := HQ4.out b h2; have := HQLT.out b h2; omega
        · have := HF9.out.1.bd b h2; omega
        · have := HF11.out.1.bd b h2; omega
        · have := HF13.out.ge b h2; have := HF13.out.lt b h2; omega
        · have := HF15.out.ge b h2; have := HF15.out.lt b h2; omega
      have hout : ∀ b, w3.heap.size ≤ b ∧ b < w15.heap.size → ¬ (b = w2.heap.size ∨ w15.heap.size ≤ b) := fun b h e => by have hz := HSZ.out.1; omega
      have hAt : Apart w27 72 2 (L3 ++ [(ax, nx), (ay, ny)]) := (Apart.of hS27.t hap.1 (by simp; omega)).mod HM27.out (fun b hb => hout b (hin b (.inl hb)))
      have hAl : Apart w27 74 8 M3 := (Apart.of hS27.l hap.2.1 (by omega)).mod HM27.out (fun b hb => hout b (hin b (.inr (.inl hb))))
      have hAr : Apart w27 42 3 ([] ++ [(ap, ps.length), (aq, ps.length)]) := by
        refine (Apart.of (w := w15) (fun p hp => ?_) hap.2.2.1 (by simp)).mod HM27.out (fun b hb => hout b (hin b (.inr (.inr hb))))
        have h1024 := HPS.out.1
        simp only [List.nil_append, List.mem_cons, List.not_mem_nil, or_false] at hp
        rcases hp with rfl | rfl
        · obtain ⟨a', xp', _, he, hc, _⟩ := HG5.out
          simp only [Value.slice.injEq] at he
          obtain ⟨rfl, _, _⟩ := he
          exact ⟨by simp only; omega, _, hc⟩
        · obtain ⟨a', xp', _, he, hc, _⟩ := HG7.out
          simp only [Value.slice.injEq] at he
          obtain ⟨rfl, _, _⟩ := he
          exact ⟨by simp only; omega, _, hc⟩
      refine (apart_true HT27.out hAt hAl hAr (by simp) (fun b hb => ?_) hap.2.2.2.1 hap.2.2.2.2.1 hap.2.2.2.2.2).mono ?_
      · have h1 := hin b hb
        have hz := HSZ.out.1
        omega
      rintro e w28 ⟨rfl, hM28⟩
      have HM28 : Hid (Mod (fun b => w2.heap.size ≤ b) w2 w28) := Lib.hid (by
        have q1 := HM15.out.mono (T := fun b => w2.heap.size ≤ b) (fun _ _ e => e.elim)
        have q2 := HM27.out.mono (T := fun b => w2.heap.size ≤ b) (fun b _ e => by have hz := HSZ.out; rcases e with e | e <;> omega)
        have q3 := hM28.mono (T := fun b => w2.heap.size ≤ b) (fun b _ e => by have h1 := hin b e; have hz := HSZ.out.1; omega)
        exact (q1.trans q2).trans q3)
      clear hM28 hAt hAl hAr hap hin hout hS27 htot
      clear HT27 HM27 HG5 HG7 HG9 HG11 HG13 HG15 HR9 HR11 HS23 HND HF9b HF11b HP1 HP2 HP3 HP4 HP5 HPL HQ1 HQ2 HQ3 HQ4 HQ5 HQLT
      have HW28 : Hid (Mod (fun _ => False) w w28) := Lib.hid (HM2.out.step HM28.out (fun i hi e => by have := HM2.out.size; omega))
      have HGL : Hid (g < w2.heap.size) := Lib.hid (HI.out.lt g rfl)
      have hgi : ∀ b, blk (some (⟨g, 0, none⟩ : Addr)) = some b → ¬ w2.heap.size ≤ b := fun b hb e => by have hb2 : g = b := Option.some.inj hb; have := HGL.out; omega
      have HGI := Lib.hid hgi
      clear hgi
      go_wp2_with fail
      refine (HPP.out g c' w28 (own_rd (HI.out.mod HM28.out HGI.out)) (tabs_mod HT.out HW28.out)).mono ?_
      rintro e w29 ⟨_, _, _, rfl, _, hM29⟩
      have HM29 := Lib.hid (HM28.out.step hM29 (fun _ _ e => e.elim)); have HW29 := Lib.hid (HW28.out.trans hM29)
      clear hM29 HM28 HW28
      go_wp2_with fail
      refine (HPR.out g c' w29 (own_rd (HI.out.mod HM29.out HGI.out)) (tabs_mod HT.out HW29.out)).mono ?_
      rintro e w30 ⟨_, _, _, _, _, rfl, _, _, hM30⟩
      have HM30 := Lib.hid (HM29.out.step hM30 (fun _ _ e => e.elim)); have HW30 := Lib.hid (HW29.out.trans hM30)
      clear hM30 HM29 HW29
      go_wp2_with fail
      refine (HPA.out g c' w30 (own_rd (HI.out.mod HM30.out HGI.out)) (tabs_mod HT.out HW30.out)).mono ?_
      rintro e w31 ⟨_, _, _, rfl, _, hM31⟩
      have HI31 := Lib.hid (HI.out.mod (HM30.out.step hM31 (fun _ _ e => e.elim)) HGI.out); have HW31 := Lib.hid (HW30.out.trans hM31)
      clear hM31 HM30 HW30 HPP HPR HPA HI HGI HGL
      go_wp2_with fail
      go_loopw [26] (fun iv wr => ∃ k : Nat, iv = .int .i64 k ∧ k ≤ l.length ∧ Hid (Mine.Own wr 5 1 (some ⟨g, 0, none⟩) (l.length + 2) c' (bts (ovr l2 l k ++ [201, 202]))) ∧ Hid (Mod (fun b => b = g) w31 wr)) (fun iv _ => l.length - (intOf iv).toNat)
      case atStart => exact ⟨0, rfl, Nat.zero_le _, by rw [ovr_zero]; exact HI31, Lib.hid (Mod.refl _ _)⟩
      case round =>
        obtain ⟨k, rfl, hk, hO, hM⟩ := hrel
        by_cases hlt : k < l.length
        · have hcell : wr.cell? ⟨g, k, none⟩ = some (.int .u8 l[k].toNat) := by
            obtain ⟨b, o, e, hc⟩ := hO.out.rd k (.int .u8 l[k].toNat) (ovr_get l2 l hlt)
            cases e
            simpa using hc
          have hfz : wr.frozen? ⟨g, k, none⟩ = false := hO.out.frozen rfl
          by_cases hk2 : k < l2.length
          · obtain ⟨b2, o2, rfl, y0⟩ := bts_cell (HR2.out.mod (HW31.out.step hM.out (fun i hi e => by have e : i = g := e; have := HG.out; omega)) (fun _ _ => id)) hk2
            have hb2 : b2 < w.heap.size := HR2.out.lt (by intro e; have := congrArg List.length e; simp only [bts_length, List.length_nil] at this; omega) b2 rfl
            have hn1 : ¬ b2 = g := fun e => by have := HG.out; omega
            have hn2 : ¬ g = b2 := fun e => by have := HG.out; omega
            have HST := Lib.hid (ovr_set2 l2 l hlt hk2)
            clear hb2
            go_wp2_with fail
            go_roundw
            case rel => exact ⟨k + 1, by go_num, hlt, by unfold Hid; rw [← HST.out]; exact (hO.out.store k _).store k _, Lib.hid ((hM.out.setCell (p := ⟨g, k, none⟩) (fun _ => rfl) _).setCell (p := ⟨g, k, none⟩) (fun _ => rfl) _)⟩
            case measure => simp [intOf]; omega
          · have HST := Lib.hid (ovr_set1 l2 l hlt hk2)
            go_wp2_with fail
            go_roundw
            case rel => exact ⟨k + 1, by go_num, hlt, by unfold Hid; rw [← HST.out]; exact hO.out.store k _, Lib.hid (hM.out.setCell (p := ⟨g, k, none⟩) (fun _ => rfl) _)⟩
            case measure => simp [intOf]; omega
        · obtain rfl : k = l.length := by omega
          obtain ⟨m, hm, hml⟩ : ∃ m, m = ovr l2 l l.length ∧ m.length = l.length := ⟨_, rfl, ovr_len l2 l (Nat.le_refl _)⟩
          have hO2 := hO.out
          rw [← hm, ← hml] at hO2
          have HW32 : Hid (Mod (fun _ => False) w wr) := Lib.hid (HW31.out.step hM.out (fun i hi e => by have e : i = g := e; have := HG.out; omega))
          have HO32 := Lib.hid hO2
          have hml2 : l.length ≤ 1048576 := hs
          clear hO2 hO hM hm
          clear HI31 HW31 HR2 HC5 HC7 HC9 HC11 HC13 HC15 HD5 HD7 HD9 HD11 HD13 HD15 HX5 HX7 HX9 HX11 HX13
          obtain ⟨u0, hu0⟩ : ∃ u0, u0 = wr := ⟨_, rfl⟩
          rw [← hu0] at HW32 HO32 ⊢
          clear hu0 wr
          have hml3 : m.length ≤ 1048576 := by omega
          have HPP := Lib.hid (fun a0 c0 W => parse_saysF m l.length hml (by omega) a0 c0 W)
          have HPR := Lib.hid (fun a0 c0 W => parseRule_saysF m l.length hml (by omega) a0 c0 W)
          have HPA := Lib.hid (fun a0 c0 W => parseAtom_saysF m l.length hml (by omega) a0 c0 W)
          have hps := progV_small ⟨m.toArray⟩
          have hrs := ruleV_small ⟨m.toArray⟩
          have has := atomV_small ⟨m.toArray⟩
          have HLN := Lib.hid (law8Lent_any (some ⟨g, 0, none⟩) c' m u0 (own_rd HO32.out) (by omega))
          rw [hml] at HLN
          unfold PSayF at HPP
          unfold RSayF rmV at HPR
          unfold ASayF at HPA
          generalize valOf [] (progS ⟨m.toArray⟩) = ps2 at *
          generalize valOf rm0 (ruleS ⟨m.toArray⟩) = rv2 at *
          generalize valOf am0 (atomS ⟨m.toArray⟩) = av2 at *
          generalize atOf (progS ⟨m.toArray⟩) = pat at *
          generalize noOf (progS ⟨m.toArray⟩) = pno at *
          generalize atOf (ruleS ⟨m.toArray⟩) = rat at *
          generalize noOf (ruleS ⟨m.toArray⟩) = rno at *
          generalize atOf (atomS ⟨m.toArray⟩) = aat at *
          generalize noOf (atomS ⟨m.toArray⟩) = ano at *
          have HPS2 := Lib.hid hps; have HRS2 := Lib.hid hrs; have HAS2 := Lib.hid has
          clear hps hrs has
          go_wp2_with fail
          refine HLN.out.mono ?_
          rintro e u1 ⟨g2, c2', rfl, hg2, hI2, hMx⟩
          have HI2 := Lib.hid hI2
          have HN1 : Hid (Mod (fun _ => False) u0 u1) := Lib.hid hMx
          have HO1 := Lib.hid (own_rd HO32.out)
          have HI1 := Lib.hid (own_rd (l := m) (by rw [hml]; exact HI2.out))
          have HP1 : Hid (Mod (fun _ => False) u1 u1) := Lib.hid (Mod.refl _ u1)
          clear hMx hI2 HLN hg2 HO32 HI2
          go_wp2_with fail
          -- six readings
          refine (HPP.out (some ⟨g, 0, none⟩) c' u1 (HO1.out.mod HN1.out (fun _ _ => id)) (tabs_mod HT.out (HW32.out.trans HN1.out))).mono ?_
          rintro e u2 ⟨b11, k11, bb1, rfl, hf, hMx⟩
          go_wp2_with fail
          obtain ⟨u3, hu3⟩ : ∃ v, v = u2.alloc (.cells #[.slice b11 k11 k11] 33) := ⟨_, rfl⟩
          rw [← hu3]
          have HN3 : Hid (Mod (fun _ => False) u0 u3) := Lib.hid (by rw [hu3]; exact (HN1.out.trans hMx).alloc _)
          have HQ3 : Hid (Mod (fun _ => False) u2 u3) := Lib.hid (by rw [hu3]; exact (Mod.refl _ u2).alloc _)
          have HR3 : Hid (Mod (fun _ => False) u1 u3) := Lib.hid (by rw [hu3]; exact hMx.alloc _)
          have HP3 : Hid (Mod (fun _ => False) u1 u3) := Lib.hid (HR3.out)
          have HB3 : Hid (u3.heap[u2.heap.size]? = some (.cells #[.slice b11 k11 k11] 33 )) := Lib.hid (by rw [hu3]; exact heap_alloc_new u2 _)
          have HF3 := Lib.hid hf
          clear hMx hf hu3
          refine (HPP.out (some ⟨g2, 0, none⟩) c2' u3 (HI1.out.mod HP3.out (fun _ _ => id)) (tabs_mod HT.out (HW32.out.trans HN3.out))).mono ?_
          rintro e u4 ⟨b21, k21, bb2, rfl, hf, hMx⟩
          go_wp2_with fail
          obtain ⟨u5, hu5⟩ : ∃ v, v = u4.alloc (.cells #[.slice b21 k21 k21] 33) := ⟨_, rfl⟩
          rw [← hu5]
          have HN5 : Hid (Mod (fun _ => False) u0 u5) := Lib.hid (by rw [hu5]; exact (HN3.out.trans hMx).alloc _)
          have HQ5 : Hid (Mod (fun _ => False) u4 u5) := Lib.hid (by rw [hu5]; exact (Mod.refl _ u4).alloc _)
          have HR5 : Hid (Mod (fun _ => False) u3 u5) := Lib.hid (by rw [hu5]; exact hMx.alloc _)
          have HP5 : Hid (Mod (fun _ => False) u1 u5) := Lib.hid (HP3.out.trans HR5.out)
          have HB5 : Hid (u5.heap[u4.heap.size]? = some (.cells #[.slice b21 k21 k21] 33 )) := Lib.hid (by rw [hu5]; exact heap_alloc_new u4 _)
          have HF5 := Lib.hid hf
          clear hMx hf hu5
          refine (HPR.out (some ⟨g, 0, none⟩) c' u5 (HO1.out.mod HN5.out (fun _ _ => id)) (tabs_mod HT.out (HW32.out.trans HN5.out))).mono ?_
          rintro e u6 ⟨b31, k31, b32, k32, bb3, rfl, hf, _, hMx⟩
          go_wp2_with fail
          obtain ⟨u7, hu7⟩ : ∃ v, v = u6.alloc (.cells #[.string rv2.head.pred, .slice b31 k31 k31, .slice b32 k32 k32] 42) := ⟨_, rfl⟩
          rw [← hu7]
          have HN7 : Hid (Mod (fun _ => False) u0 u7) := Lib.hid (by rw [hu7]; exact (HN5.out.trans hMx).alloc _)
          have HQ7 : Hid (Mod (fun _ => False) u6 u7) := Lib.hid (by rw [hu7]; exact (Mod.refl _ u6).alloc _)
          have HR7 : Hid (Mod (fun _ => False) u5 u7) := Lib.hid (by rw [hu7]; exact hMx.alloc _)
          have HP7 : Hid (Mod (fun _ => False) u1 u7) := Lib.hid (HP5.out.trans HR7.out)
          have HB7 : Hid (u7.heap[u6.heap.size]? = some (.cells #[.string rv2.head.pred, .slice b31 k31 k31, .slice b32 k32 k32] 42 )) := Lib.hid (by rw [hu7]; exact heap_alloc_new u6 _)
          have HF7 := Lib.hid hf
          clear hMx hf hu7
          refine (HPR.out (some ⟨g2, 0, none⟩) c2' u7 (HI1.out.mod HP7.out (fun _ _ => id)) (tabs_mod HT.out (HW32.out.trans HN7.out))).mono ?_
          rintro e u8 ⟨b41, k41, b42, k42, bb4, rfl, hf, _, hMx⟩
          go_wp2_with fail
          obtain ⟨u9, hu9⟩ : ∃ v, v = u8.alloc (.cells #[.string rv2.head.pred, .slice b41 k41 k41, .slice b42 k42 k42] 42) := ⟨_, rfl⟩
          rw [← hu9]
          have HN9 : Hid (Mod (fun _ => False) u0 u9) := Lib.hid (by rw [hu9]; exact (HN7.out.trans hMx).alloc _)
          have HQ9 : Hid (Mod (fun _ => False) u8 u9) := Lib.hid (by rw [hu9]; exact (Mod.refl _ u8).alloc _)
          have HR9 : Hid (Mod (fun _ => False) u7 u9) := Lib.hid (by rw [hu9]; exact hMx.alloc _)
          have HP9 : Hid (Mod (fun _ => False) u1 u9) := Lib.hid (HP7.out.trans HR9.out)
          have HB9 : Hid (u9.heap[u8.heap.size]? = some (.cells #[.string rv2.head.pred, .slice b41 k41 k41, .slice b42 k42 k42] 42 )) := Lib.hid (by rw [hu9]; exact heap_alloc_new u8 _)
          have HF9 := Lib.hid hf
          clear hMx hf hu9
          refine (HPA.out (some ⟨g, 0, none⟩) c' u9 (HO1.out.mod HN9.out (fun _ _ => id)) (tabs_mod HT.out (HW32.out.trans HN9.out))).mono ?_
          rintro e u10 ⟨b51, k51, bb5, rfl, hf, hMx⟩
          go_wp2_with fail
          obtain ⟨u11, hu11⟩ : ∃ v, v = u10.alloc (.cells #[.string av2.pred, .slice b51 k51 k51] 39) := ⟨_, rfl⟩
          rw [← hu11]
          have HN11 : Hid (Mod (fun _ => False) u0 u11) := Lib.hid (by rw [hu11]; exact (HN9.out.trans hMx).alloc _)
          have HQ11 : Hid (Mod (fun _ => False) u10 u11) := Lib.hid (by rw [hu11]; exact (Mod.refl _ u10).alloc _)
          have HR11 : Hid (Mod (fun _ => False) u9 u11) := Lib.hid (by rw [hu11]; exact hMx.alloc _)
          have HP11 : Hid (Mod (fun _ => False) u1 u11) := Lib.hid (HP9.out.trans HR11.out)
          have HB11 : Hid (u11.heap[u10.heap.size]? = some (.cells #[.string av2.pred, .slice b51 k51 k51] 39 )) := Lib.hid (by rw [hu11]; exact heap_alloc_new u10 _)
          have HF11 := Lib.hid hf
          clear hMx hf hu11
          refine (HPA.out (some ⟨g2, 0, none⟩) c2' u11 (HI1.out.mod HP11.out (fun _ _ => id)) (tabs_mod HT.out (HW32.out.trans HN11.out))).mono ?_
          rintro e u12 ⟨b61, k61, bb6, rfl, hf, hMx⟩
          obtain ⟨u13, hu13⟩ : ∃ v, v = u12.alloc (.cells #[.string av2.pred, .slice b61 k61 k61] 39) := ⟨_, rfl⟩
          have HN13 : Hid (Mod (fun _ => False) u0 u13) := Lib.hid (by rw [hu13]; exact (HN11.out.trans hMx).alloc _)
          have HQ13 : Hid (Mod (fun _ => False) u12 u13) := Lib.hid (by rw [hu13]; exact (Mod.refl _ u12).alloc _)
          have HR13 : Hid (Mod (fun _ => False) u11 u13) := Lib.hid (by rw [hu13]; exact hMx.alloc _)
          have HP13 : Hid (Mod (fun _ => False) u1 u13) := Lib.hid (HP11.out.trans HR13.out)
          have HB13 : Hid (u13.heap[u12.heap.size]? = some (.cells #[.string av2.pred, .slice b61 k61 k61] 39 )) := Lib.hid (by rw [hu13]; exact heap_alloc_new u12 _)
          have HF13 := Lib.hid hf
          clear hMx hf
          have HX11 : Hid (Mod (fun _ => False) u11 u13) := HR13
          have HX9 : Hid (Mod (fun _ => False) u9 u13) := Lib.hid (HR11.out.trans HX11.out)
          have HX7 : Hid (Mod (fun _ => False) u7 u13) := Lib.hid (HR9.out.trans HX9.out)
          have HX5 : Hid (Mod (fun _ => False) u5 u13) := Lib.hid (HR7.out.trans HX7.out)
          have HX3 : Hid (Mod (fun _ => False) u3 u13) := Lib.hid (HR5.out.trans HX5.out)
          have HE3 := Lib.hid (HX3.out.at HB3.out id)
          have HE5 := Lib.hid (HX5.out.at HB5.out id)
          have HE7 := Lib.hid (HX7.out.at HB7.out id)
          have HE9 := Lib.hid (HX9.out.at HB9.out id)
          have HE11 := Lib.hid (HX11.out.at HB11.out id)
          have HE13 := HB13
          have HG3 := Lib.hid (HF3.out.mod (HQ3.out.trans HX3.out) (fun _ _ => id))
          have HG5 := Lib.hid (HF5.out.mod (HQ5.out.trans HX5.out) (fun _ _ => id))
          have HG7 := Lib.hid (HF7.out.mod (HQ7.out.trans HX7.out) (fun _ _ => id))
          have HG9 := Lib.hid (HF9.out.mod (HQ9.out.trans HX9.out) (fun _ _ => id))
          have HG11 := Lib.hid (HF11.out.mod (HQ11.out.trans HX11.out) (fun _ _ => id))
          have HG13 := Lib.hid (HF13.out.mod HQ13.out (fun _ _ => id))
          -- end of the six readings
          clear HB3 HB5 HB7 HB9 HB11 HB13
          have t3 := cell_at (j := 0) HE3.out rfl
          have t5 := cell_at (j := 0) HE5.out rfl
          rw [hu13] at t3 t5
          go_wp2_with fail
          rw [← hu13]
          clear t3 t5 hu13
          refine (law8Prog_true ps2 _ _ u13 HG3.out.at_ HG5.out.at_ (by have := HPS2.out.1; omega) (fun r hr => (HPS2.out.2 r hr).smR)).mono ?_
          rintro e u14 ⟨rfl, hM14⟩
          have HM14 := Lib.hid hM14
          have t0 := cell_at (j := 0) (hM14.at HE7.out id) rfl
          have t1 := cell_at (j := 1) (hM14.at HE7.out id) rfl
          have t2 := cell_at (j := 2) (hM14.at HE7.out id) rfl
          have u0 := cell_at (j := 0) (hM14.at HE9.out id) rfl
          have u1 := cell_at (j := 1) (hM14.at HE9.out id) rfl
          have u2 := cell_at (j := 2) (hM14.at HE9.out id) rfl
          have HRL := Lib.hid (law8Rule_true rv2 (.slice b31 k31 k31) (.slice b41 k41 k41) (.slice b32 k32 k32) (.slice b42 k42 k42) u14 (rf_at (HG7.out.mod hM14 (fun _ _ => id))).1 (rf_at (HG9.out.mod hM14 (fun _ _ => id))).1 (rf_at (HG7.out.mod hM14 (fun _ _ => id))).2 (rf_at (HG9.out.mod hM14 (fun _ _ => id))).2 HRS2.out.smR)
          unfold rmV at HRL
          clear hM14
          go_wp2_with fail
          refine HRL.out.mono ?_
          rintro e u15 ⟨rfl, hM15⟩
          clear HRL t0 t1 t2 u0 u1 u2
          have HM15' := Lib.hid (HM14.out.trans hM15)
          clear hM15 HM14
          have t0 := cell_at (j := 0) (HM15'.out.at HE11.out id) rfl
          have t1 := cell_at (j := 1) (HM15'.out.at HE11.out id) rfl
          have u0 := cell_at (j := 0) (HM15'.out.at HE13.out id) rfl
          have u1 := cell_at (j := 1) (HM15'.out.at HE13.out id) rfl
          go_wp2_with fail
          refine (law8Atom_true av2.pred av2.terms _ _ u15 ((HG11.out.mod HM15'.out (fun _ _ => id)).at_) ((HG13.out.mod HM15'.out (fun _ _ => id)).at_) (by have := HAS2.out.2.1; omega)).mono ?_
          rintro e u16 ⟨rfl, hM16'⟩
          clear t0 t1 u0 u1
          have HM16' := Lib.hid ((HW32.out.trans HN13.out).trans (HM15'.out.trans hM16'))
          clear hM16' HM15'
          go_wp2_with fail
          go_ret
          exact ⟨rfl, HM16'.out⟩
end Go.Proofs.YteecbbnpgmceiaaDoor
