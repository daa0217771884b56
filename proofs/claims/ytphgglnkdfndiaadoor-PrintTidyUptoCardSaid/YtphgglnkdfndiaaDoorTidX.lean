/-
  PrintTidy, walked: first part.
-/
import Derived.Test.YtphgglnkdfndiaaDoorTidM
import Derived.Test.YtphgglnkdfndiaaDoorTidP
import Derived.Test.YtphgglnkdfndiaaDoorTidN
import Derived.Test.YtphgglnkdfndiaaDoorSame9
import Derived.Test.YtphgglnkdfndiaaDoorKnow9
namespace Go.Proofs.YtphgglnkdfndiaaDoor
open Go Go.RowKit Go.Mine
set_option linter.unusedVariables false
set_option maxHeartbeats 8000000
set_option maxRecDepth 100000

theorem tidy_err {rs : List Rm} {e : Int} (h : tidyL rs = .error e) : e ≠ 0 := by
  have h3 : ∀ (qs : List Rm) (xs : List Wn), tidyGo xs qs = .error e → e ≠ 0 := by
    intro qs
    induction qs with
    | nil => intro xs h; cases h
    | cons r qs ih =>
      intro xs h
      rw [tidyGo] at h
      split at h
      · cases h; decide
      · exact ih _ h
  unfold tidyL at h
  split at h
  · rename_i hm; cases h; exact hm
  · exact h3 _ _ h
theorem mayPm_of {qs : List Rm} (hl : qs.length ≤ 1024) (h : ∀ q ∈ qs, mayRm q = 0) : mayPm qs = 0 := by
  unfold mayPm
  rw [if_neg (by omega)]
  clear hl
  induction qs with
  | nil => rfl
  | cons q qs ih =>
    rw [mayRs, if_neg (by rw [h q (List.mem_cons_self ..)]; decide)]
    exact ih (fun x hx => h x (List.mem_cons_of_mem _ hx))
theorem OwnP.rsAtX {w : World} {lo : Nat} {rs : List Rm} {gp cp : Nat} {ys : List Yr} (h : OwnP w lo rs gp cp ys) : RsAt w (.slice (some ⟨gp, 0, none⟩) rs.length cp) rs := by
  have hl : ys.length = rs.length := by have := congrArg List.length h.hy; simpa using this
  have hat := (Mine.Own.rd h.own).take (ys.length * 3)
  rw [rmsC_append, List.take_left' (by simp)] at hat
  refine ⟨_, _, ys.map yV, rfl, ?_, hat, ?_⟩
  · rw [← h.hy, List.map_map]; rfl
  · intro x hx
    obtain ⟨y, hy, rfl⟩ := List.mem_map.1 hx
    have hO := h.each y hy
    have hI := RnI.ofOwn (lo := 0) hO (fun _ _ => Nat.zero_le _)
    refine ⟨hO.head.at, hI.ls ?_⟩
    rw [← hO.hx, xsV, List.map_map]; rfl
/-- what tidy rules are, one by one -/
structure TidyOf (rs : List Rm) (xs : List Wn) : Prop where
  may : ∀ r ∈ rs, mayRm r = 0
  len : rs.length ≤ 1024
  go : tidyGo [] rs = .ok xs
theorem TidyOf.of {rs : List Rm} {xs : List Wn} (h : tidyL rs = .ok xs) : TidyOf rs xs := by
  unfold tidyL at h
  split at h
  · cases h
  · rename_i hm
    have hm0 : mayPm rs = 0 := by simpa using hm
    exact ⟨(mayRs_each hm0).2, (mayRs_each hm0).1, h⟩
theorem TidyOf.law {rs : List Rm} {xs : List Wn} (h : TidyOf rs xs) : tidyL rs = .ok xs := by
  unfold tidyL
  rw [mayPm_of h.len h.may]
  exact h.go
theorem TidyOf.same {rs qs : List Rm} {xs : List Wn} (h : TidyOf rs xs) (hl : qs.length ≤ 1024) (hq : ∀ q ∈ qs, mayRm q = 0) (hs : SameN rs qs) : TidyOf qs xs :=
  ⟨hq, hl, tidy_same h.may hq hs h.go⟩
theorem TidyOf.again {rs : List Rm} {xs : List Wn} (h : TidyOf rs xs) : TidyOf (xs.map (·.2)) xs := by
  obtain ⟨h1, h2⟩ := tidy_norms h.may h.go
  have h3 := tidyGo_len h.go
  simp only [List.length_nil] at h3
  refine h.same (by rw [List.length_map]; have := h.len; omega) (fun q hq => ?_) h1
  obtain ⟨x, hx, rfl⟩ := List.mem_map.1 hq
  exact (h2 x hx).2.2.1
theorem TidyOf.al1 {rs : List Rm} {xs : List Wn} (h : TidyOf rs xs) {x : Wn} (hx : x ∈ xs) : ∃ p ∈ rs, Al p x.2 := by
  obtain ⟨_, _, h3, h4, r, hr, e⟩ := (tidy_norms h.may h.go).2 x hx
  refine ⟨r, hr, h.may r hr, h3, ?_⟩
  unfold nmR0
  rw [if_pos (h.may r hr), if_pos h3, h4, e]
theorem TidyOf.al2 {rs : List Rm} {xs : List Wn} (h : TidyOf rs xs) {r : Rm} (hr : r ∈ rs) : ∃ p ∈ xs.map (·.2), Al p r := by
  obtain ⟨h1, h2⟩ := tidy_norms h.may h.go
  obtain ⟨q, hq, e⟩ := (h1 (nmRm r)).1 ⟨r, hr, rfl⟩
  refine ⟨q, hq, ?_, h.may r hr, ?_⟩
  · obtain ⟨x, hx, rfl⟩ := List.mem_map.1 hq
    exact (h2 x hx).2.2.1
  · obtain ⟨x, hx, rfl⟩ := List.mem_map.1 hq
    unfold nmR0
    rw [if_pos (h2 x hx).2.2.1, if_pos (h.may r hr), e]
theorem TidyOf.small {rs : List Rm} {xs : List Wn} (h : TidyOf rs xs) : SmallPm rs := ⟨by have := h.len; omega, fun r hr => small_may (h.may r hr)⟩
theorem tidy_walk1 (rs : List Rm) (v0 : Value) (ta : Option Addr) (tn : List Int) (tc : Nat) (w : World) (hr : RsAt w v0 rs) (hs : SmallPm rs) (hpw : Pow w) (htn : Rd w ta (tn.map fun z => .int .i64 z)) (htl : tn.length < 2 ^ 62) :
    Calls Tryd.prog 4 #[.agg #[v0], .slice ta tn.length tc] w fun e w' => e = .returned (.bool true) ∧ Mod (fun _ => False) w w' := by
  obtain ⟨ad, c, xv, rfl, hx, hrx, hxt⟩ := id hr
  have HX := Lib.hid hx; have HR := Lib.hid hrx; have HXT := Lib.hid hxt; have HRS := Lib.hid hr; have HSM := Lib.hid hs; have HPW := Lib.hid hpw; have HTN := Lib.hid htn
  clear hx hrx hxt hr hs hpw htn
  have hm0 : Mod (fun _ => False) w (w.alloc (.cells #[.slice ad rs.length c] 24)) := (Mod.refl _ w).alloc _
  have hb0 := heap_alloc_new w (.cells #[.slice ad rs.length c] 24)
  have HM0 := Lib.hid hm0; have HB0 := Lib.hid hb0
  clear hm0 hb0
  go_enter Tryd.func4, Tryd.ntmps4
  go_wp2_with fail
  generalize (w.alloc (.cells #[.slice ad rs.length c] 24)) = w0 at *
  refine (know9_any w0 (HPW.out.mod0 HM0.out)).mono ?_
  rintro e w1 ⟨rfl, hM1⟩
  have HM1 := Lib.hid hM1
  have cA := cell_at (j := 0) (hM1.at HB0.out id) rfl
  clear hM1
  go_wp2_with fail
  refine (ownProgram_any rs _ w1 (HRS.out.mod0 (HM0.out.trans HM1.out)) HSM.out).mono ?_
  rintro e w2 ⟨gp, cp, ys, rfl, hO, hM2⟩
  have HO := Lib.hid hO.rsAtX
  have HM2 := Lib.hid (HM1.out.trans hM2)
  clear hO hM2 cA
  go_wp2_with fail
  refine (Tidy_any rs _ w2 HSM.out HO.out (HPW.out.mod0 (HM0.out.trans HM2.out))).mono ?_
  rintro e w3 ⟨t, rfl, hT, hM3⟩
  have HT := Lib.hid hT.at
  have HM3 := Lib.hid (HM2.out.trans hM3)
  clear hM3 HO
  obtain ⟨g, gc, _, rfl, _⟩ := hT
  cases hTL : tidyL rs with
  | error ev =>
    have hne := tidy_err hTL
    have hb : ((ev : Int) != 0) = true := by simpa using hne
    rw [hTL] at HT
    simp only [tidR, tidE, List.length_nil]
    go_wp2_with (first
      | (go_at_call 10; refine (num9_any _ _).mono ?_; rintro e w' ⟨rfl, rfl⟩))
    go_ret
    exact ⟨rfl, (HM0.out.trans HM3.out).alloc _⟩
  | ok xs =>
    have HTO := Lib.hid (TidyOf.of hTL)
    rw [hTL] at HT
    clear hTL
    simp only [tidR, tidE] at HT ⊢
    obtain ⟨qs, hqs⟩ : ∃ qs, qs = xs.map (·.2) := ⟨_, rfl⟩
    have HTA := Lib.hid HTO.out.again
    rw [← hqs] at HT HTA ⊢
    have HQS := Lib.hid hqs
    clear hqs
    have hm4 : Mod (fun _ => False) w3 (w3.alloc (.cells #[.slice g qs.length gc] 24)) := (Mod.refl _ w3).alloc _
    have HB4 := Lib.hid (heap_alloc_new w3 (.cells #[.slice g qs.length gc] 24))
    have HT4 := Lib.hid (HT.out.mod0 hm4)
    have HM4 := Lib.hid (HM3.out.trans hm4)
    have cT := cell_at (j := 0) HB4.out rfl
    clear hm4
    go_wp2_with (first
      | (go_at_call 10; refine (num9_any _ _).mono ?_; rintro e w' ⟨rfl, rfl⟩))
    generalize (w3.alloc (.cells #[.slice g qs.length gc] 24)) = w4 at *
    refine (ownProgram_any qs _ w4 HT4.out HTA.out.small).mono ?_
    rintro e w5 ⟨gp2, cp2, ys2, rfl, hO, hM5⟩
    have HO := Lib.hid hO.rsAtX
    have HM5 := Lib.hid hM5
    clear hO hM5 cT
    go_wp2_with fail
    refine (Tidy_any qs _ w5 HTA.out.small HO.out (HPW.out.mod0 (HM0.out.trans (HM4.out.trans HM5.out)))).mono ?_
    rintro e w6 ⟨u, rfl, hU, hM6⟩
    have hU2 := hU.at
    obtain ⟨h, hc, _, rfl, _⟩ := hU
    rw [HTA.out.law] at hU2 ⊢
    simp only [tidR, tidE] at hU2 ⊢
    rw [← HQS.out] at hU2 ⊢
    have hm7 : Mod (fun _ => False) w6 (w6.alloc (.cells #[.slice h qs.length hc] 24)) := (Mod.refl _ w6).alloc _
    have HB7 := Lib.hid (heap_alloc_new w6 (.cells #[.slice h qs.length hc] 24))
    have HU7 := Lib.hid (hU2.mod0 hm7)
    have HM47 := Lib.hid (HM5.out.trans (hM6.trans hm7))
    have cT := cell_at (j := 0) (HM47.out.at HB4.out id) rfl
    have cU := cell_at (j := 0) HB7.out rfl
    clear hm7 hU2 hM6 HO
    go_wp2_with (first
      | (go_at_call 10; refine (num9_any _ _).mono ?_; rintro e w' ⟨rfl, rfl⟩))
    generalize (w6.alloc (.cells #[.slice h qs.length hc] 24)) = w7 at *
    refine (same9_true qs _ _ w7 (HT4.out.mod0 HM47.out) HU7.out HTA.out.small).mono ?_
    rintro e w8 ⟨rfl, hM8⟩
    have HM8 := Lib.hid (HM4.out.trans (HM47.out.trans hM8))
    have HM48 := Lib.hid (HM47.out.trans hM8)
    clear hM8 cT cU
    obtain ⟨_, _, xt, eg, hxq, hrq, htq⟩ := id HT4.out
    cases eg
    have HXQ := Lib.hid hxq; have HRQ := Lib.hid hrq; have HTQ := Lib.hid htq
    clear hxq hrq htq
    have hlx : qs.length = xs.length := by rw [HQS.out, List.length_map]
    have hn := tidy_norms HTO.out.may HTO.out.go
    have hql : qs.length < 2 ^ 30 := HTA.out.small.1
    have hrl : rs.length < 2 ^ 30 := HSM.out.1
    obtain ⟨TX, hTX⟩ : ∃ TX : Nat → ByteArray, ∀ k (hk : k < xs.length), TX k = xs[k].1 := ⟨fun k => ((xs[k]?).map (·.1)).getD emptyB, fun k hk => by simp [hk]⟩
    have hqx : ∀ k (hk : k < qs.length), qs[k] = (xs[k]'(by omega)).2 := fun k hk => by
      have h1 : qs[k]? = (xs.map (·.2))[k]? := by rw [← HQS.out]
      rw [List.getElem?_eq_getElem hk, List.getElem?_map, List.getElem?_eq_getElem (show k < xs.length by omega)] at h1
      exact Option.some.inj h1
    have HRU : Hid (∀ (k : Nat) (hk : k < qs.length) (W : World) (s b : Value), Mod (fun _ => False) w4 W → (qs[k], s, b) ∈ xt → Calls Tryd.prog 13 #[rmV qs[k] s b] W fun e w' => e = .returned (.tuple #[.string (TX k), .int .i64 0]) ∧ Mod (fun _ => False) W w') := fun k hk W s b m hmem => by
      have hk2 : k < xs.length := by omega
      obtain ⟨e1, e2, e3, _, _⟩ := hn.2 xs[k] (List.getElem_mem hk2)
      have h := Rule_any qs[k] s b W (HTA.out.small.2 _ (List.getElem_mem hk)) ((HTQ.out _ hmem).1.mod0 m) ((HTQ.out _ hmem).2.mod0 m)
      have hq := hqx k hk
      have e4 : outP (mayRm qs[k]) (rmT qs[k]) = (rmT xs[k].2, 0) := by
        rw [hq, e3]
        unfold outP fitT
        rw [if_neg (by decide), if_neg e2]
      rw [e4] at h
      refine h.mono ?_
      rintro e w' ⟨he, hM⟩
      exact ⟨by rw [he, hTX k hk2, e1], hM⟩
    have HAM : Hid (∀ (k : Nat) (hk : k < qs.length) (W : World) (s b : Value), Mod (fun _ => False) w4 W → (qs[k], s, b) ∈ xt → Calls Tryd.prog 14 #[.agg #[.slice ad rs.length c], rmV qs[k] s b] W fun e w' => e = .returned (.bool true) ∧ Mod (fun _ => False) W w') := fun k hk W s b m hmem =>
      among_any rs _ qs[k] s b W (HRS.out.mod0 (HM0.out.trans (HM4.out.trans m))) HSM.out ((HTQ.out _ hmem).1.mod0 m) ((HTQ.out _ hmem).2.mod0 m) (HTA.out.small.2 _ (List.getElem_mem hk)) (HPW.out.mod0 (HM0.out.trans (HM4.out.trans m))) (by rw [hqx k hk]; exact HTO.out.al1 (List.getElem_mem _))
    have HAM2 : Hid (∀ (k : Nat) (hk : k < rs.length) (W : World) (s b : Value), Mod (fun _ => False) w4 W → (rs[k], s, b) ∈ xv → Calls Tryd.prog 14 #[.agg #[.slice g qs.length gc], rmV rs[k] s b] W fun e w' => e = .returned (.bool true) ∧ Mod (fun _ => False) W w') := fun k hk W s b m hmem =>
      among_any qs _ rs[k] s b W (HT4.out.mod0 m) HTA.out.small ((HXT.out _ hmem).1.mod0 (HM0.out.trans (HM4.out.trans m))) ((HXT.out _ hmem).2.mod0 (HM0.out.trans (HM4.out.trans m))) (HSM.out.2 _ (List.getElem_mem hk)) (HPW.out.mod0 (HM0.out.trans (HM4.out.trans m))) (by rw [HQS.out]; exact HTO.out.al2 (List.getElem_mem hk))
    have HUP : Hid (∀ k, 0 < k → k < qs.length → Op.bytesLess (TX (k - 1)).toList (TX k).toList = true) := fun k h0 hk => by
      rw [hTX (k - 1) (by omega), hTX k (by omega)]
      exact (lssT _ _).trans (decide_eq_true (sortT_get (tidyGo_sort List.Pairwise.nil HTO.out.go) (by omega) (by omega) (by omega)))
    clear hTX hqx hn hlx
    go_wp2_with fail
    go_loopw [9, 10, 11, 12, 13] (fun iv _ _ _ _ wr => ∃ k : Nat, iv = .int .i64 k ∧ k ≤ qs.length ∧ Hid (Mod (fun _ => False) w8 wr)) (fun iv _ _ _ _ _ => qs.length - (intOf iv).toNat)
    case atStart => exact ⟨0, rfl, Nat.zero_le _, Lib.hid (Mod.refl _ _)⟩
    case round =>
      obtain ⟨k, rfl, hk, hM⟩ := hrel
      have cA := cell_at (j := 0) ((HM8.out.trans hM.out).at HB0.out id) rfl
      have cT := cell_at (j := 0) ((HM48.out.trans hM.out).at HB4.out id) rfl
      by_cases hlt : k < qs.length
      · have HMR : Hid (Mod (fun _ => False) w4 wr) := Lib.hid (HM48.out.trans hM.out)
        obtain ⟨⟨sk, bk⟩, hxk, hmem⟩ := xs_get HXQ.out hlt
        obtain ⟨bb, o, rfl, x0, x1, x2⟩ := rd_cellR (HRQ.out.mod HMR.out (fun _ _ => id)) hxk
        have hsl : (∃ a n c, sk = .slice a n c) ∧ ∃ a n c, bk = .slice a n c := by
          obtain ⟨⟨a1, c1, e1, _⟩, a2, c2, _, e2, _⟩ := HTQ.out _ hmem
          exact ⟨⟨_, _, _, e1⟩, _, _, _, e2⟩
        have HR1 := Lib.hid (fun W (m : Mod (fun _ => False) wr W) => HRU.out k hlt W sk bk (HMR.out.trans m) hmem)
        have HA1 := Lib.hid (fun W (m : Mod (fun _ => False) wr W) => HAM.out k hlt W sk bk (HMR.out.trans m) hmem)
        have HPV : Hid (0 < k → ∃ p s' b', (∃ sa1 sn1 sc1, s' = .slice sa1 sn1 sc1) ∧ (∃ sa1 sn1 sc1, b' = .slice sa1 sn1 sc1) ∧ wr.cell? ⟨bb, o + (k - 1) * 3, none⟩ = some (.string p) ∧ wr.cell? ⟨bb, o + (k - 1) * 3 + 1, none⟩ = some s' ∧ wr.cell? ⟨bb, o + (k - 1) * 3 + 2, none⟩ = some b' ∧ ∀ W, Mod (fun _ => False) wr W → Calls Tryd.prog 13 #[.agg #[.string p, s', b']] W fun e w' => e = .returned (.tuple #[.string (TX (k - 1)), .int .i64 0]) ∧ Mod (fun _ => False) W w') := fun h0 => by
          obtain ⟨⟨s', b'⟩, hx', hm'⟩ := xs_get HXQ.out (i := k - 1) (by omega)
          obtain ⟨bb', o', e', z0, z1, z2⟩ := rd_cellR (HRQ.out.mod HMR.out (fun _ _ => id)) hx'
          cases e'
          obtain ⟨⟨a1, c1, e1, _⟩, a2, c2, _, e2, _⟩ := HTQ.out _ hm'
          exact ⟨qs[k - 1].head.pred, s', b', ⟨_, _, _, e1⟩, ⟨_, _, _, e2⟩, z0, z1, z2, fun W m => HRU.out (k - 1) (by omega) W s' b' (HMR.out.trans m) hm'⟩
        obtain ⟨⟨ka, kn, kc, rfl⟩, la, ln, lc, rfl⟩ := hsl
        unfold rmV at HR1 HA1
        clear hxk hmem
        generalize qs[k].head.pred = pk at *
        go_wp2_with fail
        refine (HR1.out _ (Mod.refl _ wr)).mono ?_
        rintro e w9 ⟨rfl, hM9⟩
        have HM9 := Lib.hid hM9
        have cA := hM9.cell cA id; have cT := hM9.cell cT id; have x0 := hM9.cell x0 id; have x1 := hM9.cell x1 id; have x2 := hM9.cell x2 id
        clear hM9 HR1
        go_wp2_with fail
        refine wp_region_ord (fun w' => w'.cell? ⟨w.heap.size, 0, none⟩ = some (.slice ad rs.length c) ∧ w'.cell? ⟨w3.heap.size, 0, none⟩ = some (.slice (some ⟨bb, o, none⟩) qs.length gc) ∧ (w'.cell? ⟨bb, o + k * 3, none⟩ = some (.string pk) ∧ w'.cell? ⟨bb, o + k * 3 + 1, none⟩ = some (.slice ka kn kc) ∧ w'.cell? ⟨bb, o + k * 3 + 2, none⟩ = some (.slice la ln lc))) [(0, 0), (3, 1), (0, 2), (0, 3), (1, 4), (0, 5), (1, 6), (0, 7), (0, 8), (1, 9), (3, 10), (0, 11), (0, 12)] (by kernel_rfl) (by kernel_rfl) ?_
        go_wp2_with (first
          | (refine ord_pure rfl rfl rfl (fun K hK => ?_); go_big_quiet_op; refine hK _ ?_; clear hK K)
                                                                | (refine ord_skip rfl rfl ?_; simp only [Act.put, List.setIfInBounds_toArray, List.set_cons_zero, List.set_cons_succ])
                                                                | (refine ord_held rfl rfl rfl (⟨cA, cT, x0, x1, x2⟩) (fun K hK => ?_); apply Exists.intro; refine ⟨fun w' hs => ?_, hK _ ?_⟩; (revert hs; dsimp only; (try simp only [and_imp]); intros; go_simp; rfl); clear hK K)
                                                                | (refine ord_keep rfl rfl (⟨cA, cT, x0, x1, x2⟩) (fun K hK => ?_))
                                                                | (refine ord_drop rfl rfl (fun K hK => ?_))
                                                                | (refine ord_nil ?_)
          | (go_at_call 10; refine (num9_any _ _).mono ?_; rintro e w' ⟨rfl, rfl⟩))
        refine (HA1.out _ (HM9.out.drew)).mono ?_
        rintro e w10 ⟨rfl, hM10⟩
        have HM10 := Lib.hid (HM9.out.drew.trans hM10)
        have cT := (Mod.refl (fun _ => False) w9).drew.trans hM10 |>.cell cT id
        clear hM10 HA1 cA x0 x1 x2
        by_cases hk0 : k = 0
        · have e0 : ¬ ((0 : Int) < (k : Int)) := by omega
          clear HPV cT
          go_wp2_with (first
            | (refine ord_pure rfl rfl rfl (fun K hK => ?_); go_big_quiet_op; refine hK _ ?_; clear hK K)
                                                                | (refine ord_skip rfl rfl ?_; simp only [Act.put, List.setIfInBounds_toArray, List.set_cons_zero, List.set_cons_succ])
                                                                | (refine ord_held rfl rfl rfl (trivial) (fun K hK => ?_); apply Exists.intro; refine ⟨fun w' hs => ?_, hK _ ?_⟩; (revert hs; dsimp only; (try simp only [and_imp]); intros; go_simp; rfl); clear hK K)
                                                                | (refine ord_keep rfl rfl (trivial) (fun K hK => ?_))
                                                                | (refine ord_drop rfl rfl (fun K hK => ?_))
                                                                | (refine ord_nil ?_))
          go_roundw
          case rel => exact ⟨k + 1, by go_num, hlt, Lib.hid (hM.out.trans HM10.out)⟩
          case measure => simp [intOf]; omega
        · have e0 : (0 : Int) < (k : Int) := by omega
          obtain ⟨pp, s', b', ⟨s1, s2, s3, rfl⟩, ⟨b1, b2, b3, rfl⟩, z0, z1, z2, hcl⟩ := HPV.out (by omega)
          have z0 := HM10.out.cell z0 id; have z1 := HM10.out.cell z1 id; have z2 := HM10.out.cell z2 id
          have HCL := Lib.hid hcl
          have hup := HUP.out k (by omega) hlt
          have HUK := Lib.hid hup
          have ek : (k : Int) - 1 = ((k - 1 : Nat) : Int) := by omega
          have hk1 : k - 1 < qs.length := by omega
          clear HPV hcl hup
          go_wp2_with (first
            | (refine ord_pure rfl rfl rfl (fun K hK => ?_); go_big_quiet_op; refine hK _ ?_; clear hK K)
                                                                | (refine ord_skip rfl rfl ?_; simp only [Act.put, List.setIfInBounds_toArray, List.set_cons_zero, List.set_cons_succ])
                                                                | (refine ord_held rfl rfl rfl (trivial) (fun K hK => ?_); apply Exists.intro; refine ⟨fun w' hs => ?_, hK _ ?_⟩; (revert hs; dsimp only; (try simp only [and_imp]); intros; go_simp; rfl); clear hK K)
                                                                | (refine ord_keep rfl rfl (trivial) (fun K hK => ?_))
                                                                | (refine ord_drop rfl rfl (fun K hK => ?_))
                                                                | (refine ord_nil ?_))
          refine (HCL.out _ HM10.out).mono ?_
          rintro e w11 ⟨rfl, hM11⟩
          have HM11 := Lib.hid (HM10.out.trans hM11)
          have hup2 := HUK.out
          clear hM11 cT z0 z1 z2 HCL
          go_wp2_with fail
          go_roundw
          case rel => exact ⟨k + 1, by go_num, hlt, Lib.hid (hM.out.trans HM11.out)⟩
          case measure => simp [intOf]; omega
      · obtain rfl : k = qs.length := by omega
        have HM8' := Lib.hid (HM8.out.trans hM.out)
        have HM48' := Lib.hid (HM48.out.trans hM.out)
        clear HRU HAM HUP HM8 HM48 hM
        clear cA
        go_wp2_with fail
        clear cT
        go_loopw [14] (fun iv wv => ∃ k : Nat, iv = .int .i64 k ∧ k ≤ rs.length ∧ Hid (Mod (fun _ => False) wr wv)) (fun iv _ => rs.length - (intOf iv).toNat)
        case atStart => exact ⟨0, rfl, Nat.zero_le _, Lib.hid (Mod.refl _ _)⟩
        case round =>
          obtain ⟨k, rfl, hk, hM⟩ := hrel
          have cA := cell_at (j := 0) ((HM8'.out.trans hM.out).at HB0.out id) rfl
          have cT := cell_at (j := 0) ((HM48'.out.trans hM.out).at HB4.out id) rfl
          by_cases hlt : k < rs.length
          · have HMR : Hid (Mod (fun _ => False) w4 wr) := Lib.hid (HM48'.out.trans hM.out)
            obtain ⟨⟨sk, bk⟩, hxk, hmem⟩ := xs_get HX.out hlt
            obtain ⟨bb, o, rfl, x0, x1, x2⟩ := rd_cellR (HR.out.mod (HM0.out.trans (HM8'.out.trans hM.out)) (fun _ _ => id)) hxk
            have hsl : (∃ a n c, sk = .slice a n c) ∧ ∃ a n c, bk = .slice a n c := by
              obtain ⟨⟨a1, c1, e1, _⟩, a2, c2, _, e2, _⟩ := HXT.out _ hmem
              exact ⟨⟨_, _, _, e1⟩, _, _, _, e2⟩
            have HA1 := Lib.hid (fun W (m : Mod (fun _ => False) wr W) => HAM2.out k hlt W sk bk (HMR.out.trans m) hmem)
            obtain ⟨⟨ka, kn, kc, rfl⟩, la, ln, lc, rfl⟩ := hsl
            unfold rmV at HA1
            clear hxk hmem
            generalize rs[k].head.pred = pk at *
            go_wp2_with fail
            refine wp_region_ord (fun w' => w'.cell? ⟨w.heap.size, 0, none⟩ = some (.slice (some ⟨bb, o, none⟩) rs.length c) ∧ w'.cell? ⟨w3.heap.size, 0, none⟩ = some (.slice g qs.length gc) ∧ (w'.cell? ⟨bb, o + k * 3, none⟩ = some (.string pk) ∧ w'.cell? ⟨bb, o + k * 3 + 1, none⟩ = some (.slice ka kn kc) ∧ w'.cell? ⟨bb, o + k * 3 + 2, none⟩ = some (.slice la ln lc))) [(1, 0), (0, 1), (1, 2), (0, 3), (0, 4), (1, 5), (3, 6), (0, 7)] (by kernel_rfl) (by kernel_rfl) ?_
            go_wp2_with (first
              | (refine ord_pure rfl rfl rfl (fun K hK => ?_); go_big_quiet_op; refine hK _ ?_; clear hK K)
                                                                | (refine ord_skip rfl rfl ?_; simp only [Act.put, List.setIfInBounds_toArray, List.set_cons_zero, List.set_cons_succ])
                                                                | (refine ord_held rfl rfl rfl (⟨cA, cT, x0, x1, x2⟩) (fun K hK => ?_); apply Exists.intro; refine ⟨fun w' hs => ?_, hK _ ?_⟩; (revert hs; dsimp only; (try simp only [and_imp]); intros; go_simp; rfl); clear hK K)
                                                                | (refine ord_keep rfl rfl (⟨cA, cT, x0, x1, x2⟩) (fun K hK => ?_))
                                                                | (refine ord_drop rfl rfl (fun K hK => ?_))
                                                                | (refine ord_nil ?_))
            refine (HA1.out _ (Mod.refl (fun _ => False) wr).drew).mono ?_
            rintro e w10 ⟨rfl, hM10⟩
            have HM10 := Lib.hid ((Mod.refl (fun _ => False) wr).drew.trans hM10)
            clear hM10 HA1 cA cT x0 x1 x2
            go_wp2_with (first
              | (refine ord_pure rfl rfl rfl (fun K hK => ?_); go_big_quiet_op; refine hK _ ?_; clear hK K)
                                                                | (refine ord_skip rfl rfl ?_; simp only [Act.put, List.setIfInBounds_toArray, List.set_cons_zero, List.set_cons_succ])
                                                                | (refine ord_held rfl rfl rfl (trivial) (fun K hK => ?_); apply Exists.intro; refine ⟨fun w' hs => ?_, hK _ ?_⟩; (revert hs; dsimp only; (try simp only [and_imp]); intros; go_simp; rfl); clear hK K)
                                                                | (refine ord_keep rfl rfl (trivial) (fun K hK => ?_))
                                                                | (refine ord_drop rfl rfl (fun K hK => ?_))
                                                                | (refine ord_nil ?_))
            go_roundw
            case rel => exact ⟨k + 1, by go_num, hlt, Lib.hid (hM.out.trans HM10.out)⟩
            case measure => simp [intOf]; omega
          · obtain rfl : k = rs.length := by omega
            have HM8 := Lib.hid (HM8'.out.trans hM.out)
            have HM48 := Lib.hid (HM48'.out.trans hM.out)
            clear HAM2 HM8' HM48' hM cT
            obtain ⟨wb, hwb⟩ : ∃ v, v = wr := ⟨_, rfl⟩
            rw [← hwb] at HM8 HM48 cA ⊢
            clear hwb
            go_wp2_with fail
            refine (ownProgram_any rs _ wb (HRS.out.mod0 (HM0.out.trans HM8.out)) HSM.out).mono ?_
            rintro e w24 ⟨gm0, mc0, ys3, rfl, hO, hM24⟩
            obtain ⟨hMx, hfs⟩ := Mix.ofOwn hO
            have hgl : wb.heap.size ≤ gm0 := Nat.le_trans (Nat.le_add_right _ 2) hO.lgp
            have hMl : wb.heap.size ≤ w24.heap.size := hM24.size
            have hm25 : Mod (fun _ => False) wb (w24.alloc (.cells #[.slice (some ⟨gm0, 0, none⟩) rs.length mc0] 24)) := hM24.alloc _
            have hok : MixOk rs rs := ⟨HTO.out.may, HTO.out.len, SameN.refl _⟩
            rw [← hfs] at hok
            have HMX := Lib.hid hMx; have HGL := Lib.hid hgl; have HML := Lib.hid hMl; have HM25 := Lib.hid hm25; have HOK := Lib.hid hok
            rw [hfs] at HOK
            have HFS := Lib.hid hfs
            clear hMx hgl hMl hm25 hok hO hM24 hfs
            go_wp2_with fail
            generalize (w24.alloc (.cells #[.slice (some ⟨gm0, 0, none⟩) rs.length mc0] 24)) = w25 at *
            go_loopw [16, 17, 18, 19, 20, 21, 22, 23] (fun iv _ _ _ _ _ _ _ wv => ∃ (i gm mc : Nat) (zs : List Rv), iv = .int .i64 i ∧ i ≤ tn.length ∧ Hid (Mix wv w24.heap.size gm mc zs) ∧ Hid (wb.heap.size ≤ gm) ∧ Hid (MixOk rs (zs.map Prod.fst)) ∧ Hid (Mod (fun _ => False) wb wv)) (fun iv _ _ _ _ _ _ _ _ => tn.length - (intOf iv).toNat)
            case atStart => exact ⟨0, gm0, mc0, ys3.map yV, rfl, Nat.zero_le _, HMX, HGL, Lib.hid (by rw [HFS.out]; exact HOK.out), HM25⟩
            case round =>
              obtain ⟨i, gm, mc, zs, rfl, hi, hmx, hgm, hok, hM⟩ := hrel
              have hzl : zs.length ≤ 1024 := by have := hok.out.len; rw [List.length_map] at this; exact this
              obtain ⟨v0, hv0⟩ : ∃ v, v = wr := ⟨_, rfl⟩
              rw [← hv0] at hmx hM ⊢
              clear hv0
              obtain ⟨M, hMM⟩ : ∃ M, M = w24.heap.size := ⟨_, rfl⟩
              rw [← hMM] at hmx ⊢
              have HMM := Lib.hid hMM
              clear hMM
              have cM := hmx.out.cellM
              by_cases hgo : (i < tn.length ∧ 0 < zs.length) ∧ zs.length < 900
              · obtain ⟨⟨hlt, h0⟩, h9⟩ := hgo
                have HLT := Lib.hid hlt
                have e0 : (0 : Int) < (zs.length : Int) := by omega
                have e9 : (zs.length : Int) < 900 := by omega
                obtain ⟨tb, td, rfl, xT⟩ := (HTN.out.mod (HM0.out.trans (HM8.out.trans hM.out)) (fun _ _ => id)) i (.int .i64 tn[i]) (by rw [List.getElem?_map, List.getElem?_eq_getElem hlt]; rfl)
                obtain ⟨z, hz⟩ : ∃ z, z = tn[i] := ⟨_, rfl⟩
                rw [← hz] at xT
                clear hz
                go_upto_if 146 with fail
                go_cut [18] (fun v wx => ∃ k : Nat, v = .int .i64 k ∧ k < zs.length ∧ wx = v0)
                case first =>
                  have ht1 := Int.tmod_lt_of_pos z e0
                  have ht2 := Int.lt_tmod_of_pos z e0
                  have HT1 := Lib.hid ht1; have HT2 := Lib.hid ht2
                  by_cases hneg : z.tmod zs.length < 0
                  · go_wp2_with fail
                    go_meet
                    case rel =>
                      have h1 := HT1.out
                      have h2 := HT2.out
                      exact ⟨(z.tmod zs.length + zs.length).toNat, by rw [Int.toNat_of_nonneg (by omega)], by omega, rfl⟩
                  · go_wp2_with fail
                    go_meet
                    case rel =>
                      have h1 := HT1.out
                      exact ⟨(z.tmod zs.length).toNat, by rw [Int.toNat_of_nonneg (by omega)], by omega, rfl⟩
                case rest =>
                  obtain ⟨k, rfl, hk, hwc⟩ := hcut
                  rw [hwc]
                  clear hwc xT
                  obtain ⟨j, hj⟩ : ∃ j, j = i % zs.length := ⟨_, rfl⟩
                  have hjl : j < zs.length := by rw [hj]; exact Nat.mod_lt _ h0
                  have ej : ((i : Int).tmod (zs.length : Int)) = (j : Int) := by rw [hj]; exact (Int.ofNat_tmod i zs.length).symm
                  clear hj
                  have hxk := hmx.out.get hk; have hxj := hmx.out.get hjl
                  have hGk := hmx.out.getG hk; have hGj := hmx.out.getG hjl
                  have hslk := hmx.out.sl hk; have hslj := hmx.out.sl hjl
                  obtain ⟨zk, hzk⟩ : ∃ z, z = zs[k] := ⟨_, rfl⟩
                  obtain ⟨zj, hzj⟩ : ∃ z, z = zs[j] := ⟨_, rfl⟩
                  rw [← hzk] at hxk hGk hslk
                  rw [← hzj] at hxj hGj hslj
                  obtain ⟨rk, sk, bk⟩ := zk
                  obtain ⟨rj, sj, bj⟩ := zj
                  obtain ⟨⟨ka, kn, kc, ek1⟩, la, ln, lc, ek2⟩ := hslk
                  obtain ⟨⟨ka2, kn2, kc2, ek3⟩, la2, ln2, lc2, ek4⟩ := hslj
                  simp only at ek1 ek2 ek3 ek4
                  subst ek1 ek2 ek3 ek4
                  simp only at hxk hxj hGk hGj
                  obtain ⟨x0, x1, x2⟩ := hxk
                  obtain ⟨y0, y1, y2⟩ := hxj
                  have f0 := hmx.out.frozen (k * 3); have f1 := hmx.out.frozen (k * 3 + 1); have f2 := hmx.out.frozen (k * 3 + 2)
                  have HGK := Lib.hid hGk; have HGJ := Lib.hid hGj; have HZK := Lib.hid hzk; have HZJ := Lib.hid hzj
                  clear hGk hGj hzk hzj
                  go_wp2_with fail
                  refine wp_region_ord (fun W => W.cell? ⟨M, 0, none⟩ = some (.slice (some ⟨gm, 0, none⟩) zs.length mc) ∧ W.cell? ⟨gm, j * 3, none⟩ = some (.string rj.head.pred) ∧ W.cell? ⟨gm, j * 3 + 1, none⟩ = some (.slice ka2 kn2 kc2) ∧ W.cell? ⟨gm, j * 3 + 2, none⟩ = some (.slice la2 ln2 lc2)) [(0, 0), (1, 1), (0, 2), (0, 3), (1, 4), (0, 5), (0, 6), (1, 7), (0, 8), (0, 9), (1, 10), (0, 11), (1, 12), (0, 13), (0, 14), (2, 15), (0, 16), (2, 17), (0, 18), (3, 19)] (by kernel_rfl) (by kernel_rfl) ?_
                  go_wp2_with (first
                    | (refine ord_pure rfl rfl rfl (fun K hK => ?_); go_big_quiet_op; refine hK _ ?_; clear hK K)
                                                                | (refine ord_skip rfl rfl ?_; simp only [Act.put, List.setIfInBounds_toArray, List.set_cons_zero, List.set_cons_succ])
                                                                | (refine ord_held rfl rfl rfl (⟨cM, y0, y1, y2⟩) (fun K hK => ?_); apply Exists.intro; refine ⟨fun w' hs => ?_, hK _ ?_⟩; (revert hs; dsimp only; (try simp only [and_imp]); intros; go_simp; rfl); clear hK K)
                                                                | (refine ord_keep rfl rfl (⟨cM, y0, y1, y2⟩) (fun K hK => ?_))
                                                                | (refine ord_drop rfl rfl (fun K hK => ?_))
                                                                | (refine ord_nil ?_))
                  refine hK _ _ ⟨cM, y0, y1, y2⟩ ?_; clear hK K
                  go_wp2_with (first
                    | (refine ord_pure rfl rfl rfl (fun K hK => ?_); go_big_quiet_op; refine hK _ ?_; clear hK K)
                                                                | (refine ord_skip rfl rfl ?_; simp only [Act.put, List.setIfInBounds_toArray, List.set_cons_zero, List.set_cons_succ])
                                                                | (refine ord_held rfl rfl rfl (⟨cM, y0, y1, y2⟩) (fun K hK => ?_); apply Exists.intro; refine ⟨fun w' hs => ?_, hK _ ?_⟩; (revert hs; dsimp only; (try simp only [and_imp]); intros; go_simp; rfl); clear hK K)
                                                                | (refine ord_keep rfl rfl (⟨cM, y0, y1, y2⟩) (fun K hK => ?_))
                                                                | (refine ord_drop rfl rfl (fun K hK => ?_))
                                                                | (refine ord_nil ?_))
                  obtain ⟨v1, hv1⟩ : ∃ v, v = (((v0.setCell ⟨gm, k * 3, none⟩ (.string rj.head.pred)).setCell ⟨gm, k * 3 + 1, none⟩ (.slice ka2 kn2 kc2)).setCell ⟨gm, k * 3 + 2, none⟩ (.slice la2 ln2 lc2)).drew := ⟨_, rfl⟩
                  obtain ⟨zs1, hzs1⟩ : ∃ z, z = zs.set k (rj, .slice ka2 kn2 kc2, .slice la2 ln2 lc2) := ⟨_, rfl⟩
                  have hl1 : zs1.length = zs.length := by rw [hzs1, List.length_set]
                  have hp1 : Mix v1 M gm mc zs1 ∧ Mod (fun b => b = gm) v0 v1 := by
                    have h := hmx.out.put hk (z := (rj, .slice ka2 kn2 kc2, .slice la2 ln2 lc2)) HGJ.out
                    rw [← hzs1] at h
                    rw [hv1]
                    exact ⟨h.1.mod0 ((Mod.refl _ _).drew), h.2.drew⟩
                  have HP1 := Lib.hid hp1
                  have hj1 : j < zs1.length := by omega
                  have hz1 : zs1[j] = (rj, .slice ka2 kn2 kc2, .slice la2 ln2 lc2) := by
                    by_cases e : k = j
                    · subst e; simp only [hzs1, List.getElem_set_self]
                    · simp only [hzs1, List.getElem_set_ne e]; exact HZJ.out.symm
                  have hy := hp1.1.get hj1
                  rw [hz1] at hy
                  simp only at hy
                  have cM1 := hp1.1.cellM
                  rw [hl1] at cM1
                  have g0 := hp1.1.frozen (j * 3); have g1 := hp1.1.frozen (j * 3 + 1); have g2 := hp1.1.frozen (j * 3 + 2)
                  rw [← hv1]
                  clear hv1 cM x0 x1 x2 y0 y1 y2 f0 f1 f2 hp1
                  obtain ⟨y0, y1, y2⟩ := hy
                  refine hK _ _ ⟨cM1, y0, y1, y2⟩ ?_; clear hK K
                  go_upto_region 34 with (first
                    | (refine ord_pure rfl rfl rfl (fun K hK => ?_); go_big_quiet_op; refine hK _ ?_; clear hK K)
                                                                | (refine ord_skip rfl rfl ?_; simp only [Act.put, List.setIfInBounds_toArray, List.set_cons_zero, List.set_cons_succ])
                                                                | (refine ord_held rfl rfl rfl (⟨cM1, y0, y1, y2⟩) (fun K hK => ?_); apply Exists.intro; refine ⟨fun w' hs => ?_, hK _ ?_⟩; (revert hs; dsimp only; (try simp only [and_imp]); intros; go_simp; rfl); clear hK K)
                                                                | (refine ord_keep rfl rfl (⟨cM1, y0, y1, y2⟩) (fun K hK => ?_))
                                                                | (refine ord_drop rfl rfl (fun K hK => ?_))
                                                                | (refine ord_nil ?_))
                  obtain ⟨v2, hv2⟩ : ∃ v, v = ((v1.setCell ⟨gm, j * 3, none⟩ (.string rk.head.pred)).setCell ⟨gm, j * 3 + 1, none⟩ (.slice ka kn kc)).setCell ⟨gm, j * 3 + 2, none⟩ (.slice la ln lc) := ⟨_, rfl⟩
                  obtain ⟨zs2, hzs2⟩ : ∃ z, z = zs1.set j (rk, .slice ka kn kc, .slice la ln lc) := ⟨_, rfl⟩
                  have hp2 : Mix v2 M gm mc zs2 ∧ Mod (fun b => b = gm) v1 v2 := by
                    rw [hv2, hzs2]
                    exact HP1.out.1.put hj1 (z := (rk, .slice ka kn kc, .slice la ln lc)) (HGK.out.step HP1.out.2 (fun b _ g e => g.2 e) (fun _ _ => id))
                  rw [← hv2]
                  clear hv2 cM1 y0 y1 y2 g0 g1 g2
                  have hl2 : zs2.length = zs.length := by rw [hzs2, List.length_set, hl1]
                  have hok2 : MixOk rs (zs2.map Prod.fst) := by
                    have h := hok.out.swap hk hjl
                    rw [← HZK.out, ← HZJ.out, ← hzs1, ← hzs2] at h
                    exact h
                  have hM2 : Mod (fun _ => False) wb v2 := (hM.out.step HP1.out.2 (fun b hb e => by have := hgm.out; omega)).step hp2.2 (fun b hb e => by have := hgm.out; omega)
                  have HMX2 := Lib.hid hp2.1; have HOK2 := Lib.hid hok2; have HMU2 := Lib.hid hM2
                  have hk2 : k < zs2.length := by omega
                  have hj2 : j < zs2.length := by omega
                  have h92 : zs2.length < 900 := by omega
                  have HMLE : Hid (wb.heap.size ≤ M) := Lib.hid (by rw [HMM.out]; exact HML.out)
                  clear hzs1 hzs2 hok2 hM2 hp2 HP1 hz1 hj1 hl1 HGK HGJ HZK HZJ hmx hM hok hl2 ej
                  have cM2 := HMX2.out.cellM
                  have hxk := HMX2.out.get hk2; have hxj := HMX2.out.get hj2
                  have hGk := HMX2.out.getG hk2; have hGj := HMX2.out.getG hj2
                  have hslk := HMX2.out.sl hk2; have hslj := HMX2.out.sl hj2
                  have hmk := HOK2.out.mem hk2; have hmj := HOK2.out.mem hj2
                  obtain ⟨zk, hzk⟩ : ∃ z, z = zs2[k] := ⟨_, rfl⟩
                  obtain ⟨zj, hzj⟩ : ∃ z, z = zs2[j] := ⟨_, rfl⟩
                  have hmr := fun s b => HOK2.out.more hk2 h92 s b
                  have hst := fun h8 s b => HOK2.out.setR hj2 h8 s b
                  rw [← hzk] at hxk hGk hslk hmk hmr
                  rw [← hzj] at hxj hGj hslj hmj hst
                  rcases tmod3 i with em | em | em
                  · clear hxj hGj hslj hmj hst hzj zj
                    obtain ⟨rx, sk, bk⟩ := zk
                    obtain ⟨⟨ka, kn, kc, ek1⟩, la, ln, lc, ek2⟩ := hslk
                    simp only at ek1 ek2
                    subst ek1 ek2
                    simp only at hxk hGk hmk hmr
                    obtain ⟨x0, x1, x2⟩ := hxk
                    have hsm := small_may hmk
                    have HOWN := Lib.hid (own_any rx (.slice ka kn kc) (.slice la ln lc) v2 hGk.1.at hGk.2.at hsm.1.2.1 hsm.2.1 (fun l hl => (hsm.2.2 l hl).1.2.1))
                    have HMR := Lib.hid hmr
                    unfold rmV at HOWN
                    clear hzk hGk hmk hmr hsm
                    go_wp2_with fail
                    refine HOWN.out.mono ?_
                    rintro e v3 ⟨gh, ch, gb, cb, xs3, rfl, hOR, hM3⟩
                    have hm4 : Mod (fun _ => False) v3 (v3.alloc (.cells #[.string rx.head.pred, .slice (some ⟨gh, 0, none⟩) rx.head.terms.length ch, .slice (some ⟨gb, 0, none⟩) rx.body.length cb] 38)) := (Mod.refl _ v3).alloc _
                    have hbB := heap_alloc_new v3 (.cells #[.string rx.head.pred, .slice (some ⟨gh, 0, none⟩) rx.head.terms.length ch, .slice (some ⟨gb, 0, none⟩) rx.body.length cb] 38)
                    have hrg : RmG v3 (fun b => b ≠ M ∧ b ≠ gm) (.slice (some ⟨gh, 0, none⟩) rx.head.terms.length ch) (.slice (some ⟨gb, 0, none⟩) rx.body.length cb) rx := RmG.ofOwn hOR (fun b hb => by
                      have h1 := HMX2.out.ltM
                      have h2 := HMX2.out.ltG
                      omega)
                    have HMX4 := Lib.hid (HMX2.out.mod0 (hM3.trans hm4))
                    have HRG0 := Lib.hid (hrg.step hm4 (fun _ _ _ => id) (fun _ _ => id))
                    have HMU := Lib.hid (HMU2.out.trans (hM3.trans hm4))
                    have HBB := Lib.hid hbB
                    clear hm4 hbB hrg hOR hM3 cM2 x0 x1 x2 HOWN
                    obtain ⟨B, hB⟩ : ∃ B, B = v3.heap.size := ⟨_, rfl⟩
                    have HBE := Lib.hid hB
                    have HBC := Lib.hid (And.intro (cell_at (j := 0) HBB.out rfl) (And.intro (cell_at (j := 1) HBB.out rfl) (cell_at (j := 2) HBB.out rfl)))
                    rw [← hB] at HBC
                    clear hB
                    go_wp2_with fail
                    obtain ⟨u, hu⟩ : ∃ u, u = v3.alloc (.cells #[.string rx.head.pred, .slice (some ⟨gh, 0, none⟩) rx.head.terms.length ch, .slice (some ⟨gb, 0, none⟩) rx.body.length cb] 38) := ⟨_, rfl⟩
                    rw [← hu] at HMX4 HRG0 HMU HBC ⊢
                    clear hu
                    try rw [← HBE.out]
                    have HRG : Hid (RmG u (fun b => b ≠ M ∧ b ≠ gm) ((rx, .slice (some ⟨gh, 0, none⟩) rx.head.terms.length ch, .slice (some ⟨gb, 0, none⟩) rx.body.length cb) : Rv).2.1 ((rx, .slice (some ⟨gh, 0, none⟩) rx.head.terms.length ch, .slice (some ⟨gb, 0, none⟩) rx.body.length cb) : Rv).2.2 ((rx, .slice (some ⟨gh, 0, none⟩) rx.head.terms.length ch, .slice (some ⟨gb, 0, none⟩) rx.body.length cb) : Rv).1) := HRG0
                    have HMORE := Lib.hid (HMR.out (.slice (some ⟨gh, 0, none⟩) rx.head.terms.length ch) (.slice (some ⟨gb, 0, none⟩) rx.body.length cb))
                    have HSRC : Hid (∀ W, Mod (fun _ => False) u W → Src Tryd.prog 3 22 (.slice (some ⟨gm, 0, none⟩) zs2.length mc) zs2.length (rmsC zs2) W) := Lib.hid (fun W m => (HMX4.out.mod0 m).src)
                    have HPC : Hid (∀ W, Mod (fun _ => False) u W → (W.cell? ⟨M, 0, none⟩ = some (.slice (some ⟨gm, 0, none⟩) zs2.length mc) ∧ W.cell? ⟨B, 0, none⟩ = some (.string rx.head.pred) ∧ W.cell? ⟨B, 1, none⟩ = some (.slice (some ⟨gh, 0, none⟩) rx.head.terms.length ch) ∧ W.cell? ⟨B, 2, none⟩ = some (.slice (some ⟨gb, 0, none⟩) rx.body.length cb))) := Lib.hid (fun W m => ⟨(HMX4.out.mod0 m).cellM, m.cell HBC.out.1 id, m.cell HBC.out.2.1 id, m.cell HBC.out.2.2 id⟩)
                    clear HRG0 HMR HMX2 HMU2 HOK2 HBB HBC
                    -- BEGIN36
                    refine wp_region_ordF (fun W => W.cell? ⟨M, 0, none⟩ = some (.slice (some ⟨gm, 0, none⟩) zs2.length mc) ∧ W.cell? ⟨B, 0, none⟩ = some (.string rx.head.pred) ∧ W.cell? ⟨B, 1, none⟩ = some (.slice (some ⟨gh, 0, none⟩) rx.head.terms.length ch) ∧ W.cell? ⟨B, 2, none⟩ = some (.slice (some ⟨gb, 0, none⟩) rx.body.length cb)) (2, 5) [((0, 1), 0), ((1, 2), 0), ((1, 4), 0), ((2, 0), 1), ((2, 3), 1), ((3, 6), 2), ((0, 7), 2), ((3, 8), 2)] (by kernel_rfl) (by kernel_rfl) ?_
                    have HC0 := Lib.hid ((Mod.refl (fun _ => False) u).drew)
                    generalize u.drew = x0 at *
                    go_wp2_with (first
                      | (refine ordF_pure rfl rfl rfl (fun K hK => ?_); go_big_quiet_op; refine hK _ ?_; clear hK K)
                                                                | (refine ordF_skip rfl rfl ?_; simp only [Act.put, List.setIfInBounds_toArray, List.set_cons_zero, List.set_cons_succ])
                                                                | (refine ordF_held rfl rfl rfl (HPC.out _ HC0.out) (fun K hK => ?_); apply Exists.intro; refine ⟨fun w' hs => ?_, hK _ ?_⟩; (revert hs; dsimp only; (try simp only [and_imp]); intros; go_simp; rfl); clear hK K)
                                                                | (refine ordF_keep rfl rfl (HPC.out _ HC0.out) (fun K hK => ?_))
                                                                | (refine ordF_drop rfl rfl (fun K hK => ?_))
                                                                | (refine ordF_nil ?_))
                    refine ordF_either ?_ ?_
                    · as_aux_lemma =>
                      dsimp only [List.map]
                      go_wp2_with (first
                        | (refine ord_pure rfl rfl rfl (fun K hK => ?_); go_big_quiet_op; refine hK _ ?_; clear hK K)
                                                                | (refine ord_skip rfl rfl ?_; simp only [Act.put, List.setIfInBounds_toArray, List.set_cons_zero, List.set_cons_succ])
                                                                | (refine ord_held rfl rfl rfl (HPC.out _ HC0.out) (fun K hK => ?_); apply Exists.intro; refine ⟨fun w' hs => ?_, hK _ ?_⟩; (revert hs; dsimp only; (try simp only [and_imp]); intros; go_simp; rfl); clear hK K)
                                                                | (refine ord_keep rfl rfl (HPC.out _ HC0.out) (fun K hK => ?_))
                                                                | (refine ord_drop rfl rfl (fun K hK => ?_))
                                                                | (refine ord_nil ?_))
                      obtain ⟨x1, hx⟩ : ∃ v, v = x0.alloc (.cells #[.string rx.head.pred, .slice (some ⟨gh, 0, none⟩) rx.head.terms.length ch, .slice (some ⟨gb, 0, none⟩) rx.body.length cb] 38) := ⟨_, rfl⟩
                      have HC1 : Hid (Mod (fun _ => False) u x1) := Lib.hid (by rw [hx]; exact HC0.out.alloc _)
                      have HB1 : Hid (x1.heap[x0.heap.size]? = some (.cells #[.string rx.head.pred, .slice (some ⟨gh, 0, none⟩) rx.head.terms.length ch, .slice (some ⟨gb, 0, none⟩) rx.body.length cb] 38 (0, 0))) := Lib.hid (by rw [hx]; exact heap_alloc_new x0 _)
                      rw [← hx]
                      clear hx
                      refine hK _ _ (HPC.out _ HC1.out) ?_; clear hK K; (try simp only [Act.put, List.setIfInBounds_toArray, List.set_cons_zero, List.set_cons_succ])
                      go_wp2_with (first
                        | (refine ord_pure rfl rfl rfl (fun K hK => ?_); go_big_quiet_op; refine hK _ ?_; clear hK K)
                                                                | (refine ord_skip rfl rfl ?_; simp only [Act.put, List.setIfInBounds_toArray, List.set_cons_zero, List.set_cons_succ])
                                                                | (refine ord_held rfl rfl rfl (HPC.out _ HC1.out) (fun K hK => ?_); apply Exists.intro; refine ⟨fun w' hs => ?_, hK _ ?_⟩; (revert hs; dsimp only; (try simp only [and_imp]); intros; go_simp; rfl); clear hK K)
                                                                | (refine ord_keep rfl rfl (HPC.out _ HC1.out) (fun K hK => ?_))
                                                                | (refine ord_drop rfl rfl (fun K hK => ?_))
                                                                | (refine ord_nil ?_))
                      obtain ⟨x2, hx⟩ : ∃ v, v = x1.alloc (.cells #[] 38) := ⟨_, rfl⟩
                      have HC2 : Hid (Mod (fun _ => False) u x2) := Lib.hid (by rw [hx]; exact HC1.out.alloc _)
                      have HO2 : Hid (Mine.Own x2 38 3 (some ⟨x1.heap.size, 0, none⟩) 0 0 []) := Lib.hid (by rw [hx]; have := Mine.Own.made x1 38 3 #[] 0 0 (by omega) (by unfold maxLen; omega) rfl; simpa using this)
                      have HF2 : Hid (∀ b, Mine.blk (some (⟨x1.heap.size, 0, none⟩ : Addr)) = some b → u.heap.size ≤ b) := Lib.hid (fun b hb => by simp at hb; have := HC1.out.size; omega)
                      have HB2 : Hid (x2.heap[x0.heap.size]? = some (.cells #[.string rx.head.pred, .slice (some ⟨gh, 0, none⟩) rx.head.terms.length ch, .slice (some ⟨gb, 0, none⟩) rx.body.length cb] 38 (0, 0))) := Lib.hid (by rw [hx]; exact ((Mod.refl (fun _ => False) x1).alloc _).at HB1.out id)
                      rw [← hx]
                      clear hx
                      refine hK _ _ (HPC.out _ HC2.out) ?_; clear hK K; (try simp only [Act.put, List.setIfInBounds_toArray, List.set_cons_zero, List.set_cons_succ])
                      have HNE : Hid (¬ (x1.heap.size = x0.heap.size)) := Lib.hid (by have := (Array.getElem?_eq_some_iff.1 HB1.out).1; omega)
                      go_wp2_with (first
                        | (refine ord_keep rfl rfl (HPC.out _ HC2.out) (fun K hK => ?_); refine wpO_append (.tmp 180) (.tmp 182) 22 22 rfl tiR rfl HO2.out rfl (HSRC.out _ HC2.out) (by omega) (by unfold maxLen; omega) ?_; intro a3 c3 x3 hO hG _
                           simp only [Nat.zero_add, List.nil_append] at hO ⊢
                           have HO3 := Lib.hid hO
                           have HC3 : Hid (Mod (fun _ => False) u x3) := Lib.hid (HC2.out.step hG.mod (fun i hi hs => by have := HF2.out i hs; omega))
                           have HF3 : Hid (∀ b, Mine.blk a3 = some b → u.heap.size ≤ b) := Lib.hid (fun b hb => by
                             rcases hG.pos with e | ⟨g, e, hg⟩
                             · exact HF2.out b (by rw [← e]; exact hb)
                             · rw [e] at hb; cases hb; exact Nat.le_trans HC2.out.size hg)
                           have HB3 : Hid (x3.heap[x0.heap.size]? = some (.cells #[.string rx.head.pred, .slice (some ⟨gh, 0, none⟩) rx.head.terms.length ch, .slice (some ⟨gb, 0, none⟩) rx.body.length cb] 38 (0, 0))) := Lib.hid (hG.mod.at HB2.out (fun e => HNE.out (by simpa using e)))
                           clear hO hG
                           refine hK _ _ (HPC.out _ HC3.out) ?_; clear hK K; (try simp only [Act.put, List.setIfInBounds_toArray, List.set_cons_zero, List.set_cons_succ])))
                      go_wp2_with (first
                        | (refine ord_drop rfl rfl (fun K hK => ?_); refine wpO_append (.tmp 183) (.tmp 185) 22 22 rfl tiR rfl HO3.out rfl (src_one HB3.out) (by omega) (by unfold maxLen; omega) ?_; intro a4 c4 x4 hO hG _
                           have HO4 := Lib.hid hO
                           have HC4 : Hid (Mod (fun _ => False) u x4) := Lib.hid (HC3.out.step hG.mod (fun i hi hs => by have := HF3.out i hs; omega))
                           have HF4 : Hid (∀ b, Mine.blk a4 = some b → u.heap.size ≤ b) := Lib.hid (fun b hb => by
                             rcases hG.pos with e | ⟨g, e, hg⟩
                             · exact HF3.out b (by rw [← e]; exact hb)
                             · rw [e] at hb; cases hb; exact Nat.le_trans HC3.out.size hg)
                           clear hO hG
                           refine hK _ _ ?_; clear hK K; (try simp only [Act.put, List.setIfInBounds_toArray, List.set_cons_zero, List.set_cons_succ])))
                      have q0 := (HPC.out _ HC4.out).1
                      have fz := (HMX4.out.mod0 HC4.out).frozenM
                      go_wp2_with (first
                        | (refine ord_pure rfl rfl rfl (fun K hK => ?_); go_big_quiet_op; refine hK _ ?_; clear hK K)
                                                                | (refine ord_skip rfl rfl ?_; simp only [Act.put, List.setIfInBounds_toArray, List.set_cons_zero, List.set_cons_succ])
                                                                | (refine ord_held rfl rfl rfl (HPC.out _ HC4.out) (fun K hK => ?_); apply Exists.intro; refine ⟨fun w' hs => ?_, hK _ ?_⟩; (revert hs; dsimp only; (try simp only [and_imp]); intros; go_simp; rfl); clear hK K)
                                                                | (refine ord_keep rfl rfl (HPC.out _ HC4.out) (fun K hK => ?_))
                                                                | (refine ord_drop rfl rfl (fun K hK => ?_))
                                                                | (refine ord_nil ?_))
                      clear q0 fz
                      go_roundw
                      case rel =>
                        obtain ⟨g', _, hg', hMx', hMd'⟩ := Mix.grown (z := (rx, .slice (some ⟨gh, 0, none⟩) rx.head.terms.length ch, .slice (some ⟨gb, 0, none⟩) rx.body.length cb)) HMX4.out HC4.out HO4.out rfl HF4.out HRG.out
                        exact ⟨i + 1, g', c4, _, by go_num, by omega, Lib.hid hMx', Lib.hid (Nat.le_trans HMU.out.size hg'), HMORE, Lib.hid (HMU.out.step hMd' (fun b hb e => by have := HMLE.out; omega))⟩
                      case measure => simp [intOf]; omega
                    ·
                      go_wp2_with (first
                        | (refine ordF_pure rfl rfl rfl (fun K hK => ?_); go_big_quiet_op; refine hK _ ?_; clear hK K)
                                                                | (refine ordF_skip rfl rfl ?_; simp only [Act.put, List.setIfInBounds_toArray, List.set_cons_zero, List.set_cons_succ])
                                                                | (refine ordF_held rfl rfl rfl (HPC.out _ HC0.out) (fun K hK => ?_); apply Exists.intro; refine ⟨fun w' hs => ?_, hK _ ?_⟩; (revert hs; dsimp only; (try simp only [and_imp]); intros; go_simp; rfl); clear hK K)
                                                                | (refine ordF_keep rfl rfl (HPC.out _ HC0.out) (fun K hK => ?_))
                                                                | (refine ordF_drop rfl rfl (fun K hK => ?_))
                                                                | (refine ordF_nil ?_))
                      obtain ⟨x1, hx⟩ : ∃ v, v = x0.alloc (.cells #[] 38) := ⟨_, rfl⟩
                      have HC1 : Hid (Mod (fun _ => False) u x1) := Lib.hid (by rw [hx]; exact HC0.out.alloc _)
                      have HO1 : Hid (Mine.Own x1 38 3 (some ⟨x0.heap.size, 0, none⟩) 0 0 []) := Lib.hid (by rw [hx]; have := Mine.Own.made x0 38 3 #[] 0 0 (by omega) (by unfold maxLen; omega) rfl; simpa using this)
                      have HF1 : Hid (∀ b, Mine.blk (some (⟨x0.heap.size, 0, none⟩ : Addr)) = some b → u.heap.size ≤ b) := Lib.hid (fun b hb => by simp at hb; have := HC0.out.size; omega)
                      rw [← hx]
                      clear hx
                      refine hK _ _ (HPC.out _ HC1.out) ?_; clear hK K; (try simp only [Act.put, List.setIfInBounds_toArray, List.set_cons_zero, List.set_cons_succ])
                      go_wp2_with (first
                        | (refine ordF_pure rfl rfl rfl (fun K hK => ?_); go_big_quiet_op; refine hK _ ?_; clear hK K)
                                                                | (refine ordF_skip rfl rfl ?_; simp only [Act.put, List.setIfInBounds_toArray, List.set_cons_zero, List.set_cons_succ])
                                                                | (refine ordF_held rfl rfl rfl (HPC.out _ HC1.out) (fun K hK => ?_); apply Exists.intro; refine ⟨fun w' hs => ?_, hK _ ?_⟩; (revert hs; dsimp only; (try simp only [and_imp]); intros; go_simp; rfl); clear hK K)
                                                                | (refine ordF_keep rfl rfl (HPC.out _ HC1.out) (fun K hK => ?_))
                                                                | (refine ordF_drop rfl rfl (fun K hK => ?_))
                                                                | (refine ordF_nil ?_))
                      refine ordF_either ?_ ?_
                      · as_aux_lemma =>
                        dsimp only [List.map]
                        go_wp2_with (first
                          | (refine ord_pure rfl rfl rfl (fun K hK => ?_); go_big_quiet_op; refine hK _ ?_; clear hK K)
                                                                | (refine ord_skip rfl rfl ?_; simp only [Act.put, List.setIfInBounds_toArray, List.set_cons_zero, List.set_cons_succ])
                                                                | (refine ord_held rfl rfl rfl (HPC.out _ HC1.out) (fun K hK => ?_); apply Exists.intro; refine ⟨fun w' hs => ?_, hK _ ?_⟩; (revert hs; dsimp only; (try simp only [and_imp]); intros; go_simp; rfl); clear hK K)
                                                                | (refine ord_keep rfl rfl (HPC.out _ HC1.out) (fun K hK => ?_))
                                                                | (refine ord_drop rfl rfl (fun K hK => ?_))
                                                                | (refine ord_nil ?_))
                        obtain ⟨x2, hx⟩ : ∃ v, v = x1.alloc (.cells #[.string rx.head.pred, .slice (some ⟨gh, 0, none⟩) rx.head.terms.length ch, .slice (some ⟨gb, 0, none⟩) rx.body.length cb] 38) := ⟨_, rfl⟩
                        have HC2 : Hid (Mod (fun _ => False) u x2) := Lib.hid (by rw [hx]; exact HC1.out.alloc _)
                        have HB2 : Hid (x2.heap[x1.heap.size]? = some (.cells #[.string rx.head.pred, .slice (some ⟨gh, 0, none⟩) rx.head.terms.length ch, .slice (some ⟨gb, 0, none⟩) rx.body.length cb] 38 (0, 0))) := Lib.hid (by rw [hx]; exact heap_alloc_new x1 _)
                        have HO2 := Lib.hid (show Mine.Own x2 38 3 (some ⟨x0.heap.size, 0, none⟩) 0 0 [] from by rw [hx]; exact HO1.out.mod ((Mod.refl (fun _ => False) x1).alloc _) (fun _ _ => id))
                        rw [← hx]
                        clear hx
                        refine hK _ _ (HPC.out _ HC2.out) ?_; clear hK K; (try simp only [Act.put, List.setIfInBounds_toArray, List.set_cons_zero, List.set_cons_succ])
                        have HNE : Hid (¬ (x0.heap.size = x1.heap.size)) := Lib.hid (by have := HO1.out.lt x0.heap.size rfl; omega)
                        go_wp2_with (first
                          | (refine ord_keep rfl rfl (HPC.out _ HC2.out) (fun K hK => ?_); refine wpO_append (.tmp 180) (.tmp 182) 22 22 rfl tiR rfl HO2.out rfl (HSRC.out _ HC2.out) (by omega) (by unfold maxLen; omega) ?_; intro a3 c3 x3 hO hG _
                             simp only [Nat.zero_add, List.nil_append] at hO ⊢
                             have HO3 := Lib.hid hO
                             have HC3 : Hid (Mod (fun _ => False) u x3) := Lib.hid (HC2.out.step hG.mod (fun i hi hs => by have := HF1.out i hs; omega))
                             have HF3 : Hid (∀ b, Mine.blk a3 = some b → u.heap.size ≤ b) := Lib.hid (fun b hb => by
                               rcases hG.pos with e | ⟨g, e, hg⟩
                               · exact HF1.out b (by rw [← e]; exact hb)
                               · rw [e] at hb; cases hb; exact Nat.le_trans HC2.out.size hg)
                             have HB3 : Hid (x3.heap[x1.heap.size]? = some (.cells #[.string rx.head.pred, .slice (some ⟨gh, 0, none⟩) rx.head.terms.length ch, .slice (some ⟨gb, 0, none⟩) rx.body.length cb] 38 (0, 0))) := Lib.hid (hG.mod.at HB2.out (fun e => HNE.out (by simpa using e)))
                             clear hO hG
                             refine hK _ _ (HPC.out _ HC3.out) ?_; clear hK K; (try simp only [Act.put, List.setIfInBounds_toArray, List.set_cons_zero, List.set_cons_succ])))
                        go_wp2_with (first
                          | (refine ord_drop rfl rfl (fun K hK => ?_); refine wpO_append (.tmp 183) (.tmp 185) 22 22 rfl tiR rfl HO3.out rfl (src_one HB3.out) (by omega) (by unfold maxLen; omega) ?_; intro a4 c4 x4 hO hG _
                             have HO4 := Lib.hid hO
                             have HC4 : Hid (Mod (fun _ => False) u x4) := Lib.hid (HC3.out.step hG.mod (fun i hi hs => by have := HF3.out i hs; omega))
                             have HF4 : Hid (∀ b, Mine.blk a4 = some b → u.heap.size ≤ b) := Lib.hid (fun b hb => by
                               rcases hG.pos with e | ⟨g, e, hg⟩
                               · exact HF3.out b (by rw [← e]; exact hb)
                               · rw [e] at hb; cases hb; exact Nat.le_trans HC3.out.size hg)
                             clear hO hG
                             refine hK _ _ ?_; clear hK K; (try simp only [Act.put, List.setIfInBounds_toArray, List.set_cons_zero, List.set_cons_succ])))
                        have q0 := (HPC.out _ HC4.out).1
                        have fz := (HMX4.out.mod0 HC4.out).frozenM
                        go_wp2_with (first
                          | (refine ord_pure rfl rfl rfl (fun K hK => ?_); go_big_quiet_op; refine hK _ ?_; clear hK K)
                                                                | (refine ord_skip rfl rfl ?_; simp only [Act.put, List.setIfInBounds_toArray, List.set_cons_zero, List.set_cons_succ])
                                                                | (refine ord_held rfl rfl rfl (HPC.out _ HC4.out) (fun K hK => ?_); apply Exists.intro; refine ⟨fun w' hs => ?_, hK _ ?_⟩; (revert hs; dsimp only; (try simp only [and_imp]); intros; go_simp; rfl); clear hK K)
                                                                | (refine ord_keep rfl rfl (HPC.out _ HC4.out) (fun K hK => ?_))
                                                                | (refine ord_drop rfl rfl (fun K hK => ?_))
                                                                | (refine ord_nil ?_))
                        clear q0 fz
                        go_roundw
                        case rel =>
                          obtain ⟨g', _, hg', hMx', hMd'⟩ := Mix.grown (z := (rx, .slice (some ⟨gh, 0, none⟩) rx.head.terms.length ch, .slice (some ⟨gb, 0, none⟩) rx.body.length cb)) HMX4.out HC4.out HO4.out rfl HF4.out HRG.out
                          exact ⟨i + 1, g', c4, _, by go_num, by omega, Lib.hid hMx', Lib.hid (Nat.le_trans HMU.out.size hg'), HMORE, Lib.hid (HMU.out.step hMd' (fun b hb e => by have := HMLE.out; omega))⟩
                        case measure => simp [intOf]; omega
                      ·
                        go_wp2_with (first
                          | (refine ordF_keep rfl rfl (HPC.out _ HC1.out) (fun K hK => ?_); refine wpO_append (.tmp 180) (.tmp 182) 22 22 rfl tiR rfl HO1.out rfl (HSRC.out _ HC1.out) (by omega) (by unfold maxLen; omega) ?_; intro a2 c2 x2 hO hG _
                             simp only [Nat.zero_add, List.nil_append] at hO ⊢
                             have HO2 := Lib.hid hO
                             have HC2 : Hid (Mod (fun _ => False) u x2) := Lib.hid (HC1.out.step hG.mod (fun i hi hs => by have := HF1.out i hs; omega))
                             have HF2 : Hid (∀ b, Mine.blk a2 = some b → u.heap.size ≤ b) := Lib.hid (fun b hb => by
                               rcases hG.pos with e | ⟨g, e, hg⟩
                               · exact HF1.out b (by rw [← e]; exact hb)
                               · rw [e] at hb; cases hb; exact Nat.le_trans HC1.out.size hg)
                             clear hO hG
                             refine hK _ _ (HPC.out _ HC2.out) ?_; clear hK K; (try simp only [Act.put, List.setIfInBounds_toArray, List.set_cons_zero, List.set_cons_succ]))
                          | (refine ordF_pure rfl rfl rfl (fun K hK => ?_); go_big_quiet_op; refine hK _ ?_; clear hK K)
                                                                | (refine ordF_skip rfl rfl ?_; simp only [Act.put, List.setIfInBounds_toArray, List.set_cons_zero, List.set_cons_succ])
                                                                | (refine ordF_held rfl rfl rfl (HPC.out _ HC2.out) (fun K hK => ?_); apply Exists.intro; refine ⟨fun w' hs => ?_, hK _ ?_⟩; (revert hs; dsimp only; (try simp only [and_imp]); intros; go_simp; rfl); clear hK K)
                                                                | (refine ordF_keep rfl rfl (HPC.out _ HC2.out) (fun K hK => ?_))
                                                                | (refine ordF_drop rfl rfl (fun K hK => ?_))
                                                                | (refine ordF_nil ?_))
                        refine ordF_now ?_
                        dsimp only [List.map]
                        go_wp2_with (first
                          | (refine ord_pure rfl rfl rfl (fun K hK => ?_); go_big_quiet_op; refine hK _ ?_; clear hK K)
                                                                | (refine ord_skip rfl rfl ?_; simp only [Act.put, List.setIfInBounds_toArray, List.set_cons_zero, List.set_cons_succ])
                                                                | (refine ord_held rfl rfl rfl (HPC.out _ HC2.out) (fun K hK => ?_); apply Exists.intro; refine ⟨fun w' hs => ?_, hK _ ?_⟩; (revert hs; dsimp only; (try simp only [and_imp]); intros; go_simp; rfl); clear hK K)
                                                                | (refine ord_keep rfl rfl (HPC.out _ HC2.out) (fun K hK => ?_))
                                                                | (refine ord_drop rfl rfl (fun K hK => ?_))
                                                                | (refine ord_nil ?_))
                        obtain ⟨x3, hx⟩ : ∃ v, v = x2.alloc (.cells #[.string rx.head.pred, .slice (some ⟨gh, 0, none⟩) rx.head.terms.length ch, .slice (some ⟨gb, 0, none⟩) rx.body.length cb] 38) := ⟨_, rfl⟩
                        have HC3 : Hid (Mod (fun _ => False) u x3) := Lib.hid (by rw [hx]; exact HC2.out.alloc _)
                        have HB3 : Hid (x3.heap[x2.heap.size]? = some (.cells #[.string rx.head.pred, .slice (some ⟨gh, 0, none⟩) rx.head.terms.length ch, .slice (some ⟨gb, 0, none⟩) rx.body.length cb] 38 (0, 0))) := Lib.hid (by rw [hx]; exact heap_alloc_new x2 _)
                        have HO3 := Lib.hid (show Mine.Own x3 38 3 a2 zs2.length c2 (rmsC zs2) from by rw [hx]; exact HO2.out.mod ((Mod.refl (fun _ => False) x2).alloc _) (fun _ _ => id))
                        rw [← hx]
                        clear hx
                        refine hK _ _ (HPC.out _ HC3.out) ?_; clear hK K; (try simp only [Act.put, List.setIfInBounds_toArray, List.set_cons_zero, List.set_cons_succ])
                        go_wp2_with (first
                          | (refine ord_drop rfl rfl (fun K hK => ?_); refine wpO_append (.tmp 183) (.tmp 185) 22 22 rfl tiR rfl HO3.out rfl (src_one HB3.out) (by omega) (by unfold maxLen; omega) ?_; intro a4 c4 x4 hO hG _
                             have HO4 := Lib.hid hO
                             have HC4 : Hid (Mod (fun _ => False) u x4) := Lib.hid (HC3.out.step hG.mod (fun i hi hs => by have := HF2.out i hs; omega))
                             have HF4 : Hid (∀ b, Mine.blk a4 = some b → u.heap.size ≤ b) := Lib.hid (fun b hb => by
                               rcases hG.pos with e | ⟨g, e, hg⟩
                               · exact HF2.out b (by rw [← e]; exact hb)
                               · rw [e] at hb; cases hb; exact Nat.le_trans HC3.out.size hg)
                             clear hO hG
                             refine hK _ _ ?_; clear hK K; (try simp only [Act.put, List.setIfInBounds_toArray, List.set_cons_zero, List.set_cons_succ])))
                        have q0 := (HPC.out _ HC4.out).1
                        have fz := (HMX4.out.mod0 HC4.out).frozenM
                        go_wp2_with (first
                          | (refine ord_pure rfl rfl rfl (fun K hK => ?_); go_big_quiet_op; refine hK _ ?_; clear hK K)
                                                                | (refine ord_skip rfl rfl ?_; simp only [Act.put, List.setIfInBounds_toArray, List.set_cons_zero, List.set_cons_succ])
                                                                | (refine ord_held rfl rfl rfl (HPC.out _ HC4.out) (fun K hK => ?_); apply Exists.intro; refine ⟨fun w' hs => ?_, hK _ ?_⟩; (revert hs; dsimp only; (try simp only [and_imp]); intros; go_simp; rfl); clear hK K)
                                                                | (refine ord_keep rfl rfl (HPC.out _ HC4.out) (fun K hK => ?_))
                                                                | (refine ord_drop rfl rfl (fun K hK => ?_))
                                                                | (refine ord_nil ?_))
                        clear q0 fz
                        go_roundw
                        case rel =>
                          obtain ⟨g', _, hg', hMx', hMd'⟩ := Mix.grown (z := (rx, .slice (some ⟨gh, 0, none⟩) rx.head.terms.length ch, .slice (some ⟨gb, 0, none⟩) rx.body.length cb)) HMX4.out HC4.out HO4.out rfl HF4.out HRG.out
                          exact ⟨i + 1, g', c4, _, by go_num, by omega, Lib.hid hMx', Lib.hid (Nat.le_trans HMU.out.size hg'), HMORE, Lib.hid (HMU.out.step hMd' (fun b hb e => by have := HMLE.out; omega))⟩
                        case measure => simp [intOf]; omega
                    -- END36
                  · clear hxk hGk hslk hmk hmr hzk zk
                    obtain ⟨ry, sj, bj⟩ := zj
                    obtain ⟨⟨ka, kn, kc, ek1⟩, la, ln, lc, ek2⟩ := hslj
                    simp only at ek1 ek2
                    subst ek1 ek2
                    simp only at hxj hGj hmj hst
                    obtain ⟨x0, x1, x2⟩ := hxj
                    have HREN := Lib.hid (renamed_goF ry (.slice ka kn kc) (.slice la ln lc) v2 hGj.1.at hGj.2.at (small_may hmj))
                    have HSMR := Lib.hid (small_rn hmj)
                    have HST := Lib.hid hst
                    obtain ⟨R, hR⟩ : ∃ R, R = rnRm nameB ry := ⟨_, rfl⟩
                    rw [← hR] at HREN HSMR HST
                    unfold rmV at HREN
                    clear hR hzj hGj hmj hst
                    go_wp2_with fail
                    refine HREN.out.mono ?_
                    rintro e v3 ⟨s', b', rfl, hT, hL, hM3⟩
                    obtain ⟨za, zc, rfl, _⟩ := id hT
                    obtain ⟨zb, zd, _, rfl, _⟩ := id hL
                    have hm4 : Mod (fun _ => False) v3 (v3.alloc (.cells #[.string R.head.pred, .slice za R.head.terms.length zc, .slice zb R.body.length zd] 38)) := (Mod.refl _ v3).alloc _
                    have HBB := Lib.hid (heap_alloc_new v3 (.cells #[.string R.head.pred, .slice za R.head.terms.length zc, .slice zb R.body.length zd] 38))
                    have h1 := HMX2.out.ltM
                    have h2 := HMX2.out.ltG
                    have hrg : RmG v3 (fun b => b ≠ M ∧ b ≠ gm) (.slice za R.head.terms.length zc) (.slice zb R.body.length zd) R := RmG.step (G := fun b => v2.heap.size ≤ b) ⟨hT, hL⟩ (Mod.refl (fun _ => False) v3) (fun _ _ _ => id) (fun b _ g => by
                      have g' : v2.heap.size ≤ b := g
                      omega)
                    have HMX4 := Lib.hid (HMX2.out.mod0 (hM3.trans hm4))
                    have HRG4 := Lib.hid (hrg.step hm4 (fun _ _ _ => id) (fun _ _ => id))
                    have HMU := Lib.hid (HMU2.out.trans (hM3.trans hm4))
                    have HRU := Lib.hid (fun W (m : Mod (fun _ => False) v3 W) => Rule_any R _ _ W HSMR.out (hT.at.mod0 m) (hL.at.mod0 m))
                    have HM4 := Lib.hid hm4
                    unfold rmV at HRU
                    clear hm4 hrg hM3 hT hL h1 h2 cM2 x0 x1 x2 HREN HSMR
                    obtain ⟨oe, hoe⟩ : ∃ o, o = outP (mayRm R) (rmT R) := ⟨_, rfl⟩
                    have HOE := Lib.hid hoe
                    rw [← hoe] at HRU
                    clear hoe
                    obtain ⟨B, hB⟩ : ∃ B, B = v3.heap.size := ⟨_, rfl⟩
                    have HBE := Lib.hid hB
                    have HBC := Lib.hid (And.intro (cell_at (j := 0) HBB.out rfl) (And.intro (cell_at (j := 1) HBB.out rfl) (cell_at (j := 2) HBB.out rfl)))
                    rw [← hB] at HBC
                    clear hB
                    go_wp2_with fail
                    obtain ⟨u, hu⟩ : ∃ u, u = v3.alloc (.cells #[.string R.head.pred, .slice za R.head.terms.length zc, .slice zb R.body.length zd] 38) := ⟨_, rfl⟩
                    rw [← hu] at HMX4 HRG4 HMU HBC HM4 ⊢
                    clear hu
                    try rw [← HBE.out]
                    refine (HRU.out _ HM4.out).mono ?_
                    rintro e v5 ⟨rfl, hM5⟩
                    have HMX5 := Lib.hid (HMX4.out.mod0 hM5)
                    have HRG5 := Lib.hid (HRG4.out.step hM5 (fun _ _ _ => id) (fun _ _ => id))
                    have HMU5 := Lib.hid (HMU.out.trans hM5)
                    have z0 := hM5.cell HBC.out.1 id; have z1 := hM5.cell HBC.out.2.1 id; have z2 := hM5.cell HBC.out.2.2 id
                    clear hM5 HMX4 HRG4 HMU HBC HBB HBE HRU HM4 HMX2 HMU2
                    by_cases h0e : oe.2 = 0
                    · have hmR := outP_may (by rw [← HOE.out]; exact h0e)
                      have hok3 := HST.out hmR (.slice za R.head.terms.length zc) (.slice zb R.body.length zd)
                      have hp3 := HMX5.out.put hj2 (z := (R, .slice za R.head.terms.length zc, .slice zb R.body.length zd)) HRG5.out
                      have cM5 := HMX5.out.cellM
                      have hy := HMX5.out.get hj2
                      obtain ⟨y0, y1, y2⟩ := hy
                      have f0 := HMX5.out.frozen (j * 3); have f1 := HMX5.out.frozen (j * 3 + 1); have f2 := HMX5.out.frozen (j * 3 + 2)
                      have HOK3 := Lib.hid hok3; have HP3 := Lib.hid hp3
                      clear hok3 hp3 hmR HST HOK2
                      go_wp2_with (first
                        | (go_at_call 10; refine (num9_any _ _).mono ?_; rintro e w' ⟨rfl, rfl⟩))
                      go_roundw
                      case rel => exact ⟨i + 1, gm, mc, _, by go_num, HLT.out, Lib.hid HP3.out.1, hgm, HOK3, Lib.hid (HMU5.out.step HP3.out.2 (fun b hb e => by have := hgm.out; omega))⟩
                      case measure => have := HLT.out; simp [intOf]; omega
                    · clear HST
                      go_wp2_with (first
                        | (go_at_call 10; refine (num9_any _ _).mono ?_; rintro e w' ⟨rfl, rfl⟩))
                      go_roundw
                      case rel => exact ⟨i + 1, gm, mc, zs2, by go_num, HLT.out, HMX5, hgm, HOK2, HMU5⟩
                      case measure => have := HLT.out; simp [intOf]; omega
                  · clear hxj hGj hslj hmj hst hzj zj hxk hGk hslk hmk hmr hzk zk
                    go_wp2_with fail
                    go_roundw
                    case rel => exact ⟨i + 1, gm, mc, zs2, by go_num, HLT.out, HMX2, hgm, HOK2, HMU2⟩
                    case measure => have := HLT.out; simp [intOf]; omega
              · have hMV := HM0.out.trans (HM8.out.trans hM.out)
                have hat := hmx.out.at
                rw [List.length_map] at hat
                have hsmz : SmallPm (zs.map Prod.fst) := ⟨by have := hok.out.len; omega, fun r hr => small_may (hok.out.may r hr)⟩
                have HTZ := Lib.hid (HTO.out.same hok.out.len hok.out.may hok.out.same)
                have HAT := Lib.hid hat; have HSMZ := Lib.hid hsmz; have HMV := Lib.hid hMV
                have HM4V := Lib.hid (HM48.out.trans hM.out)
                have HTD := Lib.hid (Tidy_any (zs.map Prod.fst) _ v0 HSMZ.out HAT.out (HPW.out.mod0 HMV.out))
                clear hMV hat hsmz hM hok hmx HTN
                by_cases hlt : i < tn.length
                · by_cases h0 : 0 < zs.length
                  · have h9 : ¬ zs.length < 900 := fun h => hgo ⟨⟨hlt, h0⟩, h⟩
                    have e0 : (0 : Int) < (zs.length : Int) := by omega
                    have e9 : ¬ (zs.length : Int) < 900 := by omega
                    clear hgo
                    go_wp2_with fail
                    refine HTD.out.mono ?_
                    rintro e v1 ⟨tv, rfl, hT, hM1⟩
                    have hT2 := hT.at
                    obtain ⟨h3, hc3, _, rfl, _⟩ := hT
                    rw [HTZ.out.law] at hT2 ⊢
                    simp only [tidR, tidE] at hT2 ⊢
                    rw [← HQS.out] at hT2 ⊢
                    have hm7 : Mod (fun _ => False) v1 (v1.alloc (.cells #[.slice h3 qs.length hc3] 24)) := (Mod.refl _ v1).alloc _
                    have HB7 := Lib.hid (heap_alloc_new v1 (.cells #[.slice h3 qs.length hc3] 24))
                    have HU7 := Lib.hid (hT2.mod0 hm7)
                    have HM7 := Lib.hid (hM1.trans hm7)
                    have cT := cell_at (j := 0) ((HM4V.out.trans HM7.out).at HB4.out id) rfl
                    have cU := cell_at (j := 0) HB7.out rfl
                    clear hm7 hT2 hM1 cM HTD
                    go_wp2_with (first
                      | (go_at_call 10; refine (num9_any _ _).mono ?_; rintro e w' ⟨rfl, rfl⟩))
                    generalize (v1.alloc (.cells #[.slice h3 qs.length hc3] 24)) = v7 at *
                    refine (same9_true qs _ _ v7 HU7.out (HT4.out.mod0 (HM4V.out.trans HM7.out)) HTA.out.small).mono ?_
                    rintro e v8 ⟨rfl, hM8⟩
                    have HM9 := Lib.hid (HMV.out.trans (HM7.out.trans hM8))
                    clear hM8 cT cU
                    go_wp2_with fail
                    go_ret
                    exact ⟨rfl, HM9.out⟩
                  · have e0 : ¬ (0 : Int) < (zs.length : Int) := by omega
                    clear hgo
                    go_wp2_with fail
                    refine HTD.out.mono ?_
                    rintro e v1 ⟨tv, rfl, hT, hM1⟩
                    have hT2 := hT.at
                    obtain ⟨h3, hc3, _, rfl, _⟩ := hT
                    rw [HTZ.out.law] at hT2 ⊢
                    simp only [tidR, tidE] at hT2 ⊢
                    rw [← HQS.out] at hT2 ⊢
                    have hm7 : Mod (fun _ => False) v1 (v1.alloc (.cells #[.slice h3 qs.length hc3] 24)) := (Mod.refl _ v1).alloc _
                    have HB7 := Lib.hid (heap_alloc_new v1 (.cells #[.slice h3 qs.length hc3] 24))
                    have HU7 := Lib.hid (hT2.mod0 hm7)
                    have HM7 := Lib.hid (hM1.trans hm7)
                    have cT := cell_at (j := 0) ((HM4V.out.trans HM7.out).at HB4.out id) rfl
                    have cU := cell_at (j := 0) HB7.out rfl
                    clear hm7 hT2 hM1 cM HTD
                    go_wp2_with (first
                      | (go_at_call 10; refine (num9_any _ _).mono ?_; rintro e w' ⟨rfl, rfl⟩))
                    generalize (v1.alloc (.cells #[.slice h3 qs.length hc3] 24)) = v7 at *
                    refine (same9_true qs _ _ v7 HU7.out (HT4.out.mod0 (HM4V.out.trans HM7.out)) HTA.out.small).mono ?_
                    rintro e v8 ⟨rfl, hM8⟩
                    have HM9 := Lib.hid (HMV.out.trans (HM7.out.trans hM8))
                    clear hM8 cT cU
                    go_wp2_with fail
                    go_ret
                    exact ⟨rfl, HM9.out⟩
                · clear hgo
                  go_wp2_with fail
                  refine HTD.out.mono ?_
                  rintro e v1 ⟨tv, rfl, hT, hM1⟩
                  have hT2 := hT.at
                  obtain ⟨h3, hc3, _, rfl, _⟩ := hT
                  rw [HTZ.out.law] at hT2 ⊢
                  simp only [tidR, tidE] at hT2 ⊢
                  rw [← HQS.out] at hT2 ⊢
                  have hm7 : Mod (fun _ => False) v1 (v1.alloc (.cells #[.slice h3 qs.length hc3] 24)) := (Mod.refl _ v1).alloc _
                  have HB7 := Lib.hid (heap_alloc_new v1 (.cells #[.slice h3 qs.length hc3] 24))
                  have HU7 := Lib.hid (hT2.mod0 hm7)
                  have HM7 := Lib.hid (hM1.trans hm7)
                  have cT := cell_at (j := 0) ((HM4V.out.trans HM7.out).at HB4.out id) rfl
                  have cU := cell_at (j := 0) HB7.out rfl
                  clear hm7 hT2 hM1 cM HTD
                  go_wp2_with (first
                    | (go_at_call 10; refine (num9_any _ _).mono ?_; rintro e w' ⟨rfl, rfl⟩))
                  generalize (v1.alloc (.cells #[.slice h3 qs.length hc3] 24)) = v7 at *
                  refine (same9_true qs _ _ v7 HU7.out (HT4.out.mod0 (HM4V.out.trans HM7.out)) HTA.out.small).mono ?_
                  rintro e v8 ⟨rfl, hM8⟩
                  have HM9 := Lib.hid (HMV.out.trans (HM7.out.trans hM8))
                  clear hM8 cT cU
                  go_wp2_with fail
                  go_ret
                  exact ⟨rfl, HM9.out⟩
end Go.Proofs.YtphgglnkdfndiaaDoor
