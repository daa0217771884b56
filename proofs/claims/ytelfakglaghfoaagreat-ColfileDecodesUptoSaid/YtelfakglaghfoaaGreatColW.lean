/-
  The program's readings of a column, plain: walked.
-/
import Derived.Test.YtelfakglaghfoaaGreatColV
import Derived.Test.YtelfakglaghfoaaGreatColF
import Derived.Test.YtelfakglaghfoaaGreatReader2
namespace Go.Proofs.YtelfakglaghfoaaGreat
open Go Go.RowKit Go.Mine
set_option linter.unusedVariables false
set_option maxHeartbeats 4000000
set_option maxRecDepth 100000

theorem rleft_any (p : Nat) (a : Option Addr) (n c x : Nat) (f : Value) (t : TypeId) (w : World) (h : w.heap[p]? = some (.cells #[.slice a n c, .int .i64 x, f, .bool true] t (0, 0))) (hx : x ≤ n) (hn : n < 2 ^ 40) :
    Calls Tryz.prog 67 #[.pointer (some ⟨p, 0, none⟩)] w fun e w' => e = .returned (.int .i64 (n - x : Nat)) ∧ Mod (fun _ => False) w w' := by
  have hc0 : w.cell? ⟨p, 0, none⟩ = some (.slice a n c) := cell_at h rfl
  have hc1 : w.cell? ⟨p, 1, none⟩ = some (.int .i64 x) := cell_at h rfl
  have H := Lib.hid h; clear h
  have hsub : (n : Int) - (x : Int) = ((n - x : Nat) : Int) := by omega
  go_enter Tryz.func67, Tryz.ntmps67
  go_wp2_with (go_at_call 59; refine (rnone_any p _ _ _ _ _ H.out).mono ?_; rintro e w' ⟨rfl, rfl⟩)
  refine wp_region_ord (fun w' => w'.cell? ⟨p, 0, none⟩ = some (.slice a n c) ∧ w'.cell? ⟨p, 1, none⟩ = some (.int .i64 x)) [(0, 0), (0, 1), (0, 2), (1, 3), (0, 4), (0, 5), (0, 6), (0, 7), (1, 8), (0, 9), (0, 10)] (by kernel_rfl) (by kernel_rfl) ?_
  go_wp2_with (first
    | (refine ord_pure rfl rfl rfl (fun K hK => ?_); go_big_quiet_op; refine hK _ ?_; clear hK K)
                                                                | (refine ord_skip rfl rfl ?_; simp only [Act.put, List.setIfInBounds_toArray, List.set_cons_zero, List.set_cons_succ])
                                                                | (refine ord_held rfl rfl rfl (by exact ⟨by simpa using hc0, by simpa using hc1⟩) (fun K hK => ?_); apply Exists.intro; refine ⟨fun w' hs => ?_, hK _ ?_⟩; (revert hs; dsimp only; (try simp only [and_imp]); intros; go_simp; rfl); clear hK K)
                                                                | (refine ord_keep rfl rfl (by exact ⟨by simpa using hc0, by simpa using hc1⟩) (fun K hK => ?_))
                                                                | (refine ord_drop rfl rfl (fun K hK => ?_))
                                                                | (refine ord_nil ?_))
  go_ret
  exact ⟨rfl, (Mod.refl _ w).drew⟩
theorem taken_any (n : Nat) (w : World) (hn : n < 2 ^ 64) :
    Calls Tryz.prog 113 #[.int .u64 n] w fun e w' => e = .returned (.tuple #[.int .u32 (n % 2 ^ 32 : Nat), .bool (decide (n < 2 ^ 32))]) ∧ w = w' := by
  have hd : decide ((n : Int) ≤ 4294967295) = decide (n < 2 ^ 32) := by
    by_cases h : n < 2 ^ 32
    · rw [decide_eq_true h]; exact decide_eq_true (by omega)
    · rw [decide_eq_false h]; exact decide_eq_false (by omega)
  have hm : (n : Int) % 4294967296 = ((n % 2 ^ 32 : Nat) : Int) := by omega
  have HD := Lib.hid hd; have HM := Lib.hid hm; clear hd hm
  go_enter Tryz.func113, Tryz.ntmps113
  go_wp2_with fail
  go_ret2
  refine ⟨?_, rfl⟩
  rw [HD.out, HM.out]
  rfl
/-- a reader at p and elements of the call's own, behind a world w1 in which the reader stood -/
structure VS (w1 w : World) (p : Nat) (ra : Option Addr) (rc : Nat) (l : List UInt8) (at_ f : Nat) (oa : Option Addr) (oc : Nat) (us : List Value) : Prop where
  rd : RdAt w p ra rc l at_ f
  own : Mine.Own w 45 1 oa us.length oc us
  fr : ∀ b, blk oa = some b → w1.heap.size ≤ b
  md : Mod (fun b => b = p) w1 w
  pl : p < w1.heap.size
  al : l ≠ [] → ∀ b, blk ra = some b → b < w1.heap.size
theorem VS.start {w1 : World} {p : Nat} {ra : Option Addr} {rc : Nat} {l : List UInt8} (h : RdAt w1 p ra rc l 0 0) : VS w1 w1 p ra rc l 0 0 none 0 [] :=
  ⟨h, Mine.Own.nil _ _ _, (fun b hb => by cases hb), Mod.refl _ _, (Array.getElem?_eq_some_iff.1 h.heap).1, fun hl => h.rd.lt (by simpa [bts] using hl)⟩
theorem VS.num {w1 w w' : World} {p : Nat} {ra : Option Addr} {rc : Nat} {l : List UInt8} {at_ f at' f' : Nat} {oa : Option Addr} {oc : Nat} {us : List Value} (h : VS w1 w p ra rc l at_ f oa oc us) (hr : RdAt w' p ra rc l at' f') (m : Mod (fun b => b = p) w w') : VS w1 w' p ra rc l at' f' oa oc us :=
  ⟨hr, h.own.mod m (fun b hb e => by have := h.fr b hb; have := h.pl; omega), h.fr, h.md.trans m, h.pl, h.al⟩
theorem VS.mod0 {w1 w w' : World} {p : Nat} {ra : Option Addr} {rc : Nat} {l : List UInt8} {at_ f : Nat} {oa : Option Addr} {oc : Nat} {us : List Value} (h : VS w1 w p ra rc l at_ f oa oc us) (m : Mod (fun _ => False) w w') : VS w1 w' p ra rc l at_ f oa oc us :=
  ⟨h.rd.mod0 m, h.own.mod m (fun _ _ => id), h.fr, h.md.step m (fun _ _ => False.elim), h.pl, h.al⟩
theorem VS.app {w1 w w3 : World} {p : Nat} {ra : Option Addr} {rc : Nat} {l : List UInt8} {at_ f : Nat} {oa a3 : Option Addr} {oc c3 n : Nat} {us ys : List Value} (h : VS w1 w p ra rc l at_ f oa oc us) (hG : Grow w oa w3 a3) (hO : Mine.Own w3 45 1 a3 n c3 (us ++ ys)) (hn : n = us.length + ys.length) : VS w1 w3 p ra rc l at_ f a3 c3 (us ++ ys) := by
  have hrd : RdAt w3 p ra rc l at_ f := by
    have hpn : ¬ blk oa = some p := fun e => by have := h.fr p e; have := h.pl; omega
    by_cases h0 : l = []
    · subst h0
      exact ⟨h.rd.ne, h.rd.le, h.rd.lc, h.rd.len, hG.mod.at h.rd.heap hpn, fun i u hu => by simp [bts] at hu⟩
    · exact h.rd.mod hG.mod hpn (fun b hb e => by have := h.fr b e; have := h.al h0 b hb; omega)
  refine ⟨hrd, ?_, fun b hb => ?_, h.md.step hG.mod (fun b hb e => by have := h.fr b e; omega), h.pl, h.al⟩
  · rw [List.length_append, ← hn]; exact hO
  · rcases hG.pos with e | ⟨g, e, hg⟩
    · rw [e] at hb; exact h.fr b hb
    · have := h.md.size
      rw [e] at hb
      have : g = b := by simpa [blk] using hb
      omega
/-- what a reading of the program's answers -/
def RPost (r : List Nat) (w : World) (e : Ending) (w' : World) : Prop := ∃ a c, e = .returned (.slice a r.length c) ∧ VOwn 45 w w' a c (u32s r)
theorem VS.post {w w1 w' : World} {p : Nat} {ra : Option Addr} {rc : Nat} {l : List UInt8} {at_ f : Nat} {oa : Option Addr} {oc : Nat} {us : List Value} (h : VS w1 w' p ra rc l at_ f oa oc us) (m : Mod (fun _ => False) w w1) (hp : w.heap.size ≤ p) : VOwn 45 w w' oa oc us :=
  ⟨h.own, fun b hb => Nat.le_trans m.size (h.fr b hb), m.step h.md (fun b hb e => by omega)⟩
theorem stNum_ok {l : List UInt8} {at_ : Nat} (h : (getL (l.drop at_)).2.2 = 0) : stNum l at_ 0 = ((getL (l.drop at_)).1, at_ + (getL (l.drop at_)).2.1, 0) := by
  rw [stNum, if_neg (by simp), if_neg (by simp [h])]
theorem stNum_err {l : List UInt8} {at_ : Nat} (h : (getL (l.drop at_)).2.2 ≠ 0) : stNum l at_ 0 = (0, at_, (getL (l.drop at_)).2.2) := by
  rw [stNum, if_neg (by simp), if_pos h]
theorem rpGo_nil (m : Nat) : rpGo m [] = [] := by cases m <;> simp [rpGo]
theorem rpGo_on (m : Nat) {l : List UInt8} (h0 : l ≠ []) (h1 : (getL l).2.2 = 0) (h2 : (getL l).1 < 2 ^ 32) : rpGo (m + 1) l = (getL l).1 :: rpGo m (l.drop (getL l).2.1) := by
  rw [rpGo, if_neg (by rintro (h | h | h); exact h0 h; exact h h1; omega)]
theorem rpGo_off (m : Nat) {l : List UInt8} (h : l = [] ∨ (getL l).2.2 ≠ 0 ∨ 2 ^ 32 ≤ (getL l).1) : rpGo m l = [] := by
  cases m with
  | zero => rfl
  | succ m => rw [rpGo, if_pos h]
theorem readP1_any (a : Option Addr) (d rows : Nat) (l : List UInt8) (w : World) (hr : Rd w a (bts l)) (hl : l.length < 2 ^ 40) (hnil : a = none → d = 0) (hrows : rows ≤ 65536) :
    Calls Tryz.prog 89 #[.slice a l.length d, .int .i64 rows] w (RPost (rpGo rows l) w) := by
  have HN := Lib.hid (newReader_any a d l w hr hl hnil)
  clear hr hnil
  go_enter Tryz.func89, Tryz.ntmps89
  go_wp2_with fail
  refine HN.out.mono ?_
  rintro e w1 ⟨p, ra, rc, rfl, hRD, hp, hm, _⟩
  have HR := Lib.hid hRD; have HP := Lib.hid hp; have HM := Lib.hid hm
  clear hRD hp hm HN
  go_wp2_with fail
  go_loopw [5, 7, 8] (fun cv _ _ wr => ∃ (c : List Nat) (at_ : Nat) (oa : Option Addr) (oc : Nat), cv = .slice oa c.length oc ∧ c.length ≤ rows ∧ at_ ≤ l.length ∧ Hid (rpGo rows l = c ++ rpGo (rows - c.length) (l.drop at_)) ∧ Hid (VS w1 wr p ra rc l at_ 0 oa oc (u32s c))) (fun cv _ _ _ => match cv with | .slice _ n _ => rows - n | _ => 0)
  case atStart => exact ⟨[], 0, none, 0, rfl, Nat.zero_le _, Nat.zero_le _, Lib.hid (by simp), Lib.hid (VS.start HR.out)⟩
  case round =>
    obtain ⟨c, at_, oa, oc, rfl, hc, hat, hE, hV⟩ := hrel
    have HL := Lib.hid (rleft_any p ra l.length rc at_ _ _ wr hV.out.rd.heap hat hl)
    rename World => w9
    by_cases hgo : at_ < l.length ∧ c.length < rows
    · obtain ⟨h1, h2⟩ := hgo
      have h0 : 0 < l.length - at_ := by omega
      go_wp2_with fail
      refine HL.out.mono ?_
      rintro e w2 ⟨rfl, hm2⟩
      have HV2 := Lib.hid (hV.out.mod0 hm2)
      clear hm2 hV HL
      have hdl : (l.drop at_).length = l.length - at_ := List.length_drop
      have hne : l.drop at_ ≠ [] := by intro e; rw [e] at hdl; simp at hdl; omega
      obtain ⟨m, hm⟩ : ∃ m, rows - c.length = m + 1 := ⟨rows - c.length - 1, by omega⟩
      have HDL := Lib.hid hdl
      have HMM := Lib.hid hm
      clear hdl
      by_cases he : (getL (l.drop at_)).2.2 = 0
      · obtain ⟨hk, hk2, hn64⟩ := getL_ok he
        have HST := Lib.hid (stNum_ok he)
        have HNUM := Lib.hid (rdNum_any p ra rc l at_ 0 w2 HV2.out.rd)
        rw [HST.out] at HNUM
        by_cases hn32 : (getL (l.drop at_)).1 < 2 ^ 32
        · have HE2 : Hid (rpGo rows l = (c ++ [(getL (l.drop at_)).1]) ++ rpGo (rows - (c.length + 1)) (l.drop (at_ + (getL (l.drop at_)).2.1))) := Lib.hid (by
            rw [hE.out, hm, rpGo_on m hne he hn32, show rows - (c.length + 1) = m by omega, List.drop_drop]
            simp)
          clear hE hm hne he HST
          generalize (getL (l.drop at_)).1 = n at *
          generalize (getL (l.drop at_)).2.1 = k at *
          have hdec : decide (n < 2 ^ 32) = true := decide_eq_true hn32
          have hmod : n % 2 ^ 32 = n := Nat.mod_eq_of_lt hn32
          have HTK := Lib.hid (fun W => taken_any n W hn64)
          rw [hdec, hmod] at HTK
          clear hdec hmod
          go_wp2_with fail
          refine HNUM.out.mono ?_
          rintro e w3 ⟨rfl, hrd3, hm3⟩
          have HV3 := Lib.hid (HV2.out.num hrd3 hm3)
          clear hrd3 hm3 HV2 HNUM
          go_wp2_with fail
          refine (HTK.out _).mono ?_
          rintro e w4 ⟨rfl, hw4⟩
          obtain rfl : w3 = w4 := hw4
          go_wp2_with fail
          refine (rerr_any p _ _ _ _ w3 HV3.out.rd.heap).mono ?_
          rintro e w4 ⟨rfl, hw4⟩
          obtain rfl : w3 = w4 := hw4
          have hown : Mine.Own w3 45 1 oa c.length oc (u32s c) := by have h1 := HV3.out.own; rwa [u32s_len] at h1
          go_wp2_with (at_builtin; refine wpL_appendN (us := [.int .u32 (n : Nat)]) rfl (.tmp 33) (.tmp 35) 68 rfl tiU32 rfl hown rfl rfl rfl (by show (c.length + 1) * 4 ≤ _; omega) (by show c.length + 1 ≤ _; unfold maxLen; omega) ?_; intro a3 c3 w5 hO3 hG3 _
                       have HV5 : Hid (VS w1 w5 p ra rc l (at_ + k) 0 a3 c3 (u32s (c ++ [n]))) := Lib.hid (by
                         rw [u32s_snoc]
                         exact HV3.out.app hG3 hO3 (by simp)); clear hO3 hG3)
          go_roundw
          case rel => exact ⟨c ++ [n], at_ + k, a3, c3, by simp, by simp; omega, by have := HDL.out; omega, Lib.hid (by rw [HE2.out]; simp), HV5⟩
          case measure => show rows - (c.length + 1) < rows - c.length; omega
        · have HEND : Hid (rpGo rows l = c) := Lib.hid (by rw [hE.out, rpGo_off _ (.inr (.inr (by omega))), List.append_nil])
          clear hE hm hne he HST
          generalize (getL (l.drop at_)).1 = n at *
          generalize (getL (l.drop at_)).2.1 = k at *
          have hdec : decide (n < 2 ^ 32) = false := decide_eq_false hn32
          have HTK := Lib.hid (fun W => taken_any n W hn64)
          rw [hdec] at HTK
          clear hdec
          go_wp2_with fail
          refine HNUM.out.mono ?_
          rintro e w3 ⟨rfl, hrd3, hm3⟩
          have HV3 := Lib.hid (HV2.out.num hrd3 hm3)
          clear hrd3 hm3 HV2 HNUM
          go_wp2_with fail
          refine (HTK.out _).mono ?_
          rintro e w4 ⟨rfl, hw4⟩
          obtain rfl : w3 = w4 := hw4
          go_wp2_with fail
          refine (rerr_any p _ _ _ _ w3 HV3.out.rd.heap).mono ?_
          rintro e w4 ⟨rfl, hw4⟩
          obtain rfl : w3 = w4 := hw4
          go_wp2_with fail
          go_ret
          rw [HEND.out]
          exact ⟨oa, oc, rfl, HV3.out.post HM.out HP.out⟩
      · have HST := Lib.hid (stNum_err he)
        have HNUM := Lib.hid (rdNum_any p ra rc l at_ 0 w2 HV2.out.rd)
        rw [HST.out] at HNUM
        have HEND : Hid (rpGo rows l = c) := Lib.hid (by rw [hE.out, rpGo_off _ (.inr (.inl he)), List.append_nil])
        clear hE hm hne HST
        generalize (getL (l.drop at_)).2.2 = er at *
        have hne : ((er : Int) != 0) = true := by simp; omega
        have HTK := Lib.hid (fun W => taken_any 0 W (by omega))
        go_wp2_with fail
        refine HNUM.out.mono ?_
        rintro e w3 ⟨rfl, hrd3, hm3⟩
        have HV3 := Lib.hid (HV2.out.num hrd3 hm3)
        clear hrd3 hm3 HV2 HNUM
        go_wp2_with fail
        refine (HTK.out _).mono ?_
        rintro e w4 ⟨rfl, hw4⟩
        obtain rfl : w3 = w4 := hw4
        go_wp2_with fail
        refine (rerr_any p _ _ _ _ w3 HV3.out.rd.heap).mono ?_
        rintro e w4 ⟨rfl, hw4⟩
        obtain rfl : w3 = w4 := hw4
        go_wp2_with fail
        go_ret
        rw [HEND.out]
        exact ⟨oa, oc, rfl, HV3.out.post HM.out HP.out⟩
    · have HEND : Hid (rpGo rows l = c) := Lib.hid (by
        rw [hE.out, show rpGo (rows - c.length) (l.drop at_) = [] from ?_, List.append_nil]
        by_cases h1 : at_ < l.length
        · have h2 : rows - c.length = 0 := by omega
          rw [h2]; rfl
        · rw [List.drop_eq_nil_of_le (by omega), rpGo_nil])
      clear hE
      by_cases h1 : at_ < l.length
      · have h0 : 0 < l.length - at_ := by omega
        have h2 : ¬ c.length < rows := fun h => hgo ⟨h1, h⟩
        clear hgo
        go_wp2_with fail
        refine HL.out.mono ?_
        rintro e w2 ⟨rfl, hm2⟩
        have HV2 := Lib.hid (hV.out.mod0 hm2)
        clear hm2 hV HL
        go_wp2_with fail
        go_ret
        rw [HEND.out]
        exact ⟨oa, oc, rfl, HV2.out.post HM.out HP.out⟩
      · have h0 : ¬ 0 < l.length - at_ := by omega
        clear hgo
        go_wp2_with fail
        refine HL.out.mono ?_
        rintro e w2 ⟨rfl, hm2⟩
        have HV2 := Lib.hid (hV.out.mod0 hm2)
        clear hm2 hV HL
        go_wp2_with fail
        go_ret
        rw [HEND.out]
        exact ⟨oa, oc, rfl, HV2.out.post HM.out HP.out⟩
end Go.Proofs.YtelfakglaghfoaaGreat
