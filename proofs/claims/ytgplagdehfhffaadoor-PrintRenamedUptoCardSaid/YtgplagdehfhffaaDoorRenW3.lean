/-
  PrintRenamed's renamed, walked.
-/
import Derived.Test.YtgplagdehfhffaaDoorRenW2
namespace Go.Proofs.YtgplagdehfhffaaDoor
open Go Go.RowKit Go.Mine
set_option linter.unusedVariables false
set_option maxHeartbeats 8000000
set_option maxRecDepth 100000

theorem lms_set : ∀ (L : List (Lm × Value)) (k : Nat) (hk : k < L.length) (p : ByteArray) (ts : List Tm) (v : Value) (l r : Tm),
    ((((((lmsC L).set (k * 8 + 1) (.string p)).set (k * 8 + 2) v).set (k * 8 + 4) (.int .i64 l.kind)).set (k * 8 + 5) (.string l.text)).set (k * 8 + 6) (.int .i64 r.kind)).set (k * 8 + 7) (.string r.text) =
      lmsC (L.set k (⟨L[k].1.kind, ⟨p, ts⟩, L[k].1.op, l, r⟩, v))
  | [], k, hk, _, _, _, _, _ => absurd hk (Nat.not_lt_zero _)
  | x :: L, 0, _, _, _, _, _, _ => rfl
  | x :: L, k + 1, hk, p, ts, v, l, r => by
    have e : lmsC (x :: L) = lmC x ++ lmsC L := rfl
    have hl : (lmC x).length = 8 := rfl
    have e2 : ∀ y, lmsC ((x :: L).set (k + 1) y) = lmC x ++ lmsC (L.set k y) := fun y => rfl
    have sh : ∀ (l : List Value) (j : Nat) (u : Value), (lmC x ++ l).set ((k + 1) * 8 + j) u = lmC x ++ l.set (k * 8 + j) u := fun l j u => by
      rw [List.set_append_right _ _ (by rw [hl]; omega), hl, show (k + 1) * 8 + j - 8 = k * 8 + j by omega]
    rw [e, sh, sh, sh, sh, sh, sh, e2]
    congr 1
    exact lms_set L k (by simpa using hk) p ts v l r
/-- what is renamed so far -/
structure RnI (wr : World) (lo gb cb n : Nat) (sh : Value) (hts : List Tm) (L : List (Lm × Value)) : Prop where
  own : Mine.Own wr 62 8 (some ⟨gb, 0, none⟩) (n + 1) cb (lmsC (L ++ [(lM, .slice none 0 0)]))
  each : ∀ x ∈ L, TsF wr (fun b => b ≠ gb ∧ lo ≤ b) x.2 x.1.atom.terms
  head : TsF wr (fun b => b ≠ gb ∧ lo ≤ b) sh hts
theorem OwnT.f {w : World} {g c : Nat} {ts : List Tm} {G : Nat → Prop} (h : OwnT w g c ts) (hg : G g) : TsF w G (.slice (some ⟨g, 0, none⟩) ts.length c) ts := by
  obtain ⟨a, c', e, hr⟩ := h.at
  cases e
  exact ⟨_, _, rfl, hr, fun _ b hb => by cases hb; exact hg⟩
theorem RnI.mod0 {w w' : World} {lo gb cb n : Nat} {sh : Value} {hts : List Tm} {L : List (Lm × Value)} (h : RnI w lo gb cb n sh hts L) (m : Mod (fun _ => False) w w') : RnI w' lo gb cb n sh hts L :=
  ⟨h.own.mod m (fun _ _ => id), fun x hx => (h.each x hx).mod0 m, h.head.mod0 m⟩
theorem RnI.ofOwn {w : World} {S : Nat → Prop} {lo : Nat} {r : Rm} {gh ch gb cb : Nat} {xs : List X3} (h : OwnR w S r gh ch gb cb xs) (hS : ∀ b, S b → lo ≤ b) : RnI w lo gb cb r.body.length (.slice (some ⟨gh, 0, none⟩) r.head.terms.length ch) r.head.terms (xsV xs) := by
  have hl : xs.length = r.body.length := by rw [← h.hx, List.length_map]
  have hnd := h.nd
  rw [List.nodup_cons, List.nodup_cons] at hnd
  obtain ⟨n1, n2, n3⟩ := hnd
  refine ⟨by have := h.body; unfold OwnL at this; rw [hl] at this; exact this, fun x hx => ?_, h.head.f ⟨fun e => n1 (by rw [e]; exact List.mem_cons_self ..), hS _ (h.inS gh (by simp))⟩⟩
  obtain ⟨y, hy, rfl⟩ := List.mem_map.1 hx
  have hm : y.2.1 ∈ blks xs := List.mem_map.2 ⟨y, hy, rfl⟩
  exact (h.terms y hy).f ⟨fun e => n2 (by rw [← e]; exact hm), hS _ (h.inS _ (by simp [hm]))⟩
theorem renamed_go (r : Rm) (s b : Value) (w : World) (ht : TsAt w s r.head.terms) (hl : LsAt w b r.body) (hs : SmallRm r) :
    Calls Tryd.prog 47 #[rmV r s b] w fun e w' => ∃ s' b', e = .returned (rmV (rnRm nameB r) s' b') ∧ TsAt w' s' (rnRm nameB r).head.terms ∧ LsAt w' b' (rnRm nameB r).body ∧ Mod (fun _ => False) w w' := by
  have hb0 : ((w.alloc (.cells #[.string r.head.pred, s, b] 40)).alloc (.cells #[.string ⟨#[]⟩, .slice none 0 0, .slice none 0 0] 40)).heap[w.heap.size]? = some (.cells #[.string r.head.pred, s, b] 40 (0, 0)) := heap_two1 w _ _
  have hb1 : ((w.alloc (.cells #[.string r.head.pred, s, b] 40)).alloc (.cells #[.string ⟨#[]⟩, .slice none 0 0, .slice none 0 0] 40)).heap[w.heap.size + 1]? = some (.cells #[.string ⟨#[]⟩, .slice none 0 0, .slice none 0 0] 40 (0, 0)) := heap_two2 w _ _
  have hm1 : Mod (fun _ => False) w ((w.alloc (.cells #[.string r.head.pred, s, b] 40)).alloc (.cells #[.string ⟨#[]⟩, .slice none 0 0, .slice none 0 0] 40)) := ((Mod.refl _ w).alloc _).alloc _
  have hz1 : ((w.alloc (.cells #[.string r.head.pred, s, b] 40)).alloc (.cells #[.string ⟨#[]⟩, .slice none 0 0, .slice none 0 0] 40)).heap.size = w.heap.size + 2 := by simp
  have HC := Lib.hid (own_any r s b _ (ht.mod0 hm1) (hl.mod0 hm1) hs.1.2.1 hs.2.1 (fun l hl => (hs.2.2 l hl).1.2.1))
  have HH := Lib.hid (And.intro hb0 (And.intro hb1 (And.intro hm1 hz1)))
  have HK := Lib.hid hs
  unfold rmV at HC ⊢
  obtain ⟨sa, sc, rfl, _⟩ := ht
  obtain ⟨ba, bc, _, rfl, _⟩ := hl
  obtain ⟨⟨pr, hts⟩, ls⟩ := r
  simp only at HC HH ⊢
  clear hb0 hb1 hm1 hz1 hs
  go_enter Tryd.func47, Tryd.ntmps47
  go_wp2_with fail
  obtain ⟨w1, hw1⟩ : ∃ w1, w1 = ((w.alloc (.cells #[.string pr, .slice sa hts.length sc, .slice ba ls.length bc] 40)).alloc (.cells #[.string ⟨#[]⟩, .slice none 0 0, .slice none 0 0] 40)) := ⟨_, rfl⟩
  rw [← hw1] at HC HH ⊢
  clear hw1
  obtain ⟨hb0, hb1, hm1, hz1⟩ := HH.out
  refine HC.out.mono ?_
  rintro e w2 ⟨gh, ch, gb, cb, xs, rfl, hOR, hM2⟩
  have k0 := hM2.at hb0 id
  have k1 := hM2.at hb1 id
  have c0 := cell_at (j := 0) k0 rfl
  have c1 := cell_at (j := 1) k0 rfl
  have c2 := cell_at (j := 2) k0 rfl
  have f0 : w2.frozen? ⟨w.heap.size, 0, none⟩ = false := frozen_at k0
  have f1 : w2.frozen? ⟨w.heap.size, 1, none⟩ = false := frozen_at k0
  have f2 : w2.frozen? ⟨w.heap.size, 2, none⟩ = false := frozen_at k0
  have hms : Mod (fun b => b = w.heap.size) w2 (((w2.setCell ⟨w.heap.size, 0, none⟩ (.string pr)).setCell ⟨w.heap.size, 1, none⟩ (.slice (some ⟨gh, 0, none⟩) hts.length ch)).setCell ⟨w.heap.size, 2, none⟩ (.slice (some ⟨gb, 0, none⟩) ls.length cb)) := (((Mod.refl (fun b => b = w.heap.size) w2).setCell (p := ⟨w.heap.size, 0, none⟩) (fun _ => rfl) _).setCell (p := ⟨w.heap.size, 1, none⟩) (fun _ => rfl) _).setCell (p := ⟨w.heap.size, 2, none⟩) (fun _ => rfl) _
  have hq1 := heap_setCell_at (j := 0) (.string pr) k0
  have hq2 := heap_setCell_at (j := 1) (.slice (some ⟨gh, 0, none⟩) hts.length ch) hq1
  have hq3 : (((w2.setCell ⟨w.heap.size, 0, none⟩ (.string pr)).setCell ⟨w.heap.size, 1, none⟩ (.slice (some ⟨gh, 0, none⟩) hts.length ch)).setCell ⟨w.heap.size, 2, none⟩ (.slice (some ⟨gb, 0, none⟩) ls.length cb)).heap[w.heap.size]? = some (.cells #[.string pr, .slice (some ⟨gh, 0, none⟩) hts.length ch, .slice (some ⟨gb, 0, none⟩) ls.length cb] 40 (0, 0)) := heap_setCell_at (j := 2) (.slice (some ⟨gb, 0, none⟩) ls.length cb) hq2
  have hgb : w.heap.size + 2 ≤ gb ∧ gb < w2.heap.size := by rw [← hz1]; exact hOR.inS gb (by simp)
  have hz2 : w.heap.size + 2 ≤ (((w2.setCell ⟨w.heap.size, 0, none⟩ (.string pr)).setCell ⟨w.heap.size, 1, none⟩ (.slice (some ⟨gh, 0, none⟩) hts.length ch)).setCell ⟨w.heap.size, 2, none⟩ (.slice (some ⟨gb, 0, none⟩) ls.length cb)).heap.size := by have := hM2.size; simp; omega
  have HG : Hid (w.heap.size + 2 ≤ gb) := hgb.1
  have HI := Lib.hid (RnI.ofOwn (lo := w.heap.size + 2) (hOR.mod hms (fun b hb e => by have e' : b = w.heap.size := e; rw [hz1] at hb; omega)) (fun b hb => by rw [hz1] at hb; exact hb.1))
  have HHT : Hid (TsAt (((w2.setCell ⟨w.heap.size, 0, none⟩ (.string pr)).setCell ⟨w.heap.size, 1, none⟩ (.slice (some ⟨gh, 0, none⟩) hts.length ch)).setCell ⟨w.heap.size, 2, none⟩ (.slice (some ⟨gb, 0, none⟩) ls.length cb)) (.slice (some ⟨gh, 0, none⟩) hts.length ch) hts) := Lib.hid ((hOR.mod hms (fun b hb e => by have e' : b = w.heap.size := e; rw [hz1] at hb; omega)).head.at)
  have HXF : Hid (xs.map Prod.fst = ls) := hOR.hx
  have HQ0 := Lib.hid hq3
  have HQ1 := Lib.hid (hms.at k1 (by omega))
  have HMM := Lib.hid ((hm1.trans hM2).step hms (fun i hi e => by omega))
  have HZ2 := Lib.hid hz2
  have HGB : Hid (gb < (((w2.setCell ⟨w.heap.size, 0, none⟩ (.string pr)).setCell ⟨w.heap.size, 1, none⟩ (.slice (some ⟨gh, 0, none⟩) hts.length ch)).setCell ⟨w.heap.size, 2, none⟩ (.slice (some ⟨gb, 0, none⟩) ls.length cb)).heap.size) := Lib.hid (Nat.lt_of_lt_of_le hgb.2 hms.size)
  clear hms hq1 hq2 hq3 k0 k1 hM2 hm1 hz1 hb0 hb1 HC HH hOR hgb hz2
  have hsm := HK.out.1
  go_wp2_with fail
  obtain ⟨w3, hw3⟩ : ∃ v, v = (((w2.setCell ⟨w.heap.size, 0, none⟩ (.string pr)).setCell ⟨w.heap.size, 1, none⟩ (.slice (some ⟨gh, 0, none⟩) hts.length ch)).setCell ⟨w.heap.size, 2, none⟩ (.slice (some ⟨gb, 0, none⟩) ls.length cb)) := ⟨_, rfl⟩
  rw [← hw3] at HQ0 HQ1 HMM HZ2 HI HHT HGB ⊢
  clear hw3 c0 c1 c2 f0 f1 f2
  refine (renamedAtom_go pr hts _ w3 HHT.out hsm.2.1 (fun t ht => (hsm.2.2 t ht))).mono ?_
  rintro e w4 ⟨g1, c1, rfl, hO1, hg1, hM4⟩
  have k0 := hM4.at HQ0.out id
  have k1 := hM4.at HQ1.out id
  have c0 := cell_at (j := 0) k0 rfl
  have cc1 := cell_at (j := 1) k0 rfl
  have f0 : w4.frozen? ⟨w.heap.size, 0, none⟩ = false := frozen_at k0
  have f1 : w4.frozen? ⟨w.heap.size, 1, none⟩ = false := frozen_at k0
  have hms : Mod (fun b => b = w.heap.size) w4 ((w4.setCell ⟨w.heap.size, 0, none⟩ (.string pr)).setCell ⟨w.heap.size, 1, none⟩ (.slice (some ⟨g1, 0, none⟩) hts.length c1)) := ((Mod.refl (fun b => b = w.heap.size) w4).setCell (p := ⟨w.heap.size, 0, none⟩) (fun _ => rfl) _).setCell (p := ⟨w.heap.size, 1, none⟩) (fun _ => rfl) _
  have hq3 : ((w4.setCell ⟨w.heap.size, 0, none⟩ (.string pr)).setCell ⟨w.heap.size, 1, none⟩ (.slice (some ⟨g1, 0, none⟩) hts.length c1)).heap[w.heap.size]? = some (.cells #[.string pr, .slice (some ⟨g1, 0, none⟩) hts.length c1, .slice (some ⟨gb, 0, none⟩) ls.length cb] 40 (0, 0)) := heap_setCell_at (j := 1) (.slice (some ⟨g1, 0, none⟩) hts.length c1) (heap_setCell_at (j := 0) (.string pr) k0)
  have hgw := HG.out
  have hg13 : gb ≠ g1 := by have := HGB.out; omega
  have hg1w : w.heap.size + 2 ≤ g1 := Nat.le_trans HZ2.out hg1
  have HN1 : Hid (RnI ((w4.setCell ⟨w.heap.size, 0, none⟩ (.string pr)).setCell ⟨w.heap.size, 1, none⟩ (.slice (some ⟨g1, 0, none⟩) hts.length c1)) (w.heap.size + 2) gb cb ls.length (.slice (some ⟨g1, 0, none⟩) hts.length c1) (hts.map (rnG nameB)) (xsV xs)) := Lib.hid (by
    have h1 := HI.out.mod0 hM4
    refine ⟨h1.own.mod hms (fun b hb e => by cases hb; have e' : gb = w.heap.size := e; omega), fun x hx => ?_, ?_⟩
    · exact (h1.each x hx).step hms (fun b hb hG e => by have e' : b = w.heap.size := e; have := hG.2; omega) (fun _ _ => id)
    · have h2 := (hO1.mod hms (by have := hg1w; omega)).f (G := fun b => b ≠ gb ∧ w.heap.size + 2 ≤ b) ⟨fun e => hg13 e.symm, hg1w⟩
      rw [List.length_map] at h2
      exact h2)
  have HQ0' := Lib.hid hq3
  have HQ1' := Lib.hid (hms.at k1 (by omega))
  have HMM' := Lib.hid ((HMM.out.trans hM4).step hms (fun i hi e => by omega))
  clear hms hq3 k0 k1 hM4 hO1 hg1 hgw hg13 hg1w HI HHT HQ0 HQ1 HMM HZ2 HGB
  go_wp2_with fail
  obtain ⟨w5, hw5⟩ : ∃ v, v = ((w4.setCell ⟨w.heap.size, 0, none⟩ (.string pr)).setCell ⟨w.heap.size, 1, none⟩ (.slice (some ⟨g1, 0, none⟩) hts.length c1)) := ⟨_, rfl⟩
  rw [← hw5] at HQ0' HQ1' HMM' HN1 ⊢
  clear hw5 c0 cc1 f0 f1
  go_loopw [3] (fun iv wr => ∃ k : Nat, iv = .int .i64 k ∧ k ≤ ls.length ∧ Hid (∃ ys zs : List (Lm × Value), RnI wr (w.heap.size + 2) gb cb ls.length (.slice (some ⟨g1, 0, none⟩) hts.length c1) (hts.map (rnG nameB)) (ys ++ zs) ∧ ys.map Prod.fst = (ls.take k).map (rnLm nameB) ∧ zs.map Prod.fst = ls.drop k) ∧
      Hid (Mod (fun b => b = gb) w5 wr)) (fun iv _ => ls.length - (intOf iv).toNat)
  case atStart => exact ⟨0, rfl, Nat.zero_le _, Lib.hid ⟨[], xsV xs, HN1.out, rfl, by
    rw [List.drop_zero, ← HXF.out, xsV, List.map_map]; rfl⟩, Lib.hid (Mod.refl _ _)⟩
  case round =>
    obtain ⟨k, rfl, hk, hI, hM⟩ := hrel
    have hgw := HG.out
    have hlb : ls.length < 1073741824 := HK.out.2.1
    have q0 := hM.out.at HQ0'.out (by omega)
    have q1 := hM.out.at HQ1'.out (by omega)
    have c0 := cell_at (j := 0) q0 rfl
    have cc1 := cell_at (j := 1) q0 rfl
    have cc2 := cell_at (j := 2) q0 rfl
    have Q0 := Lib.hid q0; have Q1 := Lib.hid q1
    clear q0 q1
    by_cases hlt : k < ls.length
    · obtain ⟨ys, zs, hR, hy, hz⟩ := hI.out
      rw [List.drop_eq_getElem_cons hlt] at hz
      rcases zs with _ | ⟨⟨l, v⟩, zs⟩
      · cases hz
      simp only [List.map_cons, List.cons.injEq] at hz
      obtain ⟨hzl, hz⟩ := hz
      have hyl : ys.length = k := by
        have := congrArg List.length hy
        rw [List.length_map, List.length_map, List.length_take] at this
        omega
      obtain ⟨va, vc, hv0, hvr, hvb⟩ := hR.each (l, v) (by simp)
      simp only at hv0 hvr hvb
      subst hv0
      have hget : ((ys ++ (l, .slice va l.atom.terms.length vc) :: zs) ++ [((lM : Lm), (.slice none 0 0 : Value))])[k]? = some (l, .slice va l.atom.terms.length vc) := by
        rw [List.append_assoc, List.getElem?_append_right (by omega), hyl, Nat.sub_self]; rfl
      obtain ⟨b, o, hbe, _, x1, x2, _, x4, x5, x6, x7⟩ := rd_cell8 hR.own.rd hget
      cases hbe
      rw [Nat.zero_add] at x1 x2 x4 x5 x6 x7
      have hsl : SmallLm l := by rw [hzl]; exact HK.out.2.2 _ (List.getElem_mem hlt)
      have HT1 := Lib.hid (fun W (m : Mod (fun _ => False) wr W) => renamedAtom_go l.atom.pred l.atom.terms (.slice va l.atom.terms.length vc) W ⟨_, _, rfl, hvr.mod m (fun _ _ => id)⟩ hsl.1.2.1 (fun t ht => hsl.1.2.2 t ht))
      have HT2 := Lib.hid (fun W => rnG_go l.left W hsl.2.1)
      have HT3 := Lib.hid (fun W => rnG_go l.right W hsl.2.2)
      have HGET := Lib.hid hget
      have HY := Lib.hid hy; have HZ := Lib.hid hz; have HZL := Lib.hid hzl; have HYL := Lib.hid hyl
      have HRI := Lib.hid hR
      have HOW := Lib.hid hR.own
      unfold tmV at HT2 HT3
      have X1a := Lib.hid x1; have X1b := Lib.hid x2
      have C0 := Lib.hid cc2
      have hlx : Hid (k < (ys ++ (l, (.slice va l.atom.terms.length vc : Value)) :: zs).length ∧ zs.length = ls.length - (k + 1)) := Lib.hid ⟨by simp; omega, by
        have := congrArg List.length hz
        rw [List.length_map, List.length_drop] at this
        exact this⟩
      clear hI hR hy hz hzl hyl hget hvr hvb hsl x4 x5 x6 x7
      obtain ⟨⟨lk, lt⟩, hll⟩ : ∃ t, t = rnG nameB l.left := ⟨_, rfl⟩
      obtain ⟨⟨rk, rt⟩, hrr⟩ : ∃ t, t = rnG nameB l.right := ⟨_, rfl⟩
      rw [← hll] at HT2
      rw [← hrr] at HT3
      have HLR := Lib.hid (And.intro hll hrr)
      clear hll hrr
      simp only at HT2 HT3
      go_wp2_with fail
      refine wp_region_ord (fun W => W.cell? ⟨w.heap.size, 2, none⟩ = some (.slice (some ⟨gb, 0, none⟩) ls.length cb) ∧ W.cell? ⟨gb, k * 8 + 1, none⟩ = some (.string l.atom.pred) ∧ W.cell? ⟨gb, k * 8 + 2, none⟩ = some (.slice va l.atom.terms.length vc)) [(0, 0), (1, 1), (0, 2), (0, 3), (1, 4), (0, 5), (0, 6), (0, 7), (1, 8), (2, 9), (0, 10), (0, 11), (3, 12)] (by kernel_rfl) (by kernel_rfl) ?_
      go_wp2_with (first
        | (refine ord_pure rfl rfl rfl (fun K hK => ?_); go_big_quiet_op; refine hK _ ?_; clear hK K)
                        | (refine ord_skip rfl rfl ?_; simp only [Act.put, List.setIfInBounds_toArray, List.set_cons_zero, List.set_cons_succ])
                        | (refine ord_held rfl rfl rfl (⟨C0.out, X1a.out, X1b.out⟩) (fun K hK => ?_); apply Exists.intro; refine ⟨fun w' hs => ?_, hK _ ?_⟩; (revert hs; dsimp only; (try simp only [and_imp]); intros; go_simp; rfl); clear hK K)
                        | (refine ord_keep rfl rfl (⟨C0.out, X1a.out, X1b.out⟩) (fun K hK => ?_))
                        | (refine ord_drop rfl rfl (fun K hK => ?_))
                        | (refine ord_nil ?_))
      refine (HT1.out _ (Mod.refl _ wr).drew).mono ?_
      rintro e w6 ⟨g6, c6, rfl, hO6, hg6, hM6⟩
      have hMr : Mod (fun _ => False) wr w6 := ((Mod.refl (fun _ => False) wr).drew).trans hM6
      have hOw := HOW.out.mod hMr (fun _ _ => id)
      have y0 := hMr.cell X1a.out id
      have y1 := hMr.cell X1b.out id
      have z0 := hOw.frozen (o := k * 8 + 1) (b := gb) rfl
      have z1 := hOw.frozen (o := k * 8 + 2) (b := gb) rfl
      have hC := hMr.cell C0.out id
      refine hK _ _ ⟨hC, y0, y1⟩ ?_; clear hK K
      obtain ⟨w7, hws⟩ : ∃ v, v = (w6.setCell ⟨gb, k * 8 + 1, none⟩ (.string l.atom.pred)).setCell ⟨gb, k * 8 + 2, none⟩ (.slice (some ⟨g6, 0, none⟩) l.atom.terms.length c6) := ⟨_, rfl⟩
      have hms : Mod (fun b => b = gb) w6 w7 := by rw [hws]; exact ((Mod.refl (fun b => b = gb) w6).setCell (p := ⟨gb, k * 8 + 1, none⟩) (fun _ => rfl) _).setCell (p := ⟨gb, k * 8 + 2, none⟩) (fun _ => rfl) _
      have HO6 := Lib.hid (show Mine.Own w7 62 8 _ _ _ _ by rw [hws]; exact (hOw.store (k * 8 + 1) (.string l.atom.pred)).store (k * 8 + 2) (.slice (some ⟨g6, 0, none⟩) l.atom.terms.length c6))
      have HMS6 := Lib.hid ((hMr.mono (T := fun b => b = gb) (fun _ _ h => h.elim)).trans hms)
      have HMT6 := Lib.hid hms
      have C6 := Lib.hid (hms.cell hC (by show ¬ w.heap.size = gb; omega))
      have HWS := Lib.hid hws
      clear hMr hOw hC hms hws hM6
      have HO6t := Lib.hid (And.intro hO6 hg6)
      clear hO6 hg6
      go_wp2_with (first
        | (refine ord_pure rfl rfl rfl (fun K hK => ?_); go_big_quiet_op; refine hK _ ?_; clear hK K)
                        | (refine ord_skip rfl rfl ?_; simp only [Act.put, List.setIfInBounds_toArray, List.set_cons_zero, List.set_cons_succ])
                        | (refine ord_held rfl rfl rfl (trivial) (fun K hK => ?_); apply Exists.intro; refine ⟨fun w' hs => ?_, hK _ ?_⟩; (revert hs; dsimp only; (try simp only [and_imp]); intros; go_simp; rfl); clear hK K)
                        | (refine ord_keep rfl rfl (trivial) (fun K hK => ?_))
                        | (refine ord_drop rfl rfl (fun K hK => ?_))
                        | (refine ord_nil ?_))
      rw [← HWS.out]; clear HWS
      have xa : w7.cell? ⟨gb, k * 8 + 4, none⟩ = some (.int .i64 l.left.kind) := by
        obtain ⟨b, o, e, q⟩ := HO6.out.rd (k * 8 + 4) (.int .i64 l.left.kind) (by rw [List.getElem?_set_ne (by omega), List.getElem?_set_ne (by omega)]; exact flat_get (j := 4) lmC_length HGET.out (by omega))
        cases e
        rw [Nat.zero_add] at q
        exact q
      have xb : w7.cell? ⟨gb, k * 8 + 5, none⟩ = some (.string l.left.text) := by
        obtain ⟨b, o, e, q⟩ := HO6.out.rd (k * 8 + 5) (.string l.left.text) (by rw [List.getElem?_set_ne (by omega), List.getElem?_set_ne (by omega)]; exact flat_get (j := 5) lmC_length HGET.out (by omega))
        cases e
        rw [Nat.zero_add] at q
        exact q
      have X2a := Lib.hid xa; have X2b := Lib.hid xb
      clear xa xb y0 y1 z0 z1
      refine wp_region_ord (fun W => W.cell? ⟨w.heap.size, 2, none⟩ = some (.slice (some ⟨gb, 0, none⟩) ls.length cb) ∧ W.cell? ⟨gb, k * 8 + 4, none⟩ = some (.int .i64 l.left.kind) ∧ W.cell? ⟨gb, k * 8 + 5, none⟩ = some (.string l.left.text)) [(0, 0), (1, 1), (0, 2), (0, 3), (1, 4), (0, 5), (0, 6), (0, 7), (1, 8), (2, 9), (0, 10), (0, 11), (3, 12)] (by kernel_rfl) (by kernel_rfl) ?_
      go_wp2_with (first
        | (refine ord_pure rfl rfl rfl (fun K hK => ?_); go_big_quiet_op; refine hK _ ?_; clear hK K)
                        | (refine ord_skip rfl rfl ?_; simp only [Act.put, List.setIfInBounds_toArray, List.set_cons_zero, List.set_cons_succ])
                        | (refine ord_held rfl rfl rfl (⟨C6.out, X2a.out, X2b.out⟩) (fun K hK => ?_); apply Exists.intro; refine ⟨fun w' hs => ?_, hK _ ?_⟩; (revert hs; dsimp only; (try simp only [and_imp]); intros; go_simp; rfl); clear hK K)
                        | (refine ord_keep rfl rfl (⟨C6.out, X2a.out, X2b.out⟩) (fun K hK => ?_))
                        | (refine ord_drop rfl rfl (fun K hK => ?_))
                        | (refine ord_nil ?_))
      refine (HT2.out _).mono ?_
      rintro e w8 ⟨rfl, hM6⟩
      have hMr : Mod (fun _ => False) w7 w8 := ((Mod.refl (fun _ => False) w7).drew).trans hM6
      have hOw := HO6.out.mod hMr (fun _ _ => id)
      have y0 := hMr.cell X2a.out id
      have y1 := hMr.cell X2b.out id
      have z0 := hOw.frozen (o := k * 8 + 4) (b := gb) rfl
      have z1 := hOw.frozen (o := k * 8 + 5) (b := gb) rfl
      have hC := hMr.cell C6.out id
      refine hK _ _ ⟨hC, y0, y1⟩ ?_; clear hK K
      obtain ⟨w9, hws⟩ : ∃ v, v = (w8.setCell ⟨gb, k * 8 + 4, none⟩ (.int .i64 lk)).setCell ⟨gb, k * 8 + 5, none⟩ (.string lt) := ⟨_, rfl⟩
      have hms : Mod (fun b => b = gb) w8 w9 := by rw [hws]; exact ((Mod.refl (fun b => b = gb) w8).setCell (p := ⟨gb, k * 8 + 4, none⟩) (fun _ => rfl) _).setCell (p := ⟨gb, k * 8 + 5, none⟩) (fun _ => rfl) _
      have HO7 := Lib.hid (show Mine.Own w9 62 8 _ _ _ _ by rw [hws]; exact (hOw.store (k * 8 + 4) (.int .i64 lk)).store (k * 8 + 5) (.string lt))
      have HMS7 := Lib.hid ((hMr.mono (T := fun b => b = gb) (fun _ _ h => h.elim)).trans hms)
      have HMT7 := Lib.hid hms
      have C7 := Lib.hid (hms.cell hC (by show ¬ w.heap.size = gb; omega))
      have HWS := Lib.hid hws
      clear hMr hOw hC hms hws hM6
      go_wp2_with (first
        | (refine ord_pure rfl rfl rfl (fun K hK => ?_); go_big_quiet_op; refine hK _ ?_; clear hK K)
                        | (refine ord_skip rfl rfl ?_; simp only [Act.put, List.setIfInBounds_toArray, List.set_cons_zero, List.set_cons_succ])
                        | (refine ord_held rfl rfl rfl (trivial) (fun K hK => ?_); apply Exists.intro; refine ⟨fun w' hs => ?_, hK _ ?_⟩; (revert hs; dsimp only; (try simp only [and_imp]); intros; go_simp; rfl); clear hK K)
                        | (refine ord_keep rfl rfl (trivial) (fun K hK => ?_))
                        | (refine ord_drop rfl rfl (fun K hK => ?_))
                        | (refine ord_nil ?_))
      rw [← HWS.out]; clear HWS
      have xa : w9.cell? ⟨gb, k * 8 + 6, none⟩ = some (.int .i64 l.right.kind) := by
        obtain ⟨b, o, e, q⟩ := HO7.out.rd (k * 8 + 6) (.int .i64 l.right.kind) (by rw [List.getElem?_set_ne (by omega), List.getElem?_set_ne (by omega), List.getElem?_set_ne (by omega), List.getElem?_set_ne (by omega)]; exact flat_get (j := 6) lmC_length HGET.out (by omega))
        cases e
        rw [Nat.zero_add] at q
        exact q
      have xb : w9.cell? ⟨gb, k * 8 + 7, none⟩ = some (.string l.right.text) := by
        obtain ⟨b, o, e, q⟩ := HO7.out.rd (k * 8 + 7) (.string l.right.text) (by rw [List.getElem?_set_ne (by omega), List.getElem?_set_ne (by omega), List.getElem?_set_ne (by omega), List.getElem?_set_ne (by omega)]; exact flat_get (j := 7) lmC_length HGET.out (by omega))
        cases e
        rw [Nat.zero_add] at q
        exact q
      have X3a := Lib.hid xa; have X3b := Lib.hid xb
      clear xa xb y0 y1 z0 z1
      refine wp_region_ord (fun W => W.cell? ⟨w.heap.size, 2, none⟩ = some (.slice (some ⟨gb, 0, none⟩) ls.length cb) ∧ W.cell? ⟨gb, k * 8 + 6, none⟩ = some (.int .i64 l.right.kind) ∧ W.cell? ⟨gb, k * 8 + 7, none⟩ = some (.string l.right.text)) [(0, 0), (1, 1), (0, 2), (0, 3), (1, 4), (0, 5), (0, 6), (0, 7), (1, 8), (2, 9), (0, 10), (0, 11), (3, 12)] (by kernel_rfl) (by kernel_rfl) ?_
      go_wp2_with (first
        | (refine ord_pure rfl rfl rfl (fun K hK => ?_); go_big_quiet_op; refine hK _ ?_; clear hK K)
                        | (refine ord_skip rfl rfl ?_; simp only [Act.put, List.setIfInBounds_toArray, List.set_cons_zero, List.set_cons_succ])
                        | (refine ord_held rfl rfl rfl (⟨C7.out, X3a.out, X3b.out⟩) (fun K hK => ?_); apply Exists.intro; refine ⟨fun w' hs => ?_, hK _ ?_⟩; (revert hs; dsimp only; (try simp only [and_imp]); intros; go_simp; rfl); clear hK K)
                        | (refine ord_keep rfl rfl (⟨C7.out, X3a.out, X3b.out⟩) (fun K hK => ?_))
                        | (refine ord_drop rfl rfl (fun K hK => ?_))
                        | (refine ord_nil ?_))
      refine (HT3.out _).mono ?_
      rintro e w10 ⟨rfl, hM6⟩
      have hMr : Mod (fun _ => False) w9 w10 := ((Mod.refl (fun _ => False) w9).drew).trans hM6
      have hOw := HO7.out.mod hMr (fun _ _ => id)
      have y0 := hMr.cell X3a.out id
      have y1 := hMr.cell X3b.out id
      have z0 := hOw.frozen (o := k * 8 + 6) (b := gb) rfl
      have z1 := hOw.frozen (o := k * 8 + 7) (b := gb) rfl
      have hC := hMr.cell C7.out id
      refine hK _ _ ⟨hC, y0, y1⟩ ?_; clear hK K
      obtain ⟨w11, hws⟩ : ∃ v, v = (w10.setCell ⟨gb, k * 8 + 6, none⟩ (.int .i64 rk)).setCell ⟨gb, k * 8 + 7, none⟩ (.string rt) := ⟨_, rfl⟩
      have hms : Mod (fun b => b = gb) w10 w11 := by rw [hws]; exact ((Mod.refl (fun b => b = gb) w10).setCell (p := ⟨gb, k * 8 + 6, none⟩) (fun _ => rfl) _).setCell (p := ⟨gb, k * 8 + 7, none⟩) (fun _ => rfl) _
      have HO8 := Lib.hid (show Mine.Own w11 62 8 _ _ _ _ by rw [hws]; exact (hOw.store (k * 8 + 6) (.int .i64 rk)).store (k * 8 + 7) (.string rt))
      have HMS8 := Lib.hid ((hMr.mono (T := fun b => b = gb) (fun _ _ h => h.elim)).trans hms)
      have HMT8 := Lib.hid hms
      have C8 := Lib.hid (hms.cell hC (by show ¬ w.heap.size = gb; omega))
      have HWS := Lib.hid hws
      clear hMr hOw hC hms hws hM6
      have HN : Hid (RnI w11 (w.heap.size + 2) gb cb ls.length (.slice (some ⟨g1, 0, none⟩) hts.length c1) (hts.map (rnG nameB)) ((ys ++ [(rnLm nameB l, .slice (some ⟨g6, 0, none⟩) l.atom.terms.length c6)]) ++ zs)) := Lib.hid (by
        have M := (HMS6.out.trans HMS7.out).trans HMS8.out
        have hgl : gb < wr.heap.size := HOW.out.lt gb rfl
        obtain ⟨hO6, hg6⟩ := HO6t.out
        have hg6' : wr.heap.size ≤ g6 := hg6
        have hLL : ((ys ++ (l, (.slice va l.atom.terms.length vc : Value)) :: zs) ++ [((lM : Lm), (.slice none 0 0 : Value))]).length = ls.length + 1 := by
          have h1 := HYL.out
          have h2 := hlx.out.2
          simp
          omega
        have hkk : k < ((ys ++ (l, (.slice va l.atom.terms.length vc : Value)) :: zs) ++ [((lM : Lm), (.slice none 0 0 : Value))]).length := by omega
        have hgk : ((ys ++ (l, (.slice va l.atom.terms.length vc : Value)) :: zs) ++ [((lM : Lm), (.slice none 0 0 : Value))])[k] = (l, .slice va l.atom.terms.length vc) := by
          have := HGET.out
          rw [List.getElem?_eq_getElem hkk] at this
          exact Option.some.inj this
        have hset := lms_set _ k hkk l.atom.pred (l.atom.terms.map (rnG nameB)) (.slice (some ⟨g6, 0, none⟩) l.atom.terms.length c6) ⟨lk, lt⟩ ⟨rk, rt⟩
        have hrl : rnLm nameB l = ⟨l.kind, ⟨l.atom.pred, l.atom.terms.map (rnG nameB)⟩, l.op, ⟨lk, lt⟩, ⟨rk, rt⟩⟩ := by
          unfold rnLm rnAm
          rw [HLR.out.1, HLR.out.2]
        rw [hgk] at hset
        simp only at hset
        rw [← hrl] at hset
        have hO8 := HO8.out
        rw [hset] at hO8
        have hs2 : ((ys ++ (l, (.slice va l.atom.terms.length vc : Value)) :: zs) ++ [((lM : Lm), (.slice none 0 0 : Value))]).set k (rnLm nameB l, .slice (some ⟨g6, 0, none⟩) l.atom.terms.length c6) = ((ys ++ [(rnLm nameB l, .slice (some ⟨g6, 0, none⟩) l.atom.terms.length c6)]) ++ zs) ++ [((lM : Lm), (.slice none 0 0 : Value))] := by
          have h1 := HYL.out
          rw [List.append_assoc, List.set_append_right _ _ (by omega), h1, Nat.sub_self, List.cons_append, List.set_cons_zero]
          simp
        rw [hs2] at hO8
        have old : ∀ x ∈ ys ++ (l, (.slice va l.atom.terms.length vc : Value)) :: zs, TsF w11 (fun b => b ≠ gb ∧ w.heap.size + 2 ≤ b) x.2 x.1.atom.terms := fun x hx =>
          (HRI.out.each x hx).step M (fun b _ hG e => hG.1 e) (fun _ _ => id)
        refine ⟨hO8, fun x hx => ?_, HRI.out.head.step M (fun b _ hG e => hG.1 e) (fun _ _ => id)⟩
        rcases List.mem_append.1 hx with hx | hx
        · rcases List.mem_append.1 hx with hx | hx
          · exact old x (List.mem_append_left _ hx)
          · simp only [List.mem_cons, List.not_mem_nil, or_false] at hx
            subst hx
            have h6 := hO6.mod (HMT6.out.trans (HMS7.out.trans HMS8.out)) (by show ¬ g6 = gb; omega)
            have h7 := h6.f (G := fun b => b ≠ gb ∧ w.heap.size + 2 ≤ b) ⟨by omega, by omega⟩
            rw [List.length_map] at h7
            exact h7
        · exact old x (List.mem_append_right _ (List.mem_cons_of_mem _ hx)))
      have HMA := Lib.hid (hM.out.trans ((HMS6.out.trans HMS7.out).trans HMS8.out))
      have HY2 : Hid ((ys ++ [(rnLm nameB l, (.slice (some ⟨g6, 0, none⟩) l.atom.terms.length c6 : Value))]).map Prod.fst = (ls.take (k + 1)).map (rnLm nameB)) := Lib.hid (by
        rw [List.map_append, HY.out, List.take_succ_eq_append_getElem hlt, List.map_append, ← HZL.out]; rfl)
      clear hM hlx
      go_wp2_with (first
        | (refine ord_pure rfl rfl rfl (fun K hK => ?_); go_big_quiet_op; refine hK _ ?_; clear hK K)
                        | (refine ord_skip rfl rfl ?_; simp only [Act.put, List.setIfInBounds_toArray, List.set_cons_zero, List.set_cons_succ])
                        | (refine ord_held rfl rfl rfl (trivial) (fun K hK => ?_); apply Exists.intro; refine ⟨fun w' hs => ?_, hK _ ?_⟩; (revert hs; dsimp only; (try simp only [and_imp]); intros; go_simp; rfl); clear hK K)
                        | (refine ord_keep rfl rfl (trivial) (fun K hK => ?_))
                        | (refine ord_drop rfl rfl (fun K hK => ?_))
                        | (refine ord_nil ?_))
      go_roundw
      case rel => exact ⟨k + 1, by go_num, hlt, Lib.hid ⟨_, zs, by
        have h := HN.out
        rw [HWS.out] at h
        exact h, HY2.out, HZ.out⟩, Lib.hid (by
        have h := HMA.out
        rw [HWS.out] at h
        exact h)⟩
      case measure => simp [intOf]; omega
    · obtain rfl : k = ls.length := by omega
      obtain ⟨ys, zs, hR, hy, hz⟩ := hI.out
      have hzs : zs = [] := by
        rw [List.drop_length] at hz
        exact List.map_eq_nil_iff.1 hz
      subst hzs
      rw [List.append_nil] at hR
      rw [List.take_length] at hy
      have r0 := cell_at (j := 0) Q1.out rfl
      have r1 := cell_at (j := 1) Q1.out rfl
      have r2 := cell_at (j := 2) Q1.out rfl
      have g0 : wr.frozen? ⟨w.heap.size + 1, 0, none⟩ = false := frozen_at Q1.out
      have g1' : wr.frozen? ⟨w.heap.size + 1, 1, none⟩ = false := frozen_at Q1.out
      have g2' : wr.frozen? ⟨w.heap.size + 1, 2, none⟩ = false := frozen_at Q1.out
      have HRI := Lib.hid hR; have HY := Lib.hid hy
      clear hI hR hy hz
      go_wp2_with fail
      have hms : Mod (fun b => b = w.heap.size + 1) wr (((wr.setCell ⟨w.heap.size + 1, 0, none⟩ (.string pr)).setCell ⟨w.heap.size + 1, 1, none⟩ (.slice (some ⟨g1, 0, none⟩) hts.length c1)).setCell ⟨w.heap.size + 1, 2, none⟩ (.slice (some ⟨gb, 0, none⟩) ls.length cb)) := (((Mod.refl (fun b => b = w.heap.size + 1) wr).setCell (p := ⟨w.heap.size + 1, 0, none⟩) (fun _ => rfl) _).setCell (p := ⟨w.heap.size + 1, 1, none⟩) (fun _ => rfl) _).setCell (p := ⟨w.heap.size + 1, 2, none⟩) (fun _ => rfl) _
      have hb2 := heap_setCell_at (j := 2) (.slice (some ⟨gb, 0, none⟩) ls.length cb) (heap_setCell_at (j := 1) (.slice (some ⟨g1, 0, none⟩) hts.length c1) (heap_setCell_at (j := 0) (.string pr) Q1.out))
      have z0 := cell_at (j := 0) (u := .string pr) hb2 rfl
      have z1 := cell_at (j := 1) (u := .slice (some ⟨g1, 0, none⟩) hts.length c1) hb2 rfl
      have z2 := cell_at (j := 2) (u := .slice (some ⟨gb, 0, none⟩) ls.length cb) hb2 rfl
      generalize (((wr.setCell ⟨w.heap.size + 1, 0, none⟩ (.string pr)).setCell ⟨w.heap.size + 1, 1, none⟩ (.slice (some ⟨g1, 0, none⟩) hts.length c1)).setCell ⟨w.heap.size + 1, 2, none⟩ (.slice (some ⟨gb, 0, none⟩) ls.length cb)) = W at *
      have hyl : ys.length = ls.length := by
        have := congrArg List.length HY.out
        rw [List.length_map, List.length_map] at this
        exact this
      refine bodyPost_ret (v := .agg #[.string pr, .slice (some ⟨g1, 0, none⟩) hts.length c1, .slice (some ⟨gb, 0, none⟩) ls.length cb]) (by simp [results, Tryd.results47, go_sem, z0, z1, z2]) rfl
        ⟨.slice (some ⟨g1, 0, none⟩) hts.length c1, .slice (some ⟨gb, 0, none⟩) ls.length cb, rfl, ?_, ?_, ?_⟩
      · exact (HRI.out.head.step hms (fun b _ hG e => by have e' : b = w.heap.size + 1 := e; have := hG.2; omega) (fun _ _ => id)).at
      · refine ⟨some ⟨gb, 0, none⟩, cb, ys, ?_, HY.out, ?_, fun x hx => ((HRI.out.each x hx).step hms (fun b _ hG e => by have e' : b = w.heap.size + 1 := e; have := hG.2; omega) (fun _ _ => id)).at⟩
        · show _ = Value.slice _ (ls.map (rnLm nameB)).length cb
          rw [List.length_map]
        · have h1 := ((HRI.out.own.mod hms (fun b hb e => by cases hb; have e' : gb = w.heap.size + 1 := e; omega)).rd).take (ys.length * 8)
          rw [lmsC_append, List.take_left' (lmsC_length ys)] at h1
          exact h1
      · exact HMM'.out.step ((hM.out.mono (T := fun b => b = gb ∨ b = w.heap.size + 1) (fun _ _ e => .inl e)).step hms (fun i _ e => .inr e)) (fun i hi e => by omega)
end Go.Proofs.YtgplagdehfhffaaDoor
