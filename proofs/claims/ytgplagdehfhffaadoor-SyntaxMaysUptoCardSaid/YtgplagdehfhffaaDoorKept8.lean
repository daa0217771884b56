/-
  kept (08): a program that was lent is as it was, the marks too.
-/
import Derived.Test.YtgplagdehfhffaaDoorLent4
import Derived.Test.YtgplagdehfhffaaDoorLawA
namespace Go.Proofs.YtgplagdehfhffaaDoor.L8
open Go Go.RowKit Go.Mine
set_option linter.unusedVariables false
set_option maxHeartbeats 8000000
set_option maxRecDepth 100000

theorem OwnL.at {w : World} {g c : Nat} {xs : List X3} (h : OwnL w g c xs) : Rd w (some ⟨g, 0, none⟩) (lmsC (xsV xs)) := by
  have := (Mine.Own.rd h).take (xs.length * 8)
  rw [lmsC_append, List.take_left' (by simp)] at this
  exact this
theorem OwnL.mark {w : World} {g c : Nat} {xs : List X3} (h : OwnL w g c xs) : w.cell? ⟨g, xs.length * 8, none⟩ = some (.int .i64 (-72)) := by
  obtain ⟨b, o, e, q⟩ := Mine.Own.rd h (xs.length * 8) (.int .i64 (-72)) (by
    rw [lmsC_append, List.getElem?_append_right (by rw [lmsC_length, xsV_length]; exact Nat.le_refl _), lmsC_length, xsV_length, Nat.sub_self]; rfl)
  cases e
  simpa using q
theorem OwnL.cap {w : World} {g c : Nat} {xs : List X3} (h : OwnL w g c xs) : xs.length + 1 ≤ c ∧ c ≤ maxLen := by
  obtain ⟨_, _, _, _, h1, h2, _⟩ := h.2.resolve_left (by simp)
  exact ⟨h1, h2⟩
/-- a rule of one's own, as its cells say it -/
theorem OwnR.lsAt {S : Nat → Prop} {w : World} {r : Rm} {gh ch gb cb : Nat} {xs : List X3} (h : OwnR w S r gh ch gb cb xs) : LsAt w (.slice (some ⟨gb, 0, none⟩) r.body.length cb) r.body := by
  have hl : xs.length = r.body.length := by have := congrArg List.length h.hx; simpa using this
  refine ⟨_, _, xsV xs, rfl, ?_, OwnL.at h.body, ?_⟩
  · rw [← h.hx]; unfold xsV; rw [List.map_map]; rfl
  · intro x hx
    unfold xsV at hx
    obtain ⟨y, hy, rfl⟩ := List.mem_map.1 hx
    exact (h.terms y hy).at

theorem OwnR.lit {S : Nat → Prop} {w : World} {r : Rm} {gh ch gb cb : Nat} {xs : List X3} (h : OwnR w S r gh ch gb cb xs) {k : Nat} (hk : k < r.body.length) :
    ∃ g c, (r.body[k], g, c) ∈ xs ∧ (xsV xs)[k]? = some (r.body[k], .slice (some ⟨g, 0, none⟩) r.body[k].atom.terms.length c) := by
  have hl : xs.length = r.body.length := by have := congrArg List.length h.hx; simpa using this
  have hk' : k < xs.length := by omega
  have e : xs[k].1 = r.body[k] := by
    have h1 : (xs.map Prod.fst)[k]? = some xs[k].1 := by simp [hk']
    rw [h.hx, List.getElem?_eq_getElem hk] at h1
    exact (Option.some.inj h1).symm
  refine ⟨xs[k].2.1, xs[k].2.2, ?_, ?_⟩
  · rw [← e]; exact List.getElem_mem hk'
  · unfold xsV
    rw [List.getElem?_map, List.getElem?_eq_getElem hk']
    simp only [Option.map_some, x3V, e]
theorem OwnP.at {w : World} {lo : Nat} {rs : List Rm} {gp cp : Nat} {ys : List Yr} (h : OwnP w lo rs gp cp ys) : Rd w (some ⟨gp, 0, none⟩) (rmsC (ys.map yV)) := by
  have hl : ys.length = rs.length := by have := congrArg List.length h.hy; simpa using this
  have := (Mine.Own.rd h.own).take (ys.length * 3)
  rw [rmsC_append, List.take_left' (by simp)] at this
  exact this
theorem OwnP.mark {w : World} {lo : Nat} {rs : List Rm} {gp cp : Nat} {ys : List Yr} (h : OwnP w lo rs gp cp ys) : w.cell? ⟨gp, rs.length * 3, none⟩ = some (.string ⟨#[109, 97, 114, 107]⟩) := by
  have hl : ys.length = rs.length := by have := congrArg List.length h.hy; simpa using this
  obtain ⟨b, o, e, q⟩ := Mine.Own.rd h.own (rs.length * 3) (.string ⟨#[109, 97, 114, 107]⟩) (by
    rw [rmsC_append, List.getElem?_append_right (by rw [rmsC_length, List.length_map, hl]; exact Nat.le_refl _), rmsC_length, List.length_map, hl, Nat.sub_self]; rfl)
  cases e
  simpa using q
theorem OwnP.cap {w : World} {lo : Nat} {rs : List Rm} {gp cp : Nat} {ys : List Yr} (h : OwnP w lo rs gp cp ys) : rs.length + 1 ≤ cp ∧ cp ≤ maxLen := by
  obtain ⟨_, _, _, _, h1, h2, _⟩ := h.own.2.resolve_left (by simp)
  exact ⟨h1, h2⟩
theorem OwnP.rsAt {w : World} {lo : Nat} {rs : List Rm} {gp cp : Nat} {ys : List Yr} (h : OwnP w lo rs gp cp ys) : RsAt w (.slice (some ⟨gp, 0, none⟩) rs.length cp) rs := by
  refine ⟨_, _, ys.map yV, rfl, ?_, h.at, ?_⟩
  · rw [← h.hy, List.map_map]; rfl
  · intro x hx
    obtain ⟨y, hy, rfl⟩ := List.mem_map.1 hx
    exact ⟨(h.each y hy).head.at, (h.each y hy).lsAt⟩

theorem SmallRm.smR {r : Rm} (h : SmallRm r) : SmR r := ⟨h.1.2.1, h.2.1, fun l hl => (h.2.2 l hl).1.2.1⟩
theorem kept_true (rs : List Rm) (v0 : Value) (lo gp cp : Nat) (ys : List Yr) (w : World) (ho : OwnP w lo rs gp cp ys) (hr : RsAt w v0 rs) (hs : SmallPm rs) :
    Calls Tryd.prog 26 #[.agg #[.slice (some ⟨gp, 0, none⟩) rs.length cp], .agg #[v0]] w fun e w' => e = .returned (.bool true) ∧ Mod (fun _ => False) w w' := by
  obtain ⟨hsl, hss⟩ := hs
  have hyl : ys.length = rs.length := by have := congrArg List.length ho.hy; simpa using this
  obtain ⟨hcp, hcm⟩ := ho.cap
  unfold maxLen at hcm
  have HQ := Lib.hid (fun wx (m : Mod (fun _ => False) w wx) => law8Prog_true rs _ v0 wx (ho.rsAt.mod0 m) (hr.mod0 m) hsl (fun r hr => SmallRm.smR (hss r hr)))
  obtain ⟨ad, c, xv, rfl, _⟩ := hr
  have HSS := Lib.hid hss
  clear hss
  have hm0 : Mod (fun _ => False) w ((w.alloc (.cells #[.slice (some ⟨gp, 0, none⟩) rs.length cp] 26)).alloc (.cells #[.slice ad rs.length c] 26)) := ((Mod.refl _ w).alloc _).alloc _
  have p0 : ((w.alloc (.cells #[.slice (some ⟨gp, 0, none⟩) rs.length cp] 26)).alloc (.cells #[.slice ad rs.length c] 26)).cell? ⟨w.heap.size, 0, none⟩ = some (.slice (some ⟨gp, 0, none⟩) rs.length cp) := cell_old (cell_new rfl)
  have p1 : ((w.alloc (.cells #[.slice (some ⟨gp, 0, none⟩) rs.length cp] 26)).alloc (.cells #[.slice ad rs.length c] 26)).cell? ⟨w.heap.size + 1, 0, none⟩ = some (.slice ad rs.length c) := cell_new rfl (by simp)
  have HO := Lib.hid ho
  clear ho
  go_enter Tryd.func26, Tryd.ntmps26
  go_wp2_with fail
  refine (HQ.out _ hm0).mono ?_
  rintro e w2 ⟨rfl, hM1⟩
  have HP0 := Lib.hid (hM1.cell p0 id)
  have HM2 := Lib.hid (hm0.trans hM1)
  clear p0 p1 hM1 hm0 HQ
  go_wp2_with fail
  go_loopw [5] (fun iv wr => ∃ k : Nat, iv = .int .i64 k ∧ k ≤ rs.length ∧ Hid (Mod (fun _ => False) w2 wr)) (fun iv _ => rs.length - (intOf iv).toNat)
  case atStart => exact ⟨0, rfl, Nat.zero_le _, Lib.hid (Mod.refl _ w2)⟩
  case round =>
    obtain ⟨k, rfl, hk, hM⟩ := hrel
    have t1 := hM.out.cell HP0.out id
    by_cases hlt : k < rs.length
    · have hky : k < ys.length := by omega
      have hyr : ys[k].r = rs[k] := by
        have h1 : (ys.map Yr.r)[k]? = some ys[k].r := by simp [hky]
        rw [HO.out.hy, List.getElem?_eq_getElem hlt] at h1
        exact (Option.some.inj h1).symm
      have hyg : (ys.map yV)[k]? = some (ys[k].r, .slice (some ⟨ys[k].gh, 0, none⟩) ys[k].r.head.terms.length ys[k].ch, .slice (some ⟨ys[k].gb, 0, none⟩) ys[k].r.body.length ys[k].cb) := by
        rw [List.getElem?_map, List.getElem?_eq_getElem hky]; rfl
      have HOr := Lib.hid (HO.out.mod (HM2.out.trans hM.out) (fun _ _ => id))
      obtain ⟨b1, o1, e1, y0, y1, y2⟩ := rd_cellR HOr.out.at hyg
      cases e1
      simp only [Nat.zero_add] at y0 y1 y2
      have hsm := HSS.out _ (List.getElem_mem hlt)
      have hoy : OwnY wr ys[k] := HOr.out.each _ (List.getElem_mem hky)
      clear HOr
      generalize ys[k] = y at *
      obtain ⟨yr, gh, ch, gb, cb, xs, ylo, yhi⟩ := y
      simp only at hyr y0 y1 y2 hyg
      unfold OwnY at hoy
      simp only at hoy
      subst hyr
      clear hyg
      generalize rs[k] = t at *
      obtain ⟨⟨pr, hts⟩, ls⟩ := t
      simp only at y0 y1 y2
      have hn1 : hts.length < 2 ^ 30 := hsm.1.2.1
      have hn2 : ls.length < 2 ^ 30 := hsm.2.1
      have HN3 : Hid (∀ l ∈ ls, l.atom.terms.length < 2 ^ 30) := fun l hl => (hsm.2.2 l hl).1.2.1
      have hl : xs.length = ls.length := by have := congrArg List.length hoy.hx; simpa using this
      have hmk := OwnL.mark hoy.body
      have hcb := OwnL.cap hoy.body
      rw [hl] at hmk hcb
      obtain ⟨hcb, hcbm⟩ := hcb
      unfold maxLen at hcbm
      have hma : Mod (fun _ => False) wr (wr.alloc (.cells #[.string pr, .slice (some ⟨gh, 0, none⟩) hts.length ch, .slice (some ⟨gb, 0, none⟩) ls.length cb] 40)) := (Mod.refl _ wr).alloc _
      have hb := heap_alloc_new wr (.cells #[.string pr, .slice (some ⟨gh, 0, none⟩) hts.length ch, .slice (some ⟨gb, 0, none⟩) ls.length cb] 40)
      have HB := Lib.hid hb
      have HT := Lib.hid (markAtom_true pr hts gh ch _ (hoy.head.mod hma id) hn1)
      have HMA := Lib.hid (hM.out.trans hma)
      have HMK := Lib.hid (hma.cell hmk id)
      have HOY := Lib.hid (hoy.mod hma (fun _ _ => id))
      clear hsm hoy hmk hma hb
      go_wp2_with fail
      generalize (wr.alloc (.cells #[.string pr, .slice (some ⟨gh, 0, none⟩) hts.length ch, .slice (some ⟨gb, 0, none⟩) ls.length cb] 40)) = wa at *
      refine HT.out.mono ?_
      rintro e wb ⟨rfl, hMb⟩
      have hbb := hMb.at HB.out id
      have x2 := cell_at (j := 2) hbb rfl
      have x3 := hMb.cell HMK.out id
      have HBB := Lib.hid hbb
      have HMB := Lib.hid (HMA.out.trans hMb)
      have HOB := Lib.hid (HOY.out.mod hMb (fun _ _ => id))
      clear hMb hbb HT HMA HB HMK HOY
      go_wp2_with fail
      clear x2 x3
      go_loopw [8] (fun iv ws => ∃ j : Nat, iv = .int .i64 j ∧ j ≤ ls.length ∧ Hid (Mod (fun _ => False) wb ws)) (fun iv _ => ls.length - (intOf iv).toNat)
      case atStart => exact ⟨0, rfl, Nat.zero_le _, Lib.hid (Mod.refl _ wb)⟩
      case round =>
        obtain ⟨j, rfl, hj, hMj⟩ := hrel
        have x2 := cell_at (j := 2) (hMj.out.at HBB.out id) rfl
        by_cases hlj : j < ls.length
        · obtain ⟨g, cg, hmem, hget⟩ := HOB.out.lit (k := j) hlj
          obtain ⟨b1, o1, e1, z0, z1, z2, z3, z4, z5, z6, z7⟩ := rd_cell8 ((OwnL.at HOB.out.body).mod hMj.out (fun _ _ => id)) hget
          cases e1
          simp only [Nat.zero_add] at z1 z2
          have HT := Lib.hid (markAtom_true ls[j].atom.pred ls[j].atom.terms g cg wr ((HOB.out.terms _ hmem).mod hMj.out id) (HN3.out _ (List.getElem_mem hlj)))
          clear z0 z3 z4 z5 z6 z7 hget hmem
          generalize ls[j] = t at *
          go_wp2_with fail
          refine HT.out.mono ?_
          rintro e w3 ⟨rfl, hM3⟩
          have HM3 := Lib.hid (hMj.out.trans hM3); clear hM3 HT
          go_wp2_with fail
          go_roundw
          case rel => exact ⟨j + 1, by go_num, hlj, HM3⟩
          case measure => simp [intOf]; omega
        · obtain rfl : j = ls.length := by omega
          go_wp2_with fail
          go_roundw
          case rel => exact ⟨k + 1, by go_num, hlt, Lib.hid (HMB.out.trans hMj.out)⟩
          case measure => simp [intOf]; omega
    · obtain rfl : k = rs.length := by omega
      have x3 := (HM2.out.trans hM.out).cell HO.out.mark id
      go_wp2_with fail
      go_ret
      exact ⟨rfl, HM2.out.trans hM.out⟩
end Go.Proofs.YtgplagdehfhffaaDoor.L8
