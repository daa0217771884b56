/-
  marked: the mark behind one's own terms; num.
-/
import Derived.Test.YtphgglnkdfndiaaDoorOwG
import Derived.Test.YtphgglnkdfndiaaDoorSame
namespace Go.Proofs.YtphgglnkdfndiaaDoor
open Go Go.RowKit Go.Mine
set_option linter.unusedVariables false
set_option maxHeartbeats 4000000
set_option maxRecDepth 100000

theorem marked_true (p : ByteArray) (ts : List Tm) (g c : Nat) (w : World) (h : OwnT w g c ts) (hn : ts.length < 2 ^ 30) :
    Calls Tryd.prog 49 #[.agg #[.string p, .slice (some ⟨g, 0, none⟩) ts.length c]] w fun e w' => e = .returned (.bool true) ∧ Mod (fun _ => False) w w' := by
  obtain ⟨hc, hcm⟩ := h.cap
  have hm0 : Mod (fun _ => False) w (w.alloc (.cells #[.string p, .slice (some ⟨g, 0, none⟩) ts.length c] 35)) := (Mod.refl _ w).alloc _
  have hk : (w.alloc (.cells #[.string p, .slice (some ⟨g, 0, none⟩) ts.length c] 35)).cell? ⟨g, ts.length * 2, none⟩ = some (.int .i64 (-77)) := cell_old h.mark
  have d1 : (w.alloc (.cells #[.string p, .slice (some ⟨g, 0, none⟩) ts.length c] 35)).cell? ⟨w.heap.size, 1, none⟩ = some (.slice (some ⟨g, 0, none⟩) ts.length c) := cell_new rfl
  unfold maxLen at hcm
  have hlt : ts.length < c := by omega
  have HM0 := Lib.hid hm0
  clear h
  go_enter Tryd.func49, Tryd.ntmps49
  go_wp2_with fail
  generalize (w.alloc (.cells #[.string p, .slice (some ⟨g, 0, none⟩) ts.length c] 35)) = w0 at *
  go_ret
  exact ⟨rfl, HM0.out⟩
end Go.Proofs.YtphgglnkdfndiaaDoor
/-
  kept: a rule of one's own is as that one is, the marks too; then its lists are written over.
-/
namespace Go.Proofs.YtphgglnkdfndiaaDoor
open Go Go.RowKit Go.Mine
set_option linter.unusedVariables false
set_option maxHeartbeats 8000000
set_option maxRecDepth 100000

/-- a block with room for so many cells -/
def Room (w : World) (g n : Nat) : Prop := ∃ cur e, w.heap[g]? = some (.cells cur e (0, 0)) ∧ n ≤ cur.size
theorem Room.mod {S : Nat → Prop} {w w' : World} {g n : Nat} (h : Room w g n) (m : Mod S w w') (hs : ¬ S g) : Room w' g n := by
  obtain ⟨cur, e, hg, hn⟩ := h
  exact ⟨cur, e, m.at hg hs, hn⟩
theorem Room.set {w : World} {g n : Nat} (h : Room w g n) (b j : Nat) (u : Value) : Room (w.setCell ⟨b, j, none⟩ u) g n := by
  obtain ⟨cur, e, hg, hn⟩ := h
  by_cases hb : b = g
  · subst hb; exact ⟨_, e, heap_setCell_at u hg, by simpa using hn⟩
  · exact ⟨cur, e, ((Mod.refl (fun k => k = b) w).setCell (p := ⟨b, j, none⟩) (fun _ => rfl) u).at hg (fun e => hb e.symm), hn⟩
theorem Room.frozen {w : World} {g n : Nat} (h : Room w g n) (j : Nat) : w.frozen? ⟨g, j, none⟩ = false := by
  obtain ⟨cur, e, hg, hn⟩ := h
  exact frozen_at hg
theorem Room.cell {w : World} {g n : Nat} (h : Room w g n) {j : Nat} (hj : j < n) : ∃ u, w.cell? ⟨g, j, none⟩ = some u := by
  obtain ⟨cur, e, hg, hn⟩ := h
  exact ⟨cur[j]'(by omega), cell_at hg (Array.getElem?_eq_getElem (by omega))⟩
theorem own_room {w : World} {e : TypeId} {k n c g : Nat} {xs : List Value} (h : Mine.Own w e k (some ⟨g, 0, none⟩) n c xs) : Room w g (n * k) := by
  obtain ⟨b, cur, e', hg, hn, _, hs, _⟩ := h.2.resolve_left (by simp)
  cases e'
  exact ⟨cur, e, hg, by rw [hs]; exact Nat.mul_le_mul_right _ hn⟩
theorem OwnL.at {w : World} {g c : Nat} {xs : List X3} (h : OwnL w g c xs) : Rd w (some ⟨g, 0, none⟩) (lmsC (xsV xs)) := by
  have := (Mine.Own.rd h).take (xs.length * 8)
  rw [lmsC_append, List.take_left' (by simp)] at this
  exact this
theorem OwnL.mark {w : World} {g c : Nat} {xs : List X3} (h : OwnL w g c xs) : w.cell? ⟨g, xs.length * 8, none⟩ = some (.int .i64 (-77)) := by
  obtain ⟨b, o, e, q⟩ := Mine.Own.rd h (xs.length * 8) (.int .i64 (-77)) (by
    rw [lmsC_append, List.getElem?_append_right (by rw [lmsC_length, xsV_length]; exact Nat.le_refl _), lmsC_length, xsV_length, Nat.sub_self]; rfl)
  cases e
  simpa using q
theorem OwnL.cap {w : World} {g c : Nat} {xs : List X3} (h : OwnL w g c xs) : xs.length + 1 ≤ c ∧ c ≤ maxLen := by
  obtain ⟨_, _, _, _, h1, h2, _⟩ := h.2.resolve_left (by simp)
  exact ⟨h1, h2⟩
/-- a rule of one's own, as its cells say it -/
theorem OwnR.lsAt {S : Nat → Prop} {w : World} {r : Rm} {gh ch gb cb : Nat} {xs : List X3} (h : OwnR w S r gh ch gb cb xs) : LsAt w (.slice (some ⟨gb, 0, none⟩) r.body.length cb) r.body := by
  have hl : xs.length = r.body.length := by have := congrArg List.length h.hx; simpa using this
  refine ⟨_, _, xsV xs, rfl, ?_, OwnL.at h.body, ?_⟩
  · rw [← h.hx]; unfold xsV; rw [List.map_map]; rfl
  · intro x hx
    unfold xsV at hx
    obtain ⟨y, hy, rfl⟩ := List.mem_map.1 hx
    exact (h.terms y hy).at

theorem OwnR.lit {S : Nat → Prop} {w : World} {r : Rm} {gh ch gb cb : Nat} {xs : List X3} (h : OwnR w S r gh ch gb cb xs) {k : Nat} (hk : k < r.body.length) :
    ∃ g c, (r.body[k], g, c) ∈ xs ∧ (xsV xs)[k]? = some (r.body[k], .slice (some ⟨g, 0, none⟩) r.body[k].atom.terms.length c) := by
  have hl : xs.length = r.body.length := by have := congrArg List.length h.hx; simpa using this
  have hk' : k < xs.length := by omega
  have e : xs[k].1 = r.body[k] := by
    have h1 : (xs.map Prod.fst)[k]? = some xs[k].1 := by simp [hk']
    rw [h.hx, List.getElem?_eq_getElem hk] at h1
    exact (Option.some.inj h1).symm
  refine ⟨xs[k].2.1, xs[k].2.2, ?_, ?_⟩
  · rw [← e]; exact List.getElem_mem hk'
  · unfold xsV
    rw [List.getElem?_map, List.getElem?_eq_getElem hk']
    simp only [Option.map_some, x3V, e]
theorem OwnR.blkLt {S : Nat → Prop} {w : World} {r : Rm} {gh ch gb cb : Nat} {xs : List X3} (h : OwnR w S r gh ch gb cb xs) : ∀ b ∈ gh :: gb :: blks xs, b < w.heap.size := by
  intro b hb
  rcases List.mem_cons.1 hb with rfl | hb
  · exact h.head.lt
  · rcases List.mem_cons.1 hb with rfl | hb
    · exact Mine.Own.lt h.body b rfl
    · obtain ⟨x, hx, rfl⟩ := List.mem_map.1 hb
      exact (h.terms x hx).lt
theorem set_far {w : World} {g i j : Nat} (u : Value) (h : i ≠ j) : (w.setCell ⟨g, i, none⟩ u).cell? ⟨g, j, none⟩ = w.cell? ⟨g, j, none⟩ :=
  World.cell?_setCell_other _ _ _ _ (fun e => h (congrArg Addr.off e))

theorem kept_true (S : Nat → Prop) (r : Rm) (s2 b2 : Value) (gh ch gb cb : Nat) (xs : List X3) (w : World) (ho : OwnR w S r gh ch gb cb xs) (h2 : TsAt w s2 r.head.terms) (g2 : LsAt w b2 r.body)
    (hn1 : r.head.terms.length < 2 ^ 30) (hn2 : r.body.length < 2 ^ 30) (hn3 : ∀ l ∈ r.body, l.atom.terms.length < 2 ^ 30) :
    Calls Tryd.prog 26 #[rmV r (.slice (some ⟨gh, 0, none⟩) r.head.terms.length ch) (.slice (some ⟨gb, 0, none⟩) r.body.length cb), rmV r s2 b2] w fun e w' => e = .returned (.bool true) ∧ Mod S w w' := by
  have hl : xs.length = r.body.length := by have := congrArg List.length ho.hx; simpa using this
  obtain ⟨⟨pr, hts⟩, ls⟩ := r
  unfold rmV
  simp only at *
  have hlen2 : ∃ d2 k2, b2 = .slice d2 ls.length k2 := by obtain ⟨d2, k2, _, e, _⟩ := g2; exact ⟨d2, k2, e⟩
  have HSM := Lib.hid (fun wx (m : Mod (fun _ => False) w wx) => Same_true ⟨⟨pr, hts⟩, ls⟩ _ s2 _ b2 wx (ho.head.at.mod0 m) (h2.mod0 m) (ho.lsAt.mod0 m) (g2.mod0 m) hn1 hn2 hn3)
  unfold rmV at HSM
  simp only at HSM
  obtain ⟨d2, k2, rfl⟩ := hlen2
  obtain ⟨a2, c2, rfl, _⟩ := h2
  have hcb := OwnL.cap ho.body
  have hmk := OwnL.mark ho.body
  rw [hl] at hmk hcb
  obtain ⟨hcb, hcm⟩ := hcb
  unfold maxLen at hcm
  have hle : ¬ cb ≤ ls.length := by omega
  have hm0 : Mod (fun _ => False) w ((w.alloc (.cells #[.string pr, .slice (some ⟨gh, 0, none⟩) hts.length ch, .slice (some ⟨gb, 0, none⟩) ls.length cb] 38)).alloc (.cells #[.string pr, .slice a2 hts.length c2, .slice d2 ls.length k2] 38)) := ((Mod.refl _ w).alloc _).alloc _
  have p0 : ((w.alloc (.cells #[.string pr, .slice (some ⟨gh, 0, none⟩) hts.length ch, .slice (some ⟨gb, 0, none⟩) ls.length cb] 38)).alloc (.cells #[.string pr, .slice a2 hts.length c2, .slice d2 ls.length k2] 38)).cell? ⟨w.heap.size, 0, none⟩ = some (.string pr) := cell_old (cell_new rfl)
  have p1 : ((w.alloc (.cells #[.string pr, .slice (some ⟨gh, 0, none⟩) hts.length ch, .slice (some ⟨gb, 0, none⟩) ls.length cb] 38)).alloc (.cells #[.string pr, .slice a2 hts.length c2, .slice d2 ls.length k2] 38)).cell? ⟨w.heap.size, 1, none⟩ = some (.slice (some ⟨gh, 0, none⟩) hts.length ch) := cell_old (cell_new rfl)
  have p2 : ((w.alloc (.cells #[.string pr, .slice (some ⟨gh, 0, none⟩) hts.length ch, .slice (some ⟨gb, 0, none⟩) ls.length cb] 38)).alloc (.cells #[.string pr, .slice a2 hts.length c2, .slice d2 ls.length k2] 38)).cell? ⟨w.heap.size, 2, none⟩ = some (.slice (some ⟨gb, 0, none⟩) ls.length cb) := cell_old (cell_new rfl)
  have HO := Lib.hid ho
  have HN3 := Lib.hid hn3
  have HMK := Lib.hid hmk
  clear ho hn3 hmk g2
  go_enter Tryd.func26, Tryd.ntmps26
  go_wp2_with fail
  refine (HSM.out _ hm0).mono ?_
  rintro e w1 ⟨rfl, hM1⟩
  have HP0 := Lib.hid (hM1.cell p0 id)
  have HP1 := Lib.hid (hM1.cell p1 id)
  have HP2 := Lib.hid (hM1.cell p2 id)
  have HM1 := Lib.hid (hm0.trans hM1)
  clear hM1 hm0 p0 p1 p2 HSM
  have HT := Lib.hid (marked_true pr hts gh ch w1 (HO.out.head.mod HM1.out id) hn1)
  have t0 := HP0.out; have t1 := HP1.out
  go_wp2_with fail
  refine HT.out.mono ?_
  rintro e w2 ⟨rfl, hM2⟩
  have HM2 := Lib.hid (HM1.out.trans hM2)
  have HQ0 := Lib.hid (hM2.cell HP0.out id)
  have HQ1 := Lib.hid (hM2.cell HP1.out id)
  have HQ2 := Lib.hid (hM2.cell HP2.out id)
  clear hM2 HT HP0 HP1 HP2 HM1
  clear t0 t1
  have t2 := HQ2.out
  have t3 := HM2.out.cell HMK.out id
  clear HMK
  go_wp2_with fail
  clear t2 t3
  go_loopw [6] (fun iv wr => ∃ k : Nat, iv = .int .i64 k ∧ k ≤ ls.length ∧ Hid (Mod (fun _ => False) w2 wr)) (fun iv _ => ls.length - (intOf iv).toNat)
  case atStart => exact ⟨0, rfl, Nat.zero_le _, Lib.hid (Mod.refl _ w2)⟩
  case round =>
    obtain ⟨k, rfl, hk, hM⟩ := hrel
    have t2 := hM.out.cell HQ2.out id
    by_cases hlt : k < ls.length
    · obtain ⟨g, c, hmem, hget⟩ := HO.out.lit hlt
      obtain ⟨b1, o1, e1, x0, x1, x2, x3, x4, x5, x6, x7⟩ := rd_cell8 ((OwnL.at HO.out.body).mod (HM2.out.trans hM.out) (fun _ _ => id)) hget
      cases e1
      have HT := Lib.hid (marked_true ls[k].atom.pred ls[k].atom.terms g c wr ((HO.out.terms _ hmem).mod (HM2.out.trans hM.out) id) (HN3.out _ (List.getElem_mem hlt)))
      simp only [Nat.zero_add] at x0 x1 x2
      clear x3 x4 x5 x6 x7 hget hmem
      generalize ls[k] = t at *
      go_wp2_with fail
      refine HT.out.mono ?_
      rintro e w3 ⟨rfl, hM3⟩
      have HM3 := Lib.hid (hM.out.trans hM3); clear hM3 HT
      go_wp2_with fail
      go_roundw
      case rel => exact ⟨k + 1, by go_num, hlt, HM3⟩
      case measure => simp [intOf]; omega
    · obtain rfl : k = ls.length := by omega
      go_wp2_with fail
      have HM3 := Lib.hid (HM2.out.trans hM.out)
      have HB0 := Lib.hid (hM.out.cell HQ1.out id)
      have HB1 := Lib.hid (hM.out.cell HQ2.out id)
      have HO3 := Lib.hid (HO.out.mod (HM2.out.trans hM.out) (fun _ _ => id))
      have HLT := Lib.hid HO.out.blkLt
      clear HQ0 HQ1 HQ2 HM2 HO t2 hM
      generalize wr = wa at *
      go_loopw [7] (fun iv ws => ∃ k : Nat, iv = .int .i64 k ∧ k ≤ hts.length ∧ Hid (Mod (fun b => b = gh) wa ws) ∧ Hid (Room ws gh ((hts.length + 1) * 2))) (fun iv _ => hts.length - (intOf iv).toNat)
      case atStart => exact ⟨0, rfl, Nat.zero_le _, Lib.hid (Mod.refl _ wa), Lib.hid (own_room HO3.out.head)⟩
      case round =>
        obtain ⟨k, rfl, hk, hM5, hR5⟩ := hrel
        have hgh : gh < w.heap.size := HLT.out gh (List.mem_cons_self ..)
        have t2 := hM5.out.cell HB0.out (by simp; omega)
        by_cases hlt : k < hts.length
        · obtain ⟨u0, y0⟩ := hR5.out.cell (j := k * 2) (by omega)
          obtain ⟨u1, y1⟩ := hR5.out.cell (j := k * 2 + 1) (by omega)
          have f0 := hR5.out.frozen (k * 2)
          have f1 := hR5.out.frozen (k * 2 + 1)
          go_wp2_with fail
          go_roundw
          case rel => exact ⟨k + 1, by go_num, hlt, Lib.hid ((hM5.out.setCell (fun _ => rfl) _).setCell (fun _ => rfl) _), Lib.hid ((hR5.out.set _ _ _).set _ _ _)⟩
          case measure => simp [intOf]; omega
        · obtain rfl : k = hts.length := by omega
          have t3 := hM5.out.cell HB1.out (by simp; omega)
          go_wp2_with fail
          have HM6 : Hid (Mod (fun b => b ∈ gh :: gb :: blks xs) w wr) := Lib.hid ((HM3.out.mono (fun _ _ h => h.elim)).step hM5.out (fun i _ e => by rw [e]; exact List.mem_cons_self ..))
          have hnd := HO3.out.nd
          have hgb : gb ≠ gh := fun e => by
            rw [List.nodup_cons] at hnd
            exact hnd.1 (by rw [← e]; exact List.mem_cons_self ..)
          have hgx : ∀ x ∈ xs, x.2.1 ≠ gh ∧ x.2.1 ≠ gb := fun x hx => by
            rw [List.nodup_cons, List.nodup_cons] at hnd
            have hb : x.2.1 ∈ blks xs := List.mem_map.2 ⟨x, hx, rfl⟩
            exact ⟨fun e => hnd.1 (by rw [← e]; exact List.mem_cons_of_mem _ hb), fun e => hnd.2.1 (by rw [← e]; exact hb)⟩
          have HL := Lib.hid (Mine.Own.mod HO3.out.body hM5.out (fun b hb e => by cases hb; exact hgb e))
          have HR := Lib.hid (own_room HL.out)
          have HRX : Hid (∀ x ∈ xs, Room wr x.2.1 ((x.1.atom.terms.length + 1) * 2)) := Lib.hid (fun x hx => own_room ((HO3.out.terms x hx).mod hM5.out (hgx x hx).1))
          have HB2 := Lib.hid t3
          have HGX := Lib.hid hgx
          rw [hl] at HR
          have HLIT : Hid (∀ (k : Nat) (hk : k < ls.length), ∃ g c, (ls[k], g, c) ∈ xs ∧ (xsV xs)[k]? = some (ls[k], .slice (some ⟨g, 0, none⟩) ls[k].atom.terms.length c)) := Lib.hid (fun k hk => HO3.out.lit hk)
          have HS := Lib.hid HO3.out.inS
          clear HB0 HB1 HM3 hM5 hR5 hnd hgb hgx t3 t2 HO3
          generalize wr = wb at *
          go_loopw [8] (fun iv ws => ∃ k : Nat, iv = .int .i64 k ∧ k ≤ ls.length ∧ Hid (Mod (fun b => b ∈ gh :: gb :: blks xs) wb ws) ∧ Hid (Room ws gb ((ls.length + 1) * 8)) ∧
            Hid (∀ x ∈ xs, Room ws x.2.1 ((x.1.atom.terms.length + 1) * 2)) ∧ Hid (∀ j, k * 8 ≤ j → ws.cell? ⟨gb, j, none⟩ = wb.cell? ⟨gb, j, none⟩)) (fun iv _ => ls.length - (intOf iv).toNat)
          case atStart => exact ⟨0, rfl, Nat.zero_le _, Lib.hid (Mod.refl _ wb), HR, HRX, Lib.hid (fun _ _ => rfl)⟩
          case round =>
            obtain ⟨k, rfl, hk, hM7, hR7, hX7, hC7⟩ := hrel
            have t2 := hM7.out.cell HB2.out (fun h => Nat.lt_irrefl _ (HLT.out _ h))
            by_cases hlt : k < ls.length
            · obtain ⟨g, c, hmem, hget⟩ := HLIT.out k hlt
              obtain ⟨b1, o1, e1, x0, x1, x2, x3, x4, x5, x6, x7⟩ := rd_cell8 (OwnL.at HL.out) hget
              cases e1
              simp only [Nat.zero_add] at x2
              clear x0 x1 x3 x4 x5 x6 x7 hget
              have x2' : wr.cell? ⟨gb, k * 8 + 2, none⟩ = _ := (hC7.out (k * 8 + 2) (by omega)).trans x2
              clear x2
              have HX2 := Lib.hid x2'
              have HT2 := Lib.hid t2
              have hgne := HGX.out _ hmem
              have HMEM := Lib.hid hmem
              have htn := HN3.out _ (List.getElem_mem hlt)
              have hgm : g ∈ blks xs := List.mem_map.2 ⟨_, hmem, rfl⟩
              have HGM := Lib.hid hgm
              simp only at hgne
              generalize ls[k] = t at *
              go_wp2_with fail
              generalize wr = wc at *
              go_loopw [9] (fun iv ws => ∃ j : Nat, iv = .int .i64 j ∧ j ≤ t.atom.terms.length ∧ Hid (Mod (fun b => b = g) wc ws) ∧ Hid (∀ x ∈ xs, Room ws x.2.1 ((x.1.atom.terms.length + 1) * 2))) (fun iv _ => t.atom.terms.length - (intOf iv).toNat)
              case atStart => exact ⟨0, rfl, Nat.zero_le _, Lib.hid (Mod.refl _ wc), hX7⟩
              case round =>
                obtain ⟨j, rfl, hj, hM8, hX8⟩ := hrel
                have hR8 := Lib.hid (hX8.out _ HMEM.out)
                simp only at hR8
                have hgl : g < w.heap.size := HLT.out g (List.mem_cons_of_mem _ (List.mem_cons_of_mem _ HGM.out))
                have t2 := hM8.out.cell HT2.out (by simp; omega)
                have x2 := hM8.out.cell HX2.out (fun e => hgne.2 e.symm)
                by_cases hlj : j < t.atom.terms.length
                · obtain ⟨u0, y0⟩ := hR8.out.cell (j := j * 2) (by omega)
                  obtain ⟨u1, y1⟩ := hR8.out.cell (j := j * 2 + 1) (by omega)
                  have f0 := hR8.out.frozen (j * 2)
                  have f1 := hR8.out.frozen (j * 2 + 1)
                  go_wp2_with fail
                  go_roundw
                  case rel => exact ⟨j + 1, by go_num, hlj, Lib.hid ((hM8.out.setCell (fun _ => rfl) _).setCell (fun _ => rfl) _), Lib.hid (fun x hx => ((hX8.out x hx).set _ _ _).set _ _ _)⟩
                  case measure => simp [intOf]; omega
                · obtain rfl : j = t.atom.terms.length := by omega
                  have hR9 := hR7.out.mod hM8.out (fun e => hgne.2 e.symm)
                  have HR9 := Lib.hid hR9
                  have HM9 : Hid (Mod (fun b => b ∈ gh :: gb :: blks xs) wb wr) := Lib.hid (hM7.out.step hM8.out (fun i _ e => by rw [e]; exact List.mem_cons_of_mem _ (List.mem_cons_of_mem _ HGM.out)))
                  have HC9 : Hid (∀ j, k * 8 ≤ j → wr.cell? ⟨gb, j, none⟩ = wb.cell? ⟨gb, j, none⟩) := Lib.hid (fun j hj => (World.cell?_of_block (hM8.out.block gb (by obtain ⟨_, _, h, _⟩ := hR7.out; exact (Array.getElem?_eq_some_iff.1 h).1) (fun e => hgne.2 e.symm))).trans (hC7.out j hj))
                  obtain ⟨u0, y0⟩ := hR9.cell (j := k * 8) (by omega)
                  obtain ⟨u1, y1⟩ := hR9.cell (j := k * 8 + 1) (by omega)
                  obtain ⟨u2, y2⟩ := hR9.cell (j := k * 8 + 2) (by omega)
                  obtain ⟨u3, y3⟩ := hR9.cell (j := k * 8 + 3) (by omega)
                  obtain ⟨u4, y4⟩ := hR9.cell (j := k * 8 + 4) (by omega)
                  obtain ⟨u5, y5⟩ := hR9.cell (j := k * 8 + 5) (by omega)
                  obtain ⟨u6, y6⟩ := hR9.cell (j := k * 8 + 6) (by omega)
                  obtain ⟨u7, y7⟩ := hR9.cell (j := k * 8 + 7) (by omega)
                  have f0 := hR9.frozen (k * 8)
                  have f1 := hR9.frozen (k * 8 + 1)
                  have f2 := hR9.frozen (k * 8 + 2)
                  have f3 := hR9.frozen (k * 8 + 3)
                  have f4 := hR9.frozen (k * 8 + 4)
                  have f5 := hR9.frozen (k * 8 + 5)
                  have f6 := hR9.frozen (k * 8 + 6)
                  have f7 := hR9.frozen (k * 8 + 7)
                  go_wp2_with fail
                  go_roundw
                  case rel =>
                    refine ⟨k + 1, by go_num, hlt, Lib.hid ?_, Lib.hid ?_, Lib.hid ?_, Lib.hid ?_⟩
                    · have hg : gb ∈ gh :: gb :: blks xs := List.mem_cons_of_mem _ (List.mem_cons_self ..)
                      repeat refine Mod.setCell ?_ (fun _ => hg) _
                      exact HM9.out
                    · repeat refine Room.set ?_ _ _ _
                      exact HR9.out
                    · intro x hx
                      repeat refine Room.set ?_ _ _ _
                      exact hX8.out x hx
                    · intro j hj
                      repeat rw [set_far _ (by omega)]
                      exact HC9.out j (by omega)
                  case measure => simp [intOf]; omega
            · obtain rfl : k = ls.length := by omega
              go_wp2_with fail
              go_ret
              exact ⟨rfl, (HM6.out.trans hM7.out).mono (fun b _ hb => HS.out b hb)⟩
end Go.Proofs.YtphgglnkdfndiaaDoor
/-
  keptProgram: a program of one's own is as that one is; then its rules' lists are written over.
-/
namespace Go.Proofs.YtphgglnkdfndiaaDoor
open Go Go.RowKit Go.Mine
set_option linter.unusedVariables false
set_option maxHeartbeats 8000000
set_option maxRecDepth 100000

theorem OwnR.both {S T : Nat → Prop} {w : World} {r : Rm} {gh ch gb cb : Nat} {xs : List X3} (h : OwnR w S r gh ch gb cb xs) (n : Nat) (hn : w.heap.size ≤ n ∨ ∀ b ∈ gh :: gb :: blks xs, b < n) :
    OwnR w (fun b => S b ∧ b < n) r gh ch gb cb xs :=
  ⟨h.hx, h.head, h.body, h.terms, h.nd, fun b hb => ⟨h.inS b hb, by
    rcases hn with hn | hn
    · have := h.blkLt b hb; omega
    · exact hn b hb⟩⟩
theorem OwnP.at {w : World} {lo : Nat} {rs : List Rm} {gp cp : Nat} {ys : List Yr} (h : OwnP w lo rs gp cp ys) : Rd w (some ⟨gp, 0, none⟩) (rmsC (ys.map yV)) := by
  have hl : ys.length = rs.length := by have := congrArg List.length h.hy; simpa using this
  have := (Mine.Own.rd h.own).take (ys.length * 3)
  rw [rmsC_append, List.take_left' (by simp)] at this
  exact this
theorem OwnP.mark {w : World} {lo : Nat} {rs : List Rm} {gp cp : Nat} {ys : List Yr} (h : OwnP w lo rs gp cp ys) : w.cell? ⟨gp, rs.length * 3, none⟩ = some (.string ⟨#[60, 109, 97, 114, 107, 62]⟩) := by
  have hl : ys.length = rs.length := by have := congrArg List.length h.hy; simpa using this
  obtain ⟨b, o, e, q⟩ := Mine.Own.rd h.own (rs.length * 3) (.string ⟨#[60, 109, 97, 114, 107, 62]⟩) (by
    rw [rmsC_append, List.getElem?_append_right (by rw [rmsC_length, List.length_map, hl]; exact Nat.le_refl _), rmsC_length, List.length_map, hl, Nat.sub_self]; rfl)
  cases e
  simpa using q
theorem OwnP.cap {w : World} {lo : Nat} {rs : List Rm} {gp cp : Nat} {ys : List Yr} (h : OwnP w lo rs gp cp ys) : rs.length + 1 ≤ cp ∧ cp ≤ maxLen := by
  obtain ⟨_, _, _, _, h1, h2, _⟩ := h.own.2.resolve_left (by simp)
  exact ⟨h1, h2⟩
theorem keptProgram_true (rs : List Rm) (v0 : Value) (lo gp cp : Nat) (ys : List Yr) (w0 w : World) (hM0 : Mod (fun _ => False) w0 w) (hlo : w0.heap.size ≤ lo) (ho : OwnP w lo rs gp cp ys) (hr : RsAt w0 v0 rs) (hs : SmallPm rs) :
    Calls Tryd.prog 11 #[.agg #[.slice (some ⟨gp, 0, none⟩) rs.length cp], .agg #[v0]] w fun e w' => e = .returned (.bool true) ∧ Mod (fun b => lo ≤ b) w w' := by
  obtain ⟨hsl, hss⟩ := hs
  obtain ⟨ad, c, xv, rfl, hx, hrx, hxt⟩ := hr
  have hyl : ys.length = rs.length := by have := congrArg List.length ho.hy; simpa using this
  obtain ⟨hcp, hcm⟩ := ho.cap
  unfold maxLen at hcm
  have hle : ¬ cp ≤ rs.length := by omega
  have HR := Lib.hid hrx; have HX := Lib.hid hx; have HXT := Lib.hid hxt; have HSS := Lib.hid hss
  clear hrx hx hxt hss
  have hm0 : Mod (fun _ => False) w ((w.alloc (.cells #[.slice (some ⟨gp, 0, none⟩) rs.length cp] 24)).alloc (.cells #[.slice ad rs.length c] 24)) := ((Mod.refl _ w).alloc _).alloc _
  have p0 : ((w.alloc (.cells #[.slice (some ⟨gp, 0, none⟩) rs.length cp] 24)).alloc (.cells #[.slice ad rs.length c] 24)).cell? ⟨w.heap.size, 0, none⟩ = some (.slice (some ⟨gp, 0, none⟩) rs.length cp) := cell_old (cell_new rfl)
  have p1 : ((w.alloc (.cells #[.slice (some ⟨gp, 0, none⟩) rs.length cp] 24)).alloc (.cells #[.slice ad rs.length c] 24)).cell? ⟨w.heap.size + 1, 0, none⟩ = some (.slice ad rs.length c) := cell_new rfl (by simp)
  have pm := hm0.cell ho.mark id
  have HO := Lib.hid ho
  have HM0 := Lib.hid hM0
  clear ho hM0
  go_enter Tryd.func11, Tryd.ntmps11
  go_wp2_with fail
  generalize ((w.alloc (.cells #[.slice (some ⟨gp, 0, none⟩) rs.length cp] 24)).alloc (.cells #[.slice ad rs.length c] 24)) = w2 at *
  have HP0 := Lib.hid p0; have HP1 := Lib.hid p1; have HM2 := Lib.hid hm0
  clear p0 p1 pm hm0
  have HO2 := Lib.hid (HO.out.mod HM2.out (fun _ _ => id))
  go_loopw [6] (fun iv wr => ∃ k : Nat, iv = .int .i64 k ∧ k ≤ rs.length ∧ Hid (Mod (fun b => lo ≤ b ∧ b < w.heap.size) w2 wr) ∧ Hid (Rd wr (some ⟨gp, 0, none⟩) (rmsC (ys.map yV))) ∧ Hid (∀ j (hj : j < ys.length), k ≤ j → OwnY wr ys[j])) (fun iv _ => rs.length - (intOf iv).toNat)
  case atStart => exact ⟨0, rfl, Nat.zero_le _, Lib.hid (Mod.refl _ w2), Lib.hid HO2.out.at, Lib.hid (fun j hj _ => HO2.out.each _ (List.getElem_mem hj))⟩
  case round =>
    obtain ⟨k, rfl, hk, hM, hRd, hE⟩ := hrel
    have t1 := hM.out.cell HP0.out (fun h => Nat.lt_irrefl _ h.2)
    have t2 := hM.out.cell HP1.out (fun h => by have := h.2; simp at this; omega)
    by_cases hlt : k < rs.length
    · have hky : k < ys.length := by omega
      have HMW : Hid (Mod (fun _ => False) w0 wr) := Lib.hid ((HM0.out.trans HM2.out).step hM.out (fun i hi h => by have := h.1; omega))
      obtain ⟨⟨sk, bk⟩, hx, hmem⟩ := xs_get HX.out hlt
      obtain ⟨bb, o, rfl, x0, x1, x2⟩ := rd_cellR (HR.out.mod HMW.out (fun _ _ => id)) hx
      have hyr : ys[k].r = rs[k] := by
        have h1 : (ys.map Yr.r)[k]? = some ys[k].r := by simp [hky]
        rw [HO.out.hy, List.getElem?_eq_getElem hlt] at h1
        exact (Option.some.inj h1).symm
      have hyg : (ys.map yV)[k]? = some (ys[k].r, .slice (some ⟨ys[k].gh, 0, none⟩) ys[k].r.head.terms.length ys[k].ch, .slice (some ⟨ys[k].gb, 0, none⟩) ys[k].r.body.length ys[k].cb) := by
        rw [List.getElem?_map, List.getElem?_eq_getElem hky]; rfl
      obtain ⟨b1, o1, e1, y0, y1, y2⟩ := rd_cellR hRd.out hyg
      cases e1
      simp only [Nat.zero_add] at y0 y1 y2
      have hsm := HSS.out _ (List.getElem_mem hlt)
      have hTS := (HXT.out _ hmem).1.mod0 HMW.out
      have hLS := (HXT.out _ hmem).2.mod0 HMW.out
      have hoy := hE.out k hky (Nat.le_refl _)
      have hbl : ∀ b ∈ ys[k].gh :: ys[k].gb :: blks ys[k].xs, b < w.heap.size := (HO.out.each _ (List.getElem_mem hky)).blkLt
      have HY := Lib.hid ((HO.out.far _ (List.getElem_mem hky)))
      have HSEP : Hid (∀ j (hj : j < ys.length), k < j → ys[k].hi ≤ ys[j].lo) := Lib.hid (fun j hj h => List.pairwise_iff_getElem.1 HO.out.sep k j hky hj h)
      generalize ys[k] = y at *
      obtain ⟨yr, gh, ch, gb, cb, xs, ylo, yhi⟩ := y
      simp only at hyr y0 y1 y2 hoy hbl HY HSEP
      subst hyr
      have HK := Lib.hid (kept_true _ rs[k] sk bk gh ch gb cb xs wr.drew (OwnR.both (T := fun _ => False) (OwnR.mod hoy ((Mod.refl (fun _ => False) wr).drew) (fun _ _ => id)) w.heap.size (.inr hbl)) (hTS.mod0 (Mod.refl _ wr).drew) (hLS.mod0 (Mod.refl _ wr).drew) hsm.1.2.1 hsm.2.1 (fun l hl => (hsm.2.2 l hl).1.2.1))
      unfold rmV at HK
      have hsk : ∃ sa sc, sk = .slice sa rs[k].head.terms.length sc := by obtain ⟨sa, sc, e, _⟩ := hTS; exact ⟨sa, sc, e⟩
      have hbk : ∃ sa sc, bk = .slice sa rs[k].body.length sc := by obtain ⟨sa, sc, _, e, _⟩ := hLS; exact ⟨sa, sc, e⟩
      clear hx hmem hyg hsm hoy hbl hTS hLS
      generalize rs[k] = t at *
      obtain ⟨⟨pr, hts⟩, ls⟩ := t
      obtain ⟨sa, sc, rfl⟩ := hsk
      obtain ⟨ba, bc, rfl⟩ := hbk
      simp only at x0 x1 x2 y0 y1 y2 HK
      go_wp2_with fail
      refine wp_region_ord (fun w' => (w'.cell? ⟨w.heap.size, 0, none⟩ = some (.slice (some ⟨gp, 0, none⟩) rs.length cp) ∧ w'.cell? ⟨w.heap.size + 1, 0, none⟩ = some (.slice (some ⟨bb, o, none⟩) rs.length c)) ∧ (w'.cell? ⟨gp, k * 3, none⟩ = some (.string pr) ∧ w'.cell? ⟨gp, k * 3 + 1, none⟩ = some (.slice (some ⟨gh, 0, none⟩) hts.length ch) ∧ w'.cell? ⟨gp, k * 3 + 2, none⟩ = some (.slice (some ⟨gb, 0, none⟩) ls.length cb)) ∧ (w'.cell? ⟨bb, o + k * 3, none⟩ = some (.string pr) ∧ w'.cell? ⟨bb, o + k * 3 + 1, none⟩ = some (.slice sa hts.length sc) ∧ w'.cell? ⟨bb, o + k * 3 + 2, none⟩ = some (.slice ba ls.length bc))) [(0, 0), (1, 1), (0, 2), (0, 3), (1, 4), (0, 5), (1, 6), (0, 7), (0, 8), (1, 9), (3, 10), (0, 11)] (by kernel_rfl) (by kernel_rfl) ?_
      go_wp2_with (first
        | (refine ord_pure rfl rfl rfl (fun K hK => ?_); go_big_quiet_op; refine hK _ ?_; clear hK K)
                                                                | (refine ord_skip rfl rfl ?_; simp only [Act.put, List.setIfInBounds_toArray, List.set_cons_zero, List.set_cons_succ])
                                                                | (refine ord_held rfl rfl rfl (⟨⟨by simpa using t1, by simpa using t2⟩, ⟨by simpa using y0, by simpa using y1, by simpa using y2⟩, ⟨by simpa using x0, by simpa using x1, by simpa using x2⟩⟩) (fun K hK => ?_); apply Exists.intro; refine ⟨fun w' hs => ?_, hK _ ?_⟩; (revert hs; dsimp only; (try simp only [and_imp]); intros; go_simp; rfl); clear hK K)
                                                                | (refine ord_keep rfl rfl (⟨⟨by simpa using t1, by simpa using t2⟩, ⟨by simpa using y0, by simpa using y1, by simpa using y2⟩, ⟨by simpa using x0, by simpa using x1, by simpa using x2⟩⟩) (fun K hK => ?_))
                                                                | (refine ord_drop rfl rfl (fun K hK => ?_))
                                                                | (refine ord_nil ?_))
      refine HK.out.mono ?_
      rintro e w3 ⟨rfl, hM3⟩
      have HM3 := Lib.hid (hM.out.drew.step hM3 (fun i _ h => ⟨by have := HY.out.1; have := h.1.1; omega, h.2⟩))
      have hgm : ¬ ((ylo ≤ gp ∧ gp < yhi) ∧ gp < w.heap.size) := fun h => by rcases HY.out.2 with h2 | h2 <;> omega
      have HRd := Lib.hid (hRd.out.drew.mod hM3 (fun b hb => by cases hb; exact hgm))
      have HE : Hid (∀ j (hj : j < ys.length), k + 1 ≤ j → OwnY w3 ys[j]) := Lib.hid (fun j hj hkj => OwnR.mod (hE.out j hj (by omega)) ((Mod.refl _ wr).drew.trans hM3) (fun b hb h => by have := HSEP.out j hj (by omega); omega))
      clear hM3 HK
      go_wp2_with (first
        | (refine ord_pure rfl rfl rfl (fun K hK => ?_); go_big_quiet_op; refine hK _ ?_; clear hK K)
                                                                | (refine ord_skip rfl rfl ?_; simp only [Act.put, List.setIfInBounds_toArray, List.set_cons_zero, List.set_cons_succ])
                                                                | (refine ord_held rfl rfl rfl (True.intro) (fun K hK => ?_); apply Exists.intro; refine ⟨fun w' hs => ?_, hK _ ?_⟩; (revert hs; dsimp only; (try simp only [and_imp]); intros; go_simp; rfl); clear hK K)
                                                                | (refine ord_keep rfl rfl (True.intro) (fun K hK => ?_))
                                                                | (refine ord_drop rfl rfl (fun K hK => ?_))
                                                                | (refine ord_nil ?_))
      go_roundw
      case rel => exact ⟨k + 1, by go_num, hlt, HM3, HRd, HE⟩
      case measure => simp [intOf]; omega
    · obtain rfl : k = rs.length := by omega
      go_wp2_with fail
      go_ret
      exact ⟨rfl, (HM2.out.mono (fun _ _ h => h.elim)).trans (hM.out.mono (fun b _ h => h.1))⟩
end Go.Proofs.YtphgglnkdfndiaaDoor
