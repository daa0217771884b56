/-
  The document's reader: atoms.
-/
import Derived.Test.YtgplagdehfhffaaDoorRfA
import Derived.Test.YtgplagdehfhffaaDoorPar1
namespace Go.Proofs.YtgplagdehfhffaaDoor
open Go Go.RowKit Go.Mine
set_option linter.unusedVariables false
set_option maxHeartbeats 1000000
set_option maxRecDepth 100000

theorem kindI_iff {S : Toks} {k c : Nat} (hc : 0 < c) : (S.tok k).kind = c ↔ kindI S k = (c : Int) := by
  constructor
  · intro h
    have hb := not_bad (in_kind (S := S) (k := k) (by omega))
    unfold kindI; rw [hb]; simp; omega
  · intro h
    have := kindI_pos (c := (c : Int)) (by omega) h
    omega
theorem room3 (R : REnv) (k : Nat) (agg : Bool) (n : Nat) (w : World) (h : RSt w R k agg) (g : Nat) (hg : g = w.heap.size := by first | rfl | simp) :
    Calls Tryd.prog 53 #[.pointer (some ⟨R.b, 0, none⟩), .slice (some ⟨g, 0, none⟩) 3 3, .int .i64 n, .int .i64 64, .int .i64 83] (w.alloc (.cells #[.int .i64 1, .int .i64 2, .int .i64 3] 3)) (QP R w (roomP R.S k [1, 2, 3] n 64 83) noB fun _ e w' => e = .returned (.bool true) ∧ RSt w' R k agg) := by
  subst hg
  have m : Mod (fun _ => False) w (w.alloc (.cells #[.int .i64 1, .int .i64 2, .int .i64 3] 3)) := (Mod.refl _ w).alloc _
  have h1 := room_any R k agg (some ⟨w.heap.size, 0, none⟩) 3 [1, 2, 3] n 64 83 _ (h.mod0 m) (Rd.news w [.int .i64 1, .int .i64 2, .int .i64 3] _) (by simp) (by decide) (by omega)
  exact h1.mono fun e w' h => QP.pre m h
/-- an atom under way: the answer's box, the box it is gathered in -/
structure AgI (R : REnv) (w0 W : World) (g1 : Nat) (pred : ByteArray) (acc : List Tm) (a : Option Addr) (c : Nat) : Prop where
  base : ∃ k0 ag0, RSt w0 R k0 ag0
  md : Mod R.Ch w0 W
  hg : w0.heap.size < g1
  b0 : W.heap[w0.heap.size]? = some (.cells #[.string ⟨#[]⟩, .slice none 0 0] 37 (0, 0))
  b1 : W.heap[g1]? = some (.cells #[.string pred, .slice a acc.length c] 37 (0, 0))
  own : Mine.Own W 60 2 a acc.length c (tmsC acc)
  fr : ∀ b, blk a = some b → w0.heap.size < b ∧ b ≠ g1
section
variable {R : REnv} {w0 W W' : World} {g1 k k' c c' : Nat} {ag ag' : Bool} {pred : ByteArray} {acc : List Tm} {a a' : Option Addr}
theorem AgI.call (h : AgI R w0 W g1 pred acc a c) (m : Mod R.Ch W W') : AgI R w0 W' g1 pred acc a c := by
  obtain ⟨k0, ag0, h0⟩ := h.base
  have hg := h.hg
  exact ⟨h.base, h.md.trans m, hg, m.at h.b0 (h0.nch (Nat.le_refl _)), m.at h.b1 (h0.nch (by omega)), h.own.mod m (fun b hb => h0.nch (by have := h.fr b hb; omega)), h.fr⟩
theorem AgI.call0 (h : AgI R w0 W g1 pred acc a c) (m : Mod (fun _ => False) W W') : AgI R w0 W' g1 pred acc a c := h.call (m.mono fun _ _ f => f.elim)
theorem AgI.lt (h : AgI R w0 W g1 pred acc a c) : g1 < W.heap.size := (Array.getElem?_eq_some_iff.1 h.b1).1
/-- a store into a block that came up later -/
theorem AgI.late (h : AgI R w0 W g1 pred acc a c) {g : Nat} (m : Mod (fun b => b = g) W W') (hg : w0.heap.size < g) (hn : g ≠ g1) (ha : ∀ b, blk a = some b → b ≠ g) : AgI R w0 W' g1 pred acc a c := by
  obtain ⟨k0, ag0, h0⟩ := h.base
  have h1 := h.hg
  exact ⟨h.base, Mod.far h.md (m.mono fun _ _ e => by unfold Far; omega), h1, m.at h.b0 (by omega), m.at h.b1 (fun e => hn e.symm), h.own.mod m (fun b hb e => ha b hb e), h.fr⟩
theorem AgI.step (h : AgI R w0 W g1 pred acc a c) (hs : RSt W R k ag) {W1 : World} (t : Tm) {us : List Value} (hu : us = tmC t) (ho : Mine.Own W1 60 2 a' (acc.length + 1) c' (tmsC acc ++ us)) (hg : ∃ W2, Mod (fun _ => False) W W2 ∧ Grow W2 a W1 a') :
    AgI R w0 (W1.setCell ⟨g1, 1, none⟩ (.slice a' (acc.length + 1) c')) g1 pred (acc ++ [t]) a' c' ∧ RSt (W1.setCell ⟨g1, 1, none⟩ (.slice a' (acc.length + 1) c')) R k ag := by
  obtain ⟨k0, ag0, h0⟩ := h.base
  obtain ⟨W2, m2, hg⟩ := hg
  have hl := h.lt
  have h1 := h.hg
  have mF : Mod (Far w0) W W1 := (m2.mono fun _ _ f => f.elim).step hg.mod (fun i _ hi => by have := h.fr i hi; unfold Far; omega)
  have hfr : ∀ b, blk a' = some b → w0.heap.size < b ∧ b ≠ g1 := by
    intro b hb
    rcases hg.pos with e | ⟨b', e, hb'⟩
    · rw [e] at hb; exact h.fr b hb
    · rw [e] at hb; cases hb; have := m2.size; omega
  have m3 : Mod (Far w0) W (W1.setCell ⟨g1, 1, none⟩ (.slice a' (acc.length + 1) c')) := mF.setCell (p := ⟨g1, 1, none⟩) (fun _ => by unfold Far; simp; omega) _
  have m4 : Mod (fun b => b = g1) W1 (W1.setCell ⟨g1, 1, none⟩ (.slice a' (acc.length + 1) c')) := (Mod.refl (fun b => b = g1) W1).setCell (p := ⟨g1, 1, none⟩) (fun _ => rfl) _
  have b0 := hg.mod.at (m2.at h.b0 id) (fun e => by have := h.fr _ e; omega)
  have b1 := hg.mod.at (m2.at h.b1 id) (fun e => by have := h.fr _ e; omega)
  have hlen : (acc ++ [t]).length = acc.length + 1 := by simp
  refine ⟨⟨h.base, Mod.far h.md m3, h1, m4.at b0 (by omega), ?_, ?_, hfr⟩, h0.far hs m3⟩
  · have := heap_setCell_at (j := 1) (.slice a' (acc.length + 1) c') b1
    rw [hlen]; exact this
  · rw [hlen, tmsC_append]
    subst hu
    have := ho.mod m4 (fun b hb e => by have := hfr b hb; omega)
    simpa [tmsC] using this
end
/-- terms of the call's own -/
def TsG (w : World) (lo : Nat) (v : Value) (ts : List Tm) : Prop :=
  ∃ a c, v = .slice a ts.length c ∧ Mine.Own w 60 2 a ts.length c (tmsC ts) ∧ ∀ b, blk a = some b → lo ≤ b
def noAm : Ending → Prop := fun e => ∃ (s : ByteArray) (a : Option Addr) (n c : Nat), e = .returned (.tuple #[.agg #[.string s, .slice a n c], .bool false])
def ResAg (R : REnv) (lo : Nat) (r : Am × Nat × Bool) (e : Ending) (w' : World) : Prop :=
  ∃ v, e = .returned (.tuple #[.agg #[.string r.1.pred, v], .bool true]) ∧ TsG w' lo v r.1.terms ∧ RSt w' R r.2.1 r.2.2
theorem termsGoR_room {S : Toks} {head : Bool} {n k : Nat} {agg : Bool} {acc : List Tm} (hn : acc.length ≤ 64) : termsGoR head S (n + 1) k agg acc = (roomP S (k + 1) [1, 2, 3] acc.length 64 83).bind fun _ =>
      (oneR head S (k + 1) agg).bind fun r => if (S.tok r.2.1).kind = 6 then termsGoR head S n r.2.1 r.2.2 (acc ++ [r.1]) else .ok (acc ++ [r.1], r.2.1, r.2.2) := by
  rw [termsGoR]
  unfold roomP
  rw [bind_assoc']
  refine bind_congr' fun u _ => ?_
  by_cases h : acc.length = 64
  · rw [if_pos h, if_pos (by omega)]; rfl
  · rw [if_neg h, if_neg (by omega)]; rfl
theorem roomP_ok {S : Toks} {i : Nat} {ks : List Nat} {n most e : Nat} {u : Unit} (h : roomP S i ks n most e = .ok u) : n < most := by
  unfold roomP at h
  cases hw : wantP S i ks with
  | error x => rw [hw] at h; cases h
  | ok y =>
    rw [hw, bind_ok'] at h
    by_cases hm : most ≤ n
    · rw [if_pos hm] at h; cases h
    · omega
theorem refAtom_any (R : REnv) (head : Bool) (k : Nat) (agg : Bool) (w : World) (h : RSt w R k agg) :
    Calls Tryd.prog 64 #[.pointer (some ⟨R.b, 0, none⟩), .bool head] w (QP R w (atomR head R.S k agg) noAm (ResAg R w.heap.size)) := by
  have m0 : Mod (fun _ => False) w (w.alloc (.cells #[.string ⟨#[]⟩, .slice none 0 0] 37)) := (Mod.refl _ w).alloc _
  have HT := Lib.hid (take1 R k agg 1 _ (h.mod0 m0) (by omega) (w.heap.size + 1) 1)
  have HB := Lib.hid (heap_alloc_new w (.cells #[.string ⟨#[]⟩, .slice none 0 0] 37))
  have H := Lib.hid h; have M0 := Lib.hid m0
  have HD : Hid (atomR head R.S k agg = (wordP R.S k [1]).bind fun r => (termsR head R.S r.2 agg).bind fun q => .ok (⟨r.1, q.1⟩, q.2.1, q.2.2)) := rfl
  clear h m0
  go_enter Tryd.func64, Tryd.ntmps64
  go_wp2_with fail
  refine HT.out.mono ?_
  rintro e w2 (⟨x, hx, rfl, hE, hM⟩ | ⟨⟨s, k2⟩, hx, ⟨rfl, hS⟩, hM⟩)
  · have HX := Lib.hid (show atomR head R.S k agg = .error x by rw [HD.out, hx]; rfl)
    have HE := Lib.hid hE
    have HB0 := Lib.hid (hM.at HB.out (H.out.nch (Nat.le_refl _)))
    have HM2 := Lib.hid ((M0.out.mono (T := R.Ch) fun _ _ f => f.elim).trans hM)
    have c0 := cell_at (j := 0) HB0.out rfl
    have c1 := cell_at (j := 1) HB0.out rfl
    have f0 : w2.frozen? ⟨w.heap.size, 0, none⟩ = false := frozen_at HB0.out
    have f1 : w2.frozen? ⟨w.heap.size, 1, none⟩ = false := frozen_at HB0.out
    clear hx hE hM HT
    go_wp2_with fail
    obtain ⟨w9, hw9⟩ : ∃ w9, w9 = (((w2).setCell ⟨w.heap.size, 0, none⟩ (.string ⟨#[]⟩)).setCell ⟨w.heap.size, 1, none⟩ (.slice none 0 0)) := ⟨_, rfl⟩
    have b9 : w9.heap[w.heap.size]? = some (.cells #[.string ⟨#[]⟩, .slice none 0 0] 37 (0, 0)) := by rw [hw9]; exact heap_setCell_at (j := 1) (.slice none 0 0) (heap_setCell_at (j := 0) (.string ⟨#[]⟩) HB0.out)
    have m9 : Mod (fun b => b = w.heap.size) (w2) w9 := by rw [hw9]; exact ((Mod.refl (fun b => b = w.heap.size) _).setCell (p := ⟨w.heap.size, 0, none⟩) (fun _ => rfl) _).setCell (p := ⟨w.heap.size, 1, none⟩) (fun _ => rfl) _
    have mF : Mod (Far w) (w2) w9 := m9.mono fun _ _ e => Nat.le_of_eq e.symm
    rw [← hw9]
    clear hw9
    have e0 := cell_at (j := 0) b9 rfl
    have e1 := cell_at (j := 1) b9 rfl
    refine bodyPost_ret (v := .tuple #[.agg #[.string ⟨#[]⟩, .slice none 0 0], .bool false]) (by simp [results, Tryd.results64, go_sem, e0, e1]) rfl ?_
    exact .inl ⟨x, HX.out, ⟨_, none, 0, 0, rfl⟩, HE.out.far H.out mF, Mod.far HM2.out mF⟩
  have HX := Lib.hid (show atomR head R.S k agg = (termsR head R.S k2 agg).bind fun q => .ok (⟨s, q.1⟩, q.2.1, q.2.2) by rw [HD.out, hx]; rfl)
  have m1 : Mod (fun _ => False) w2 (w2.alloc (.cells #[.string s, .slice none 0 0] 37)) := (Mod.refl _ w2).alloc _
  have hz2 : w.heap.size < w2.heap.size := by have := hM.size; simp at this; omega
  have hA : AgI R w (w2.alloc (.cells #[.string s, .slice none 0 0] 37)) w2.heap.size s [] none 0 :=
    ⟨⟨_, _, H.out⟩, ((M0.out.mono (T := R.Ch) fun _ _ f => f.elim).trans hM).trans (m1.mono fun _ _ f => f.elim), hz2, m1.at (hM.at HB.out (H.out.nch (Nat.le_refl _))) id, heap_alloc_new _ _, Mine.Own.nil _ _ _, by simp⟩
  have HA := Lib.hid hA
  have HS := Lib.hid (hS.mod0 m1)
  have HKD := Lib.hid HS.out.kindC
  clear hx hM hS m1 hA HT HB M0 HD hz2
  by_cases h4 : kindI R.S k2 = 4
  · have h4' : Hid (kindI R.S k2 = 4) := h4
    have HXe : Hid (∀ x, termsGoR head R.S 65 k2 agg [] = .error x → atomR head R.S k agg = .error x) := fun x h => by
      rw [HX.out]; unfold termsR; rw [if_pos ((kindI_iff (c := 4) (by omega)).2 h4'.out), h]; rfl
    have HXm : Hid (∀ r, termsGoR head R.S 65 k2 agg [] = .ok r → atomR head R.S k agg = (wordP R.S r.2.1 [5]).bind fun z => .ok (⟨s, r.1⟩, z.2, r.2.2)) := fun r h => by
      rw [HX.out]; unfold termsR; rw [if_pos ((kindI_iff (c := 4) (by omega)).2 h4'.out), h, bind_ok', bind_assoc']; rfl
    rw [h4] at HKD
    clear h4 HX
    go_wp2_with fail
    refine HKD.out.mono ?_
    rintro e v1 ⟨rfl, hM⟩
    obtain ⟨g1, hg1⟩ : ∃ g1, g1 = w2.heap.size := ⟨_, rfl⟩
    rw [← hg1] at HA ⊢
    replace HA := Lib.hid (HA.out.call0 hM)
    replace HS := Lib.hid (HS.out.mod0 hM)
    clear hM HKD hg1
    go_wp2_with fail
    go_loopg [] 65 (fun n wr => ∃ (k' : Nat) (ag' : Bool) (acc : List Tm) (a : Option Addr) (c : Nat), Hid (AgI R w wr g1 s acc a c) ∧ Hid (RSt wr R k' ag') ∧
      ((0 < n ∧ n + acc.length = 65 ∧ (kindI R.S k' = 4 ∨ kindI R.S k' = 6) ∧ Hid (termsGoR head R.S 65 k2 agg [] = termsGoR head R.S n k' ag' acc)) ∨ (kindI R.S k' ≠ 4 ∧ kindI R.S k' ≠ 6 ∧ Hid (termsGoR head R.S 65 k2 agg [] = .ok (acc, k', ag')))))
    case atStart => exact ⟨k2, agg, [], none, 0, HA, HS, .inl ⟨by omega, rfl, .inl h4'.out, Lib.hid rfl⟩⟩
    case round =>
      clear HA HS
      obtain ⟨k', ag', acc, a, c, HA, HS, (⟨hpos, hn, hk, HL⟩ | ⟨hk4, hk6, HL⟩)⟩ := hrel
      · obtain ⟨n, rfl⟩ : ∃ n, gk = n + 1 := ⟨gk - 1, by omega⟩
        have HRM := Lib.hid (termsGoR_room (S := R.S) (head := head) (n := n) (k := k') (agg := ag') (acc := acc) (by omega))
        have hlt : k' < R.S.ts.length := by
          rcases hk with hk | hk
          · exact (kindI_pos (by omega) hk).2.2
          · exact (kindI_pos (by omega) hk).2.2
        have HKD : Hid (∀ W, Mod (fun _ => False) wr W → Calls Tryd.prog 52 #[.pointer (some ⟨R.b, 0, none⟩)] W fun e w' => e = .returned (.int .i64 (kindI R.S k')) ∧ Mod (fun _ => False) wr w') := fun W m => (HS.out.mod0 m).kindC.mono fun e w' ⟨h1, h2⟩ => ⟨h1, m.trans h2⟩
        have hlen := HS.out.bk.ok.len
        have hal : acc.length ≤ 64 := by omega
        have hnl := Lib.hid hn
        clear hn
        rcases hk with hk | hk
        · rw [hk] at HKD
          clear hk
          go_wp2_with fail
          refine (HKD.out _ (Mod.refl _ _)).mono ?_
          rintro e v3 ⟨rfl, hM⟩
          have HM := Lib.hid hM; clear hM
          have HA3 := Lib.hid (HA.out.call0 HM.out)
          have HS3 := HS.out.mod0 HM.out
          clear HM HKD HA HS
          have a2 := HS3.bk.c2
          have a2f := HS3.bk.fz 2
          have hne : ¬ g1 = R.b := by have := HA3.out.hg; have := H.out.lt; omega
          have hne2 : ¬ R.b = g1 := fun e => hne e.symm
          obtain ⟨h4, m4⟩ := HS3.bk.set (j := 2) (u := .int .i64 ((k' : Int) + 1)) (i' := k' + 1) (e' := 0) (at' := 0) (agg' := ag') rfl
          have HS4 : Hid (RSt (v3.setCell ⟨R.b, 2, none⟩ (.int .i64 ((k' : Int) + 1))) R (k' + 1) ag') := ⟨h4, by omega⟩
          have HA4 := Lib.hid (HA3.out.call m4)
          have HRC := Lib.hid (room3 R (k' + 1) ag' acc.length _ HS4.out v3.heap.size)
          have d1 := cell_at (j := 1) HA4.out.b1 rfl
          have hn3 : ¬ g1 = v3.heap.size := by have := HA3.out.lt; omega
          have hn3' : ¬ v3.heap.size = g1 := fun e => hn3 e.symm
          have d1a := ((Mod.refl (fun _ => False) (v3.setCell ⟨R.b, 2, none⟩ (.int .i64 ((k' : Int) + 1)))).alloc (.cells #[.int .i64 1, .int .i64 2, .int .i64 3] 3)).cell d1 id
          clear h4 m4 HS3 HA3
          go_wp2_with fail
          refine HRC.out.mono ?_
          rintro e v5 (⟨x, hx, rfl, hE, hM⟩ | ⟨u, hx, ⟨rfl, hS⟩, hM⟩)
          · have HX := Lib.hid (HXe.out x (by rw [HL.out, HRM.out]; rw [hx]; rfl))
            have HE := Lib.hid hE
            have HA5 := Lib.hid (HA4.out.call hM)
            clear hx hE hM HRC d1 d1a hn3 hn3' a2 a2f HS4 HA4
            have HB0 := Lib.hid (HA5).out.b0
            have c0 := cell_at (j := 0) (HA5).out.b0 rfl
            have c1 := cell_at (j := 1) (HA5).out.b0 rfl
            have f0 : (v5).frozen? ⟨w.heap.size, 0, none⟩ = false := frozen_at (HA5).out.b0
            have f1 : (v5).frozen? ⟨w.heap.size, 1, none⟩ = false := frozen_at (HA5).out.b0
            have d0 := cell_at (j := 0) (HA5).out.b1 rfl
            have d1 := cell_at (j := 1) (HA5).out.b1 rfl
            have n01 : ¬ g1 = w.heap.size := by have := (HA5).out.hg; omega
            have n10 : ¬ w.heap.size = g1 := by have := (HA5).out.hg; omega
            go_wp2_with fail
            obtain ⟨w9, hw9⟩ : ∃ w9, w9 = (((v5).setCell ⟨w.heap.size, 0, none⟩ (.string s)).setCell ⟨w.heap.size, 1, none⟩ (.slice a acc.length c)) := ⟨_, rfl⟩
            have b9 : w9.heap[w.heap.size]? = some (.cells #[.string s, .slice a acc.length c] 37 (0, 0)) := by rw [hw9]; exact heap_setCell_at (j := 1) (.slice a acc.length c) (heap_setCell_at (j := 0) (.string s) HB0.out)
            have m9 : Mod (fun b => b = w.heap.size) (v5) w9 := by rw [hw9]; exact ((Mod.refl (fun b => b = w.heap.size) _).setCell (p := ⟨w.heap.size, 0, none⟩) (fun _ => rfl) _).setCell (p := ⟨w.heap.size, 1, none⟩) (fun _ => rfl) _
            have mF : Mod (Far w) (v5) w9 := m9.mono fun _ _ e => Nat.le_of_eq e.symm
            rw [← hw9]
            clear hw9
            have e0 := cell_at (j := 0) b9 rfl
            have e1 := cell_at (j := 1) b9 rfl
            refine bodyPost_ret (v := .tuple #[.agg #[.string s, .slice a acc.length c], .bool false]) (by simp [results, Tryd.results64, go_sem, e0, e1]) rfl ?_
            exact .inl ⟨x, HX.out, ⟨_, _, _, _, rfl⟩, HE.out.far H.out mF, Mod.far HA5.out.md mF⟩
          have HR2 := Lib.hid (show termsGoR head R.S 65 k2 agg [] = (oneR head R.S (k' + 1) ag').bind fun r => if (R.S.tok r.2.1).kind = 6 then termsGoR head R.S n r.2.1 r.2.2 (acc ++ [r.1]) else .ok (acc ++ [r.1], r.2.1, r.2.2) by rw [HL.out, HRM.out, hx]; rfl)
          have h63 := roomP_ok hx
          have HA5 := Lib.hid (HA4.out.call hM)
          have HS5 := Lib.hid hS
          clear hx hS hM HRC d1 d1a hn3 hn3' a2 a2f HS4 HA4 HRM HL
          have HA5l := Lib.hid HA5.out.own.lt
          have hg15 := HA5.out.lt
          have HG5 := Lib.hid hg15
          obtain ⟨g5, hg5⟩ : ∃ g5, g5 = v5.heap.size := ⟨_, rfl⟩
          have HGE := Lib.hid hg5
          have m6 : Mod (fun _ => False) v5 (v5.alloc (.cells #[.int .i64 0, .string ⟨#[]⟩] 60)) := (Mod.refl _ v5).alloc _
          have HA6 := Lib.hid (HA5.out.call0 m6)
          have HS6 := Lib.hid (HS5.out.mod0 m6)
          have hx6 := heap_alloc_new v5 (.cells #[.int .i64 0, .string ⟨#[]⟩] 60)
          rw [← hg5] at hx6
          have HX6 := Lib.hid hx6
          have hpt : ∀ F, (head = true ∧ F = 113 ∨ head = false ∧ F = 114) → Calls Tryd.prog F #[.pointer (some ⟨R.b, 0, none⟩)] (v5.alloc (.cells #[.int .i64 0, .string ⟨#[]⟩] 60)) (QP R (v5.alloc (.cells #[.int .i64 0, .string ⟨#[]⟩] 60)) (oneR head R.S (k' + 1) ag') noTm fun r e w' => e = .returned (.tuple #[tmV r.1, .bool true]) ∧ RSt w' R r.2.1 r.2.2) := by
            rintro F (⟨rfl, rfl⟩ | ⟨rfl, rfl⟩)
            · exact refPart_any R (k' + 1) ag' _ HS6.out
            · refine (refTerm_any R (k' + 1) ag' _ HS6.out).mono ?_
              rintro e w' (⟨x, h1, h2, h3, h4⟩ | ⟨r, h1, h2, h3⟩)
              · exact .inl ⟨x, by unfold oneR; rw [if_neg (by simp), h1]; rfl, h2, h3, h4⟩
              · exact .inr ⟨(r.1, r.2, ag'), by unfold oneR; rw [if_neg (by simp), h1]; rfl, h2, h3⟩
          have HPT := Lib.hid hpt
          clear hpt hx6 m6 hg15 hg5 HS5 HA5 HS6
          cases head with
          | true =>
            go_wp2_with fail
            rw [← HGE.out]
            refine (HPT.out _ (.inl ⟨by first | trivial | rfl, rfl⟩)).mono ?_
            rintro e v6 (⟨x, hx, ⟨jk, js, rfl⟩, hE, hM⟩ | ⟨⟨⟨tk, tt⟩, k6, ag6⟩, hx, ⟨rfl, hS⟩, hM⟩)
            · have HX := Lib.hid (HXe.out x (by rw [HR2.out, hx]; rfl))
              have HE := Lib.hid hE
              have hgg : w.heap.size < g5 := by have := HA6.out.hg; have := HG5.out; rw [HGE.out]; omega
              have HA7 := Lib.hid (HA6.out.call hM)
              have hb7 := hM.at HX6.out (H.out.nch (Nat.le_of_lt hgg))
              have p0 : v6.frozen? ⟨g5, 0, none⟩ = false := frozen_at hb7
              have p1 : v6.frozen? ⟨g5, 1, none⟩ = false := frozen_at hb7
              have p0c := cell_at (j := 0) hb7 rfl
              have p1c := cell_at (j := 1) hb7 rfl
              have HB0 := Lib.hid (HA7).out.b0
              have c0 := cell_at (j := 0) (HA7).out.b0 rfl
              have c1 := cell_at (j := 1) (HA7).out.b0 rfl
              have f0 : (v6).frozen? ⟨w.heap.size, 0, none⟩ = false := frozen_at (HA7).out.b0
              have f1 : (v6).frozen? ⟨w.heap.size, 1, none⟩ = false := frozen_at (HA7).out.b0
              have d0 := cell_at (j := 0) (HA7).out.b1 rfl
              have d1 := cell_at (j := 1) (HA7).out.b1 rfl
              have n01 : ¬ g1 = w.heap.size := by have := (HA7).out.hg; omega
              have n10 : ¬ w.heap.size = g1 := by have := (HA7).out.hg; omega
              have n15 : ¬ g1 = g5 := by have := HG5.out; rw [HGE.out]; omega
              have n51 : ¬ g5 = g1 := fun e => n15 e.symm
              have n05 : ¬ w.heap.size = g5 := by omega
              have n50 : ¬ g5 = w.heap.size := by omega
              have m8 : Mod (fun b => b = g5) v6 ((v6.setCell ⟨g5, 0, none⟩ (.int .i64 jk)).setCell ⟨g5, 1, none⟩ (.string js)) := ((Mod.refl (fun b => b = g5) _).setCell (p := ⟨g5, 0, none⟩) (fun _ => rfl) _).setCell (p := ⟨g5, 1, none⟩) (fun _ => rfl) _
              have m78 : Mod (Far w) v6 ((v6.setCell ⟨g5, 0, none⟩ (.int .i64 jk)).setCell ⟨g5, 1, none⟩ (.string js)) := m8.mono fun _ _ e => by unfold Far; omega
              have HA8 := Lib.hid (HA7.out.late m8 hgg n51 (fun b hb e => by have := HA5l.out b hb; rw [HGE.out] at e; omega))
              clear hb7 m8 HA7 HA6 HX6
              clear hx hE hM HPT HR2
              go_wp2_with fail
              replace HB0 := Lib.hid HA8.out.b0
              obtain ⟨w9, hw9⟩ : ∃ w9, w9 = (((((v6.setCell ⟨g5, 0, none⟩ (.int .i64 jk)).setCell ⟨g5, 1, none⟩ (.string js))).setCell ⟨w.heap.size, 0, none⟩ (.string s)).setCell ⟨w.heap.size, 1, none⟩ (.slice a acc.length c)) := ⟨_, rfl⟩
              have b9 : w9.heap[w.heap.size]? = some (.cells #[.string s, .slice a acc.length c] 37 (0, 0)) := by rw [hw9]; exact heap_setCell_at (j := 1) (.slice a acc.length c) (heap_setCell_at (j := 0) (.string s) HB0.out)
              have m9 : Mod (fun b => b = w.heap.size) (((v6.setCell ⟨g5, 0, none⟩ (.int .i64 jk)).setCell ⟨g5, 1, none⟩ (.string js))) w9 := by rw [hw9]; exact ((Mod.refl (fun b => b = w.heap.size) _).setCell (p := ⟨w.heap.size, 0, none⟩) (fun _ => rfl) _).setCell (p := ⟨w.heap.size, 1, none⟩) (fun _ => rfl) _
              have mF : Mod (Far w) (((v6.setCell ⟨g5, 0, none⟩ (.int .i64 jk)).setCell ⟨g5, 1, none⟩ (.string js))) w9 := m9.mono fun _ _ e => Nat.le_of_eq e.symm
              rw [← hw9]
              clear hw9
              have e0 := cell_at (j := 0) b9 rfl
              have e1 := cell_at (j := 1) b9 rfl
              refine bodyPost_ret (v := .tuple #[.agg #[.string s, .slice a acc.length c], .bool false]) (by simp [results, Tryd.results64, go_sem, e0, e1]) rfl ?_
              exact .inl ⟨x, HX.out, ⟨_, _, _, _, rfl⟩, (HE.out.far H.out m78).far H.out mF, Mod.far HA8.out.md mF⟩
            · have HR3 := Lib.hid (show termsGoR true R.S 65 k2 agg [] = if (R.S.tok k6).kind = 6 then termsGoR true R.S n k6 ag6 (acc ++ [⟨tk, tt⟩]) else .ok (acc ++ [⟨tk, tt⟩], k6, ag6) by rw [HR2.out, hx]; rfl)
              unfold tmV
              have hgg : w.heap.size < g5 := by have := HA6.out.hg; have := HG5.out; rw [HGE.out]; omega
              have HA7 := Lib.hid (HA6.out.call hM)
              have hb7 := hM.at HX6.out (H.out.nch (Nat.le_of_lt hgg))
              have p0 : v6.frozen? ⟨g5, 0, none⟩ = false := frozen_at hb7
              have p1 : v6.frozen? ⟨g5, 1, none⟩ = false := frozen_at hb7
              have p0c := cell_at (j := 0) hb7 rfl
              have p1c := cell_at (j := 1) hb7 rfl
              have HB0 := Lib.hid (HA7).out.b0
              have c0 := cell_at (j := 0) (HA7).out.b0 rfl
              have c1 := cell_at (j := 1) (HA7).out.b0 rfl
              have f0 : (v6).frozen? ⟨w.heap.size, 0, none⟩ = false := frozen_at (HA7).out.b0
              have f1 : (v6).frozen? ⟨w.heap.size, 1, none⟩ = false := frozen_at (HA7).out.b0
              have d0 := cell_at (j := 0) (HA7).out.b1 rfl
              have d1 := cell_at (j := 1) (HA7).out.b1 rfl
              have n01 : ¬ g1 = w.heap.size := by have := (HA7).out.hg; omega
              have n10 : ¬ w.heap.size = g1 := by have := (HA7).out.hg; omega
              have n15 : ¬ g1 = g5 := by have := HG5.out; rw [HGE.out]; omega
              have n51 : ¬ g5 = g1 := fun e => n15 e.symm
              have n05 : ¬ w.heap.size = g5 := by omega
              have n50 : ¬ g5 = w.heap.size := by omega
              have m8 : Mod (fun b => b = g5) v6 ((v6.setCell ⟨g5, 0, none⟩ (.int .i64 tk)).setCell ⟨g5, 1, none⟩ (.string tt)) := ((Mod.refl (fun b => b = g5) _).setCell (p := ⟨g5, 0, none⟩) (fun _ => rfl) _).setCell (p := ⟨g5, 1, none⟩) (fun _ => rfl) _
              have m78 : Mod (Far w) v6 ((v6.setCell ⟨g5, 0, none⟩ (.int .i64 tk)).setCell ⟨g5, 1, none⟩ (.string tt)) := m8.mono fun _ _ e => by unfold Far; omega
              have HA8 := Lib.hid (HA7.out.late m8 hgg n51 (fun b hb e => by have := HA5l.out b hb; rw [HGE.out] at e; omega))
              clear hb7 m8 HA7 HA6 HX6
              have HS8 := Lib.hid (H.out.far hS m78)
              have m9 : Mod (fun _ => False) ((v6.setCell ⟨g5, 0, none⟩ (.int .i64 tk)).setCell ⟨g5, 1, none⟩ (.string tt)) (((v6.setCell ⟨g5, 0, none⟩ (.int .i64 tk)).setCell ⟨g5, 1, none⟩ (.string tt)).alloc (.cells #[.int .i64 tk, .string tt] 60)) := (Mod.refl _ _).alloc _
              have HM9 := Lib.hid m9
              have HO9 := Lib.hid (HA8.out.own.mod m9 (fun _ _ => id))
              have HFR := Lib.hid HA8.out.fr
              have HB9 := Lib.hid (m9.at HA8.out.b1 id)
              clear hx hS hM HPT HR2 m9
              go_wp2_with (first
                | (at_builtin; refine wpL_append rfl (.tmp 65) (.tmp 67) 35 35 rfl tiT rfl HO9.out rfl (Src.ofRd tiT.ht 1 1 (Rd.news _ [_, _] 60) (by simp) (by simp [Value.oneCell'])) (by omega) (by unfold maxLen; omega) ?_; intro a3 c3 w9 hO9 hG9 _
                   have hb9 := hG9.mod.at HB9.out (fun e => by have := HFR.out _ e; omega)
                   have y1 := cell_at (j := 1) hb9 rfl
                   have y1f : w9.frozen? ⟨g1, 1, none⟩ = false := frozen_at hb9
                   have hT := HA8.out.step HS8.out ⟨tk, tt⟩ rfl hO9 ⟨_, HM9.out, hG9⟩
                   have HT := Lib.hid hT
                   clear hO9 hG9 hb9 hT HO9 HB9 HM9 HA8 HS8)
                | fail)
              obtain ⟨w10, hw10⟩ : ∃ w10, w10 = w9.setCell ⟨g1, 1, none⟩ (.slice a3 (acc.length + 1) c3) := ⟨_, rfl⟩
              rw [← hw10] at HT ⊢
              clear hw10 y1 y1f
              have HA10 := Lib.hid HT.out.1; have HS10 := Lib.hid HT.out.2
              clear HT
              have HKD := Lib.hid HS10.out.kindC
              have h6i := kindI_iff (S := R.S) (k := k6) (c := 6) (by omega)
              obtain ⟨kd, hkd⟩ : ∃ kd, kd = kindI R.S k6 := ⟨_, rfl⟩
              have HKE := Lib.hid hkd
              rw [← hkd] at HKD h6i
              have hway : kd = 4 ∨ kd = 6 ∨ (kd ≠ 4 ∧ kd ≠ 6) := by omega
              clear hkd
              rcases hway with rfl | rfl | ⟨hk4, hk6⟩
              · have HXF := Lib.hid (HXm.out _ (HR3.out.trans (if_neg (fun e => absurd (h6i.1 e) (by decide)))))
                clear h6i HR3
                refine HKD.out.mono ?_
                rintro e v11 ⟨rfl, hM⟩
                have HA11 := Lib.hid (HA10.out.call0 hM)
                have HS11 := Lib.hid (HS10.out.mod0 hM)
                clear hM HKD HA10 HS10 HFR c0 c1 f0 f1 d0 d1 p0 p1 p0c p1c m78 HB0
                generalize (acc ++ [(⟨tk, tt⟩ : Tm)]) = acc2 at *
                have HT5 := Lib.hid (take1 R k6 ag6 5 v11 (HS11).out (by omega) (v11).heap.size 5)
                go_wp2_with fail
                refine HT5.out.mono ?_
                rintro e wt (⟨x, hx, rfl, hE, hM⟩ | ⟨⟨s5, k5⟩, hx, ⟨rfl, hS⟩, hM⟩)
                · have HX := Lib.hid (show atomR true R.S k agg = .error x by rw [HXF.out, hx]; rfl)
                  have HAt := Lib.hid ((HA11).out.call hM)
                  have HE := Lib.hid hE
                  clear hx hM hE HT5
                  have HB0 := Lib.hid (HAt).out.b0
                  have c0 := cell_at (j := 0) (HAt).out.b0 rfl
                  have c1 := cell_at (j := 1) (HAt).out.b0 rfl
                  have f0 : (wt).frozen? ⟨w.heap.size, 0, none⟩ = false := frozen_at (HAt).out.b0
                  have f1 : (wt).frozen? ⟨w.heap.size, 1, none⟩ = false := frozen_at (HAt).out.b0
                  have d0 := cell_at (j := 0) (HAt).out.b1 rfl
                  have d1 := cell_at (j := 1) (HAt).out.b1 rfl
                  have n01 : ¬ g1 = w.heap.size := by have := (HAt).out.hg; omega
                  have n10 : ¬ w.heap.size = g1 := by have := (HAt).out.hg; omega
                  go_wp2_with fail
                  obtain ⟨w9, hw9⟩ : ∃ w9, w9 = (((wt).setCell ⟨w.heap.size, 0, none⟩ (.string s)).setCell ⟨w.heap.size, 1, none⟩ (.slice a3 acc2.length c3)) := ⟨_, rfl⟩
                  have b9 : w9.heap[w.heap.size]? = some (.cells #[.string s, .slice a3 acc2.length c3] 37 (0, 0)) := by rw [hw9]; exact heap_setCell_at (j := 1) (.slice a3 acc2.length c3) (heap_setCell_at (j := 0) (.string s) HB0.out)
                  have m9 : Mod (fun b => b = w.heap.size) (wt) w9 := by rw [hw9]; exact ((Mod.refl (fun b => b = w.heap.size) _).setCell (p := ⟨w.heap.size, 0, none⟩) (fun _ => rfl) _).setCell (p := ⟨w.heap.size, 1, none⟩) (fun _ => rfl) _
                  have mF : Mod (Far w) (wt) w9 := m9.mono fun _ _ e => Nat.le_of_eq e.symm
                  rw [← hw9]
                  clear hw9
                  have e0 := cell_at (j := 0) b9 rfl
                  have e1 := cell_at (j := 1) b9 rfl
                  refine bodyPost_ret (v := .tuple #[.agg #[.string s, .slice a3 acc2.length c3], .bool false]) (by simp [results, Tryd.results64, go_sem, e0, e1]) rfl ?_
                  exact .inl ⟨x, HX.out, ⟨_, _, _, _, rfl⟩, HE.out.far H.out mF, Mod.far HAt.out.md mF⟩
                · have HX := Lib.hid (show atomR true R.S k agg = .ok (⟨s, acc2⟩, k5, ag6) by rw [HXF.out, hx]; rfl)
                  have HAt := Lib.hid ((HA11).out.call hM)
                  have HS := Lib.hid hS
                  clear hx hM hS HT5
                  have HB0 := Lib.hid (HAt).out.b0
                  have c0 := cell_at (j := 0) (HAt).out.b0 rfl
                  have c1 := cell_at (j := 1) (HAt).out.b0 rfl
                  have f0 : (wt).frozen? ⟨w.heap.size, 0, none⟩ = false := frozen_at (HAt).out.b0
                  have f1 : (wt).frozen? ⟨w.heap.size, 1, none⟩ = false := frozen_at (HAt).out.b0
                  have d0 := cell_at (j := 0) (HAt).out.b1 rfl
                  have d1 := cell_at (j := 1) (HAt).out.b1 rfl
                  have n01 : ¬ g1 = w.heap.size := by have := (HAt).out.hg; omega
                  have n10 : ¬ w.heap.size = g1 := by have := (HAt).out.hg; omega
                  go_wp2_with fail
                  obtain ⟨w9, hw9⟩ : ∃ w9, w9 = (((wt).setCell ⟨w.heap.size, 0, none⟩ (.string s)).setCell ⟨w.heap.size, 1, none⟩ (.slice a3 acc2.length c3)) := ⟨_, rfl⟩
                  have b9 : w9.heap[w.heap.size]? = some (.cells #[.string s, .slice a3 acc2.length c3] 37 (0, 0)) := by rw [hw9]; exact heap_setCell_at (j := 1) (.slice a3 acc2.length c3) (heap_setCell_at (j := 0) (.string s) HB0.out)
                  have m9 : Mod (fun b => b = w.heap.size) (wt) w9 := by rw [hw9]; exact ((Mod.refl (fun b => b = w.heap.size) _).setCell (p := ⟨w.heap.size, 0, none⟩) (fun _ => rfl) _).setCell (p := ⟨w.heap.size, 1, none⟩) (fun _ => rfl) _
                  have mF : Mod (Far w) (wt) w9 := m9.mono fun _ _ e => Nat.le_of_eq e.symm
                  rw [← hw9]
                  clear hw9
                  have e0 := cell_at (j := 0) b9 rfl
                  have e1 := cell_at (j := 1) b9 rfl
                  refine bodyPost_ret (v := .tuple #[.agg #[.string s, .slice a3 acc2.length c3], .bool true]) (by simp [results, Tryd.results64, go_sem, e0, e1]) rfl ?_
                  have hfr := HAt.out.fr
                  exact .inr ⟨_, HX.out, ⟨_, rfl, ⟨_, _, rfl, HAt.out.own.mod m9 (fun b hb e => by have := hfr b hb; omega), fun b hb => by have := hfr b hb; omega⟩, H.out.far HS.out mF⟩, Mod.far HAt.out.md mF⟩
              · have HL2 := Lib.hid (HR3.out.trans (if_pos (h6i.2 rfl)))
                clear h6i HR3
                refine HKD.out.mono ?_
                rintro e v11 ⟨rfl, hM⟩
                have HA11 := Lib.hid (HA10.out.call0 hM)
                have HS11 := Lib.hid (HS10.out.mod0 hM)
                clear hM HKD HA10 HS10 HFR c0 c1 f0 f1 d0 d1 p0 p1 p0c p1c m78 HB0
                go_wp2_with fail
                go_roundg n
                case measure => omega
                case rel => exact ⟨k6, ag6, acc ++ [⟨tk, tt⟩], a3, c3, HA11, HS11, .inl ⟨by have := hnl.out; omega, by simp; have := hnl.out; omega, .inr HKE.out.symm, HL2⟩⟩
              · have HL2 := Lib.hid (HR3.out.trans (if_neg (fun e => hk6 (h6i.1 e))))
                have hb4 : (kd == 4) = false := by simpa using hk4
                clear h6i HR3
                refine HKD.out.mono ?_
                rintro e v11 ⟨rfl, hM⟩
                have HA11 := Lib.hid (HA10.out.call0 hM)
                have HS11 := Lib.hid (HS10.out.mod0 hM)
                clear hM HKD HA10 HS10 HFR c0 c1 f0 f1 d0 d1 p0 p1 p0c p1c m78 HB0
                go_wp2_with fail
                go_roundg n
                case measure => omega
                case rel => exact ⟨k6, ag6, acc ++ [⟨tk, tt⟩], a3, c3, HA11, HS11, .inr ⟨by rw [← HKE.out]; exact hk4, by rw [← HKE.out]; exact hk6, HL2⟩⟩
          | false =>
            go_wp2_with fail
            rw [← HGE.out]
            refine (HPT.out _ (.inr ⟨by first | trivial | rfl, rfl⟩)).mono ?_
            rintro e v6 (⟨x, hx, ⟨jk, js, rfl⟩, hE, hM⟩ | ⟨⟨⟨tk, tt⟩, k6, ag6⟩, hx, ⟨rfl, hS⟩, hM⟩)
            · have HX := Lib.hid (HXe.out x (by rw [HR2.out, hx]; rfl))
              have HE := Lib.hid hE
              have hgg : w.heap.size < g5 := by have := HA6.out.hg; have := HG5.out; rw [HGE.out]; omega
              have HA7 := Lib.hid (HA6.out.call hM)
              have hb7 := hM.at HX6.out (H.out.nch (Nat.le_of_lt hgg))
              have p0 : v6.frozen? ⟨g5, 0, none⟩ = false := frozen_at hb7
              have p1 : v6.frozen? ⟨g5, 1, none⟩ = false := frozen_at hb7
              have p0c := cell_at (j := 0) hb7 rfl
              have p1c := cell_at (j := 1) hb7 rfl
              have HB0 := Lib.hid (HA7).out.b0
              have c0 := cell_at (j := 0) (HA7).out.b0 rfl
              have c1 := cell_at (j := 1) (HA7).out.b0 rfl
              have f0 : (v6).frozen? ⟨w.heap.size, 0, none⟩ = false := frozen_at (HA7).out.b0
              have f1 : (v6).frozen? ⟨w.heap.size, 1, none⟩ = false := frozen_at (HA7).out.b0
              have d0 := cell_at (j := 0) (HA7).out.b1 rfl
              have d1 := cell_at (j := 1) (HA7).out.b1 rfl
              have n01 : ¬ g1 = w.heap.size := by have := (HA7).out.hg; omega
              have n10 : ¬ w.heap.size = g1 := by have := (HA7).out.hg; omega
              have n15 : ¬ g1 = g5 := by have := HG5.out; rw [HGE.out]; omega
              have n51 : ¬ g5 = g1 := fun e => n15 e.symm
              have n05 : ¬ w.heap.size = g5 := by omega
              have n50 : ¬ g5 = w.heap.size := by omega
              have m8 : Mod (fun b => b = g5) v6 ((v6.setCell ⟨g5, 0, none⟩ (.int .i64 jk)).setCell ⟨g5, 1, none⟩ (.string js)) := ((Mod.refl (fun b => b = g5) _).setCell (p := ⟨g5, 0, none⟩) (fun _ => rfl) _).setCell (p := ⟨g5, 1, none⟩) (fun _ => rfl) _
              have m78 : Mod (Far w) v6 ((v6.setCell ⟨g5, 0, none⟩ (.int .i64 jk)).setCell ⟨g5, 1, none⟩ (.string js)) := m8.mono fun _ _ e => by unfold Far; omega
              have HA8 := Lib.hid (HA7.out.late m8 hgg n51 (fun b hb e => by have := HA5l.out b hb; rw [HGE.out] at e; omega))
              clear hb7 m8 HA7 HA6 HX6
              clear hx hE hM HPT HR2
              go_wp2_with fail
              replace HB0 := Lib.hid HA8.out.b0
              obtain ⟨w9, hw9⟩ : ∃ w9, w9 = (((((v6.setCell ⟨g5, 0, none⟩ (.int .i64 jk)).setCell ⟨g5, 1, none⟩ (.string js))).setCell ⟨w.heap.size, 0, none⟩ (.string s)).setCell ⟨w.heap.size, 1, none⟩ (.slice a acc.length c)) := ⟨_, rfl⟩
              have b9 : w9.heap[w.heap.size]? = some (.cells #[.string s, .slice a acc.length c] 37 (0, 0)) := by rw [hw9]; exact heap_setCell_at (j := 1) (.slice a acc.length c) (heap_setCell_at (j := 0) (.string s) HB0.out)
              have m9 : Mod (fun b => b = w.heap.size) (((v6.setCell ⟨g5, 0, none⟩ (.int .i64 jk)).setCell ⟨g5, 1, none⟩ (.string js))) w9 := by rw [hw9]; exact ((Mod.refl (fun b => b = w.heap.size) _).setCell (p := ⟨w.heap.size, 0, none⟩) (fun _ => rfl) _).setCell (p := ⟨w.heap.size, 1, none⟩) (fun _ => rfl) _
              have mF : Mod (Far w) (((v6.setCell ⟨g5, 0, none⟩ (.int .i64 jk)).setCell ⟨g5, 1, none⟩ (.string js))) w9 := m9.mono fun _ _ e => Nat.le_of_eq e.symm
              rw [← hw9]
              clear hw9
              have e0 := cell_at (j := 0) b9 rfl
              have e1 := cell_at (j := 1) b9 rfl
              refine bodyPost_ret (v := .tuple #[.agg #[.string s, .slice a acc.length c], .bool false]) (by simp [results, Tryd.results64, go_sem, e0, e1]) rfl ?_
              exact .inl ⟨x, HX.out, ⟨_, _, _, _, rfl⟩, (HE.out.far H.out m78).far H.out mF, Mod.far HA8.out.md mF⟩
            · have HR3 := Lib.hid (show termsGoR false R.S 65 k2 agg [] = if (R.S.tok k6).kind = 6 then termsGoR false R.S n k6 ag6 (acc ++ [⟨tk, tt⟩]) else .ok (acc ++ [⟨tk, tt⟩], k6, ag6) by rw [HR2.out, hx]; rfl)
              unfold tmV
              have hgg : w.heap.size < g5 := by have := HA6.out.hg; have := HG5.out; rw [HGE.out]; omega
              have HA7 := Lib.hid (HA6.out.call hM)
              have hb7 := hM.at HX6.out (H.out.nch (Nat.le_of_lt hgg))
              have p0 : v6.frozen? ⟨g5, 0, none⟩ = false := frozen_at hb7
              have p1 : v6.frozen? ⟨g5, 1, none⟩ = false := frozen_at hb7
              have p0c := cell_at (j := 0) hb7 rfl
              have p1c := cell_at (j := 1) hb7 rfl
              have HB0 := Lib.hid (HA7).out.b0
              have c0 := cell_at (j := 0) (HA7).out.b0 rfl
              have c1 := cell_at (j := 1) (HA7).out.b0 rfl
              have f0 : (v6).frozen? ⟨w.heap.size, 0, none⟩ = false := frozen_at (HA7).out.b0
              have f1 : (v6).frozen? ⟨w.heap.size, 1, none⟩ = false := frozen_at (HA7).out.b0
              have d0 := cell_at (j := 0) (HA7).out.b1 rfl
              have d1 := cell_at (j := 1) (HA7).out.b1 rfl
              have n01 : ¬ g1 = w.heap.size := by have := (HA7).out.hg; omega
              have n10 : ¬ w.heap.size = g1 := by have := (HA7).out.hg; omega
              have n15 : ¬ g1 = g5 := by have := HG5.out; rw [HGE.out]; omega
              have n51 : ¬ g5 = g1 := fun e => n15 e.symm
              have n05 : ¬ w.heap.size = g5 := by omega
              have n50 : ¬ g5 = w.heap.size := by omega
              have m8 : Mod (fun b => b = g5) v6 ((v6.setCell ⟨g5, 0, none⟩ (.int .i64 tk)).setCell ⟨g5, 1, none⟩ (.string tt)) := ((Mod.refl (fun b => b = g5) _).setCell (p := ⟨g5, 0, none⟩) (fun _ => rfl) _).setCell (p := ⟨g5, 1, none⟩) (fun _ => rfl) _
              have m78 : Mod (Far w) v6 ((v6.setCell ⟨g5, 0, none⟩ (.int .i64 tk)).setCell ⟨g5, 1, none⟩ (.string tt)) := m8.mono fun _ _ e => by unfold Far; omega
              have HA8 := Lib.hid (HA7.out.late m8 hgg n51 (fun b hb e => by have := HA5l.out b hb; rw [HGE.out] at e; omega))
              clear hb7 m8 HA7 HA6 HX6
              have HS8 := Lib.hid (H.out.far hS m78)
              have m9 : Mod (fun _ => False) ((v6.setCell ⟨g5, 0, none⟩ (.int .i64 tk)).setCell ⟨g5, 1, none⟩ (.string tt)) (((v6.setCell ⟨g5, 0, none⟩ (.int .i64 tk)).setCell ⟨g5, 1, none⟩ (.string tt)).alloc (.cells #[.int .i64 tk, .string tt] 60)) := (Mod.refl _ _).alloc _
              have HM9 := Lib.hid m9
              have HO9 := Lib.hid (HA8.out.own.mod m9 (fun _ _ => id))
              have HFR := Lib.hid HA8.out.fr
              have HB9 := Lib.hid (m9.at HA8.out.b1 id)
              clear hx hS hM HPT HR2 m9
              go_wp2_with (first
                | (at_builtin; refine wpL_append rfl (.tmp 65) (.tmp 67) 35 35 rfl tiT rfl HO9.out rfl (Src.ofRd tiT.ht 1 1 (Rd.news _ [_, _] 60) (by simp) (by simp [Value.oneCell'])) (by omega) (by unfold maxLen; omega) ?_; intro a3 c3 w9 hO9 hG9 _
                   have hb9 := hG9.mod.at HB9.out (fun e => by have := HFR.out _ e; omega)
                   have y1 := cell_at (j := 1) hb9 rfl
                   have y1f : w9.frozen? ⟨g1, 1, none⟩ = false := frozen_at hb9
                   have hT := HA8.out.step HS8.out ⟨tk, tt⟩ rfl hO9 ⟨_, HM9.out, hG9⟩
                   have HT := Lib.hid hT
                   clear hO9 hG9 hb9 hT HO9 HB9 HM9 HA8 HS8)
                | fail)
              obtain ⟨w10, hw10⟩ : ∃ w10, w10 = w9.setCell ⟨g1, 1, none⟩ (.slice a3 (acc.length + 1) c3) := ⟨_, rfl⟩
              rw [← hw10] at HT ⊢
              clear hw10 y1 y1f
              have HA10 := Lib.hid HT.out.1; have HS10 := Lib.hid HT.out.2
              clear HT
              have HKD := Lib.hid HS10.out.kindC
              have h6i := kindI_iff (S := R.S) (k := k6) (c := 6) (by omega)
              obtain ⟨kd, hkd⟩ : ∃ kd, kd = kindI R.S k6 := ⟨_, rfl⟩
              have HKE := Lib.hid hkd
              rw [← hkd] at HKD h6i
              have hway : kd = 4 ∨ kd = 6 ∨ (kd ≠ 4 ∧ kd ≠ 6) := by omega
              clear hkd
              rcases hway with rfl | rfl | ⟨hk4, hk6⟩
              · have HXF := Lib.hid (HXm.out _ (HR3.out.trans (if_neg (fun e => absurd (h6i.1 e) (by decide)))))
                clear h6i HR3
                refine HKD.out.mono ?_
                rintro e v11 ⟨rfl, hM⟩
                have HA11 := Lib.hid (HA10.out.call0 hM)
                have HS11 := Lib.hid (HS10.out.mod0 hM)
                clear hM HKD HA10 HS10 HFR c0 c1 f0 f1 d0 d1 p0 p1 p0c p1c m78 HB0
                generalize (acc ++ [(⟨tk, tt⟩ : Tm)]) = acc2 at *
                have HT5 := Lib.hid (take1 R k6 ag6 5 v11 (HS11).out (by omega) (v11).heap.size 5)
                go_wp2_with fail
                refine HT5.out.mono ?_
                rintro e wt (⟨x, hx, rfl, hE, hM⟩ | ⟨⟨s5, k5⟩, hx, ⟨rfl, hS⟩, hM⟩)
                · have HX := Lib.hid (show atomR false R.S k agg = .error x by rw [HXF.out, hx]; rfl)
                  have HAt := Lib.hid ((HA11).out.call hM)
                  have HE := Lib.hid hE
                  clear hx hM hE HT5
                  have HB0 := Lib.hid (HAt).out.b0
                  have c0 := cell_at (j := 0) (HAt).out.b0 rfl
                  have c1 := cell_at (j := 1) (HAt).out.b0 rfl
                  have f0 : (wt).frozen? ⟨w.heap.size, 0, none⟩ = false := frozen_at (HAt).out.b0
                  have f1 : (wt).frozen? ⟨w.heap.size, 1, none⟩ = false := frozen_at (HAt).out.b0
                  have d0 := cell_at (j := 0) (HAt).out.b1 rfl
                  have d1 := cell_at (j := 1) (HAt).out.b1 rfl
                  have n01 : ¬ g1 = w.heap.size := by have := (HAt).out.hg; omega
                  have n10 : ¬ w.heap.size = g1 := by have := (HAt).out.hg; omega
                  go_wp2_with fail
                  obtain ⟨w9, hw9⟩ : ∃ w9, w9 = (((wt).setCell ⟨w.heap.size, 0, none⟩ (.string s)).setCell ⟨w.heap.size, 1, none⟩ (.slice a3 acc2.length c3)) := ⟨_, rfl⟩
                  have b9 : w9.heap[w.heap.size]? = some (.cells #[.string s, .slice a3 acc2.length c3] 37 (0, 0)) := by rw [hw9]; exact heap_setCell_at (j := 1) (.slice a3 acc2.length c3) (heap_setCell_at (j := 0) (.string s) HB0.out)
                  have m9 : Mod (fun b => b = w.heap.size) (wt) w9 := by rw [hw9]; exact ((Mod.refl (fun b => b = w.heap.size) _).setCell (p := ⟨w.heap.size, 0, none⟩) (fun _ => rfl) _).setCell (p := ⟨w.heap.size, 1, none⟩) (fun _ => rfl) _
                  have mF : Mod (Far w) (wt) w9 := m9.mono fun _ _ e => Nat.le_of_eq e.symm
                  rw [← hw9]
                  clear hw9
                  have e0 := cell_at (j := 0) b9 rfl
                  have e1 := cell_at (j := 1) b9 rfl
                  refine bodyPost_ret (v := .tuple #[.agg #[.string s, .slice a3 acc2.length c3], .bool false]) (by simp [results, Tryd.results64, go_sem, e0, e1]) rfl ?_
                  exact .inl ⟨x, HX.out, ⟨_, _, _, _, rfl⟩, HE.out.far H.out mF, Mod.far HAt.out.md mF⟩
                · have HX := Lib.hid (show atomR false R.S k agg = .ok (⟨s, acc2⟩, k5, ag6) by rw [HXF.out, hx]; rfl)
                  have HAt := Lib.hid ((HA11).out.call hM)
                  have HS := Lib.hid hS
                  clear hx hM hS HT5
                  have HB0 := Lib.hid (HAt).out.b0
                  have c0 := cell_at (j := 0) (HAt).out.b0 rfl
                  have c1 := cell_at (j := 1) (HAt).out.b0 rfl
                  have f0 : (wt).frozen? ⟨w.heap.size, 0, none⟩ = false := frozen_at (HAt).out.b0
                  have f1 : (wt).frozen? ⟨w.heap.size, 1, none⟩ = false := frozen_at (HAt).out.b0
                  have d0 := cell_at (j := 0) (HAt).out.b1 rfl
                  have d1 := cell_at (j := 1) (HAt).out.b1 rfl
                  have n01 : ¬ g1 = w.heap.size := by have := (HAt).out.hg; omega
                  have n10 : ¬ w.heap.size = g1 := by have := (HAt).out.hg; omega
                  go_wp2_with fail
                  obtain ⟨w9, hw9⟩ : ∃ w9, w9 = (((wt).setCell ⟨w.heap.size, 0, none⟩ (.string s)).setCell ⟨w.heap.size, 1, none⟩ (.slice a3 acc2.length c3)) := ⟨_, rfl⟩
                  have b9 : w9.heap[w.heap.size]? = some (.cells #[.string s, .slice a3 acc2.length c3] 37 (0, 0)) := by rw [hw9]; exact heap_setCell_at (j := 1) (.slice a3 acc2.length c3) (heap_setCell_at (j := 0) (.string s) HB0.out)
                  have m9 : Mod (fun b => b = w.heap.size) (wt) w9 := by rw [hw9]; exact ((Mod.refl (fun b => b = w.heap.size) _).setCell (p := ⟨w.heap.size, 0, none⟩) (fun _ => rfl) _).setCell (p := ⟨w.heap.size, 1, none⟩) (fun _ => rfl) _
                  have mF : Mod (Far w) (wt) w9 := m9.mono fun _ _ e => Nat.le_of_eq e.symm
                  rw [← hw9]
                  clear hw9
                  have e0 := cell_at (j := 0) b9 rfl
                  have e1 := cell_at (j := 1) b9 rfl
                  refine bodyPost_ret (v := .tuple #[.agg #[.string s, .slice a3 acc2.length c3], .bool true]) (by simp [results, Tryd.results64, go_sem, e0, e1]) rfl ?_
                  have hfr := HAt.out.fr
                  exact .inr ⟨_, HX.out, ⟨_, rfl, ⟨_, _, rfl, HAt.out.own.mod m9 (fun b hb e => by have := hfr b hb; omega), fun b hb => by have := hfr b hb; omega⟩, H.out.far HS.out mF⟩, Mod.far HAt.out.md mF⟩
              · have HL2 := Lib.hid (HR3.out.trans (if_pos (h6i.2 rfl)))
                clear h6i HR3
                refine HKD.out.mono ?_
                rintro e v11 ⟨rfl, hM⟩
                have HA11 := Lib.hid (HA10.out.call0 hM)
                have HS11 := Lib.hid (HS10.out.mod0 hM)
                clear hM HKD HA10 HS10 HFR c0 c1 f0 f1 d0 d1 p0 p1 p0c p1c m78 HB0
                go_wp2_with fail
                go_roundg n
                case measure => omega
                case rel => exact ⟨k6, ag6, acc ++ [⟨tk, tt⟩], a3, c3, HA11, HS11, .inl ⟨by have := hnl.out; omega, by simp; have := hnl.out; omega, .inr HKE.out.symm, HL2⟩⟩
              · have HL2 := Lib.hid (HR3.out.trans (if_neg (fun e => hk6 (h6i.1 e))))
                have hb4 : (kd == 4) = false := by simpa using hk4
                clear h6i HR3
                refine HKD.out.mono ?_
                rintro e v11 ⟨rfl, hM⟩
                have HA11 := Lib.hid (HA10.out.call0 hM)
                have HS11 := Lib.hid (HS10.out.mod0 hM)
                clear hM HKD HA10 HS10 HFR c0 c1 f0 f1 d0 d1 p0 p1 p0c p1c m78 HB0
                go_wp2_with fail
                go_roundg n
                case measure => omega
                case rel => exact ⟨k6, ag6, acc ++ [⟨tk, tt⟩], a3, c3, HA11, HS11, .inr ⟨by rw [← HKE.out]; exact hk4, by rw [← HKE.out]; exact hk6, HL2⟩⟩
        · rw [hk] at HKD
          clear hk
          go_wp2_with fail
          refine (HKD.out _ (Mod.refl _ _)).mono ?_
          rintro e v2 ⟨rfl, hM⟩
          have HM := Lib.hid hM; clear hM
          go_wp2_with fail
          refine (HKD.out _ HM.out).mono ?_
          rintro e v3 ⟨rfl, hM⟩
          have HM := Lib.hid hM; clear hM
          have HA3 := Lib.hid (HA.out.call0 HM.out)
          have HS3 := HS.out.mod0 HM.out
          clear HM HKD HA HS
          have a2 := HS3.bk.c2
          have a2f := HS3.bk.fz 2
          have hne : ¬ g1 = R.b := by have := HA3.out.hg; have := H.out.lt; omega
          have hne2 : ¬ R.b = g1 := fun e => hne e.symm
          obtain ⟨h4, m4⟩ := HS3.bk.set (j := 2) (u := .int .i64 ((k' : Int) + 1)) (i' := k' + 1) (e' := 0) (at' := 0) (agg' := ag') rfl
          have HS4 : Hid (RSt (v3.setCell ⟨R.b, 2, none⟩ (.int .i64 ((k' : Int) + 1))) R (k' + 1) ag') := ⟨h4, by omega⟩
          have HA4 := Lib.hid (HA3.out.call m4)
          have HRC := Lib.hid (room3 R (k' + 1) ag' acc.length _ HS4.out v3.heap.size)
          have d1 := cell_at (j := 1) HA4.out.b1 rfl
          have hn3 : ¬ g1 = v3.heap.size := by have := HA3.out.lt; omega
          have hn3' : ¬ v3.heap.size = g1 := fun e => hn3 e.symm
          have d1a := ((Mod.refl (fun _ => False) (v3.setCell ⟨R.b, 2, none⟩ (.int .i64 ((k' : Int) + 1)))).alloc (.cells #[.int .i64 1, .int .i64 2, .int .i64 3] 3)).cell d1 id
          clear h4 m4 HS3 HA3
          go_wp2_with fail
          refine HRC.out.mono ?_
          rintro e v5 (⟨x, hx, rfl, hE, hM⟩ | ⟨u, hx, ⟨rfl, hS⟩, hM⟩)
          · have HX := Lib.hid (HXe.out x (by rw [HL.out, HRM.out]; rw [hx]; rfl))
            have HE := Lib.hid hE
            have HA5 := Lib.hid (HA4.out.call hM)
            clear hx hE hM HRC d1 d1a hn3 hn3' a2 a2f HS4 HA4
            have HB0 := Lib.hid (HA5).out.b0
            have c0 := cell_at (j := 0) (HA5).out.b0 rfl
            have c1 := cell_at (j := 1) (HA5).out.b0 rfl
            have f0 : (v5).frozen? ⟨w.heap.size, 0, none⟩ = false := frozen_at (HA5).out.b0
            have f1 : (v5).frozen? ⟨w.heap.size, 1, none⟩ = false := frozen_at (HA5).out.b0
            have d0 := cell_at (j := 0) (HA5).out.b1 rfl
            have d1 := cell_at (j := 1) (HA5).out.b1 rfl
            have n01 : ¬ g1 = w.heap.size := by have := (HA5).out.hg; omega
            have n10 : ¬ w.heap.size = g1 := by have := (HA5).out.hg; omega
            go_wp2_with fail
            obtain ⟨w9, hw9⟩ : ∃ w9, w9 = (((v5).setCell ⟨w.heap.size, 0, none⟩ (.string s)).setCell ⟨w.heap.size, 1, none⟩ (.slice a acc.length c)) := ⟨_, rfl⟩
            have b9 : w9.heap[w.heap.size]? = some (.cells #[.string s, .slice a acc.length c] 37 (0, 0)) := by rw [hw9]; exact heap_setCell_at (j := 1) (.slice a acc.length c) (heap_setCell_at (j := 0) (.string s) HB0.out)
            have m9 : Mod (fun b => b = w.heap.size) (v5) w9 := by rw [hw9]; exact ((Mod.refl (fun b => b = w.heap.size) _).setCell (p := ⟨w.heap.size, 0, none⟩) (fun _ => rfl) _).setCell (p := ⟨w.heap.size, 1, none⟩) (fun _ => rfl) _
            have mF : Mod (Far w) (v5) w9 := m9.mono fun _ _ e => Nat.le_of_eq e.symm
            rw [← hw9]
            clear hw9
            have e0 := cell_at (j := 0) b9 rfl
            have e1 := cell_at (j := 1) b9 rfl
            refine bodyPost_ret (v := .tuple #[.agg #[.string s, .slice a acc.length c], .bool false]) (by simp [results, Tryd.results64, go_sem, e0, e1]) rfl ?_
            exact .inl ⟨x, HX.out, ⟨_, _, _, _, rfl⟩, HE.out.far H.out mF, Mod.far HA5.out.md mF⟩
          have HR2 := Lib.hid (show termsGoR head R.S 65 k2 agg [] = (oneR head R.S (k' + 1) ag').bind fun r => if (R.S.tok r.2.1).kind = 6 then termsGoR head R.S n r.2.1 r.2.2 (acc ++ [r.1]) else .ok (acc ++ [r.1], r.2.1, r.2.2) by rw [HL.out, HRM.out, hx]; rfl)
          have h63 := roomP_ok hx
          have HA5 := Lib.hid (HA4.out.call hM)
          have HS5 := Lib.hid hS
          clear hx hS hM HRC d1 d1a hn3 hn3' a2 a2f HS4 HA4 HRM HL
          have HA5l := Lib.hid HA5.out.own.lt
          have hg15 := HA5.out.lt
          have HG5 := Lib.hid hg15
          obtain ⟨g5, hg5⟩ : ∃ g5, g5 = v5.heap.size := ⟨_, rfl⟩
          have HGE := Lib.hid hg5
          have m6 : Mod (fun _ => False) v5 (v5.alloc (.cells #[.int .i64 0, .string ⟨#[]⟩] 60)) := (Mod.refl _ v5).alloc _
          have HA6 := Lib.hid (HA5.out.call0 m6)
          have HS6 := Lib.hid (HS5.out.mod0 m6)
          have hx6 := heap_alloc_new v5 (.cells #[.int .i64 0, .string ⟨#[]⟩] 60)
          rw [← hg5] at hx6
          have HX6 := Lib.hid hx6
          have hpt : ∀ F, (head = true ∧ F = 113 ∨ head = false ∧ F = 114) → Calls Tryd.prog F #[.pointer (some ⟨R.b, 0, none⟩)] (v5.alloc (.cells #[.int .i64 0, .string ⟨#[]⟩] 60)) (QP R (v5.alloc (.cells #[.int .i64 0, .string ⟨#[]⟩] 60)) (oneR head R.S (k' + 1) ag') noTm fun r e w' => e = .returned (.tuple #[tmV r.1, .bool true]) ∧ RSt w' R r.2.1 r.2.2) := by
            rintro F (⟨rfl, rfl⟩ | ⟨rfl, rfl⟩)
            · exact refPart_any R (k' + 1) ag' _ HS6.out
            · refine (refTerm_any R (k' + 1) ag' _ HS6.out).mono ?_
              rintro e w' (⟨x, h1, h2, h3, h4⟩ | ⟨r, h1, h2, h3⟩)
              · exact .inl ⟨x, by unfold oneR; rw [if_neg (by simp), h1]; rfl, h2, h3, h4⟩
              · exact .inr ⟨(r.1, r.2, ag'), by unfold oneR; rw [if_neg (by simp), h1]; rfl, h2, h3⟩
          have HPT := Lib.hid hpt
          clear hpt hx6 m6 hg15 hg5 HS5 HA5 HS6
          cases head with
          | true =>
            go_wp2_with fail
            rw [← HGE.out]
            refine (HPT.out _ (.inl ⟨by first | trivial | rfl, rfl⟩)).mono ?_
            rintro e v6 (⟨x, hx, ⟨jk, js, rfl⟩, hE, hM⟩ | ⟨⟨⟨tk, tt⟩, k6, ag6⟩, hx, ⟨rfl, hS⟩, hM⟩)
            · have HX := Lib.hid (HXe.out x (by rw [HR2.out, hx]; rfl))
              have HE := Lib.hid hE
              have hgg : w.heap.size < g5 := by have := HA6.out.hg; have := HG5.out; rw [HGE.out]; omega
              have HA7 := Lib.hid (HA6.out.call hM)
              have hb7 := hM.at HX6.out (H.out.nch (Nat.le_of_lt hgg))
              have p0 : v6.frozen? ⟨g5, 0, none⟩ = false := frozen_at hb7
              have p1 : v6.frozen? ⟨g5, 1, none⟩ = false := frozen_at hb7
              have p0c := cell_at (j := 0) hb7 rfl
              have p1c := cell_at (j := 1) hb7 rfl
              have HB0 := Lib.hid (HA7).out.b0
              have c0 := cell_at (j := 0) (HA7).out.b0 rfl
              have c1 := cell_at (j := 1) (HA7).out.b0 rfl
              have f0 : (v6).frozen? ⟨w.heap.size, 0, none⟩ = false := frozen_at (HA7).out.b0
              have f1 : (v6).frozen? ⟨w.heap.size, 1, none⟩ = false := frozen_at (HA7).out.b0
              have d0 := cell_at (j := 0) (HA7).out.b1 rfl
              have d1 := cell_at (j := 1) (HA7).out.b1 rfl
              have n01 : ¬ g1 = w.heap.size := by have := (HA7).out.hg; omega
              have n10 : ¬ w.heap.size = g1 := by have := (HA7).out.hg; omega
              have n15 : ¬ g1 = g5 := by have := HG5.out; rw [HGE.out]; omega
              have n51 : ¬ g5 = g1 := fun e => n15 e.symm
              have n05 : ¬ w.heap.size = g5 := by omega
              have n50 : ¬ g5 = w.heap.size := by omega
              have m8 : Mod (fun b => b = g5) v6 ((v6.setCell ⟨g5, 0, none⟩ (.int .i64 jk)).setCell ⟨g5, 1, none⟩ (.string js)) := ((Mod.refl (fun b => b = g5) _).setCell (p := ⟨g5, 0, none⟩) (fun _ => rfl) _).setCell (p := ⟨g5, 1, none⟩) (fun _ => rfl) _
              have m78 : Mod (Far w) v6 ((v6.setCell ⟨g5, 0, none⟩ (.int .i64 jk)).setCell ⟨g5, 1, none⟩ (.string js)) := m8.mono fun _ _ e => by unfold Far; omega
              have HA8 := Lib.hid (HA7.out.late m8 hgg n51 (fun b hb e => by have := HA5l.out b hb; rw [HGE.out] at e; omega))
              clear hb7 m8 HA7 HA6 HX6
              clear hx hE hM HPT HR2
              go_wp2_with fail
              replace HB0 := Lib.hid HA8.out.b0
              obtain ⟨w9, hw9⟩ : ∃ w9, w9 = (((((v6.setCell ⟨g5, 0, none⟩ (.int .i64 jk)).setCell ⟨g5, 1, none⟩ (.string js))).setCell ⟨w.heap.size, 0, none⟩ (.string s)).setCell ⟨w.heap.size, 1, none⟩ (.slice a acc.length c)) := ⟨_, rfl⟩
              have b9 : w9.heap[w.heap.size]? = some (.cells #[.string s, .slice a acc.length c] 37 (0, 0)) := by rw [hw9]; exact heap_setCell_at (j := 1) (.slice a acc.length c) (heap_setCell_at (j := 0) (.string s) HB0.out)
              have m9 : Mod (fun b => b = w.heap.size) (((v6.setCell ⟨g5, 0, none⟩ (.int .i64 jk)).setCell ⟨g5, 1, none⟩ (.string js))) w9 := by rw [hw9]; exact ((Mod.refl (fun b => b = w.heap.size) _).setCell (p := ⟨w.heap.size, 0, none⟩) (fun _ => rfl) _).setCell (p := ⟨w.heap.size, 1, none⟩) (fun _ => rfl) _
              have mF : Mod (Far w) (((v6.setCell ⟨g5, 0, none⟩ (.int .i64 jk)).setCell ⟨g5, 1, none⟩ (.string js))) w9 := m9.mono fun _ _ e => Nat.le_of_eq e.symm
              rw [← hw9]
              clear hw9
              have e0 := cell_at (j := 0) b9 rfl
              have e1 := cell_at (j := 1) b9 rfl
              refine bodyPost_ret (v := .tuple #[.agg #[.string s, .slice a acc.length c], .bool false]) (by simp [results, Tryd.results64, go_sem, e0, e1]) rfl ?_
              exact .inl ⟨x, HX.out, ⟨_, _, _, _, rfl⟩, (HE.out.far H.out m78).far H.out mF, Mod.far HA8.out.md mF⟩
            · have HR3 := Lib.hid (show termsGoR true R.S 65 k2 agg [] = if (R.S.tok k6).kind = 6 then termsGoR true R.S n k6 ag6 (acc ++ [⟨tk, tt⟩]) else .ok (acc ++ [⟨tk, tt⟩], k6, ag6) by rw [HR2.out, hx]; rfl)
              unfold tmV
              have hgg : w.heap.size < g5 := by have := HA6.out.hg; have := HG5.out; rw [HGE.out]; omega
              have HA7 := Lib.hid (HA6.out.call hM)
              have hb7 := hM.at HX6.out (H.out.nch (Nat.le_of_lt hgg))
              have p0 : v6.frozen? ⟨g5, 0, none⟩ = false := frozen_at hb7
              have p1 : v6.frozen? ⟨g5, 1, none⟩ = false := frozen_at hb7
              have p0c := cell_at (j := 0) hb7 rfl
              have p1c := cell_at (j := 1) hb7 rfl
              have HB0 := Lib.hid (HA7).out.b0
              have c0 := cell_at (j := 0) (HA7).out.b0 rfl
              have c1 := cell_at (j := 1) (HA7).out.b0 rfl
              have f0 : (v6).frozen? ⟨w.heap.size, 0, none⟩ = false := frozen_at (HA7).out.b0
              have f1 : (v6).frozen? ⟨w.heap.size, 1, none⟩ = false := frozen_at (HA7).out.b0
              have d0 := cell_at (j := 0) (HA7).out.b1 rfl
              have d1 := cell_at (j := 1) (HA7).out.b1 rfl
              have n01 : ¬ g1 = w.heap.size := by have := (HA7).out.hg; omega
              have n10 : ¬ w.heap.size = g1 := by have := (HA7).out.hg; omega
              have n15 : ¬ g1 = g5 := by have := HG5.out; rw [HGE.out]; omega
              have n51 : ¬ g5 = g1 := fun e => n15 e.symm
              have n05 : ¬ w.heap.size = g5 := by omega
              have n50 : ¬ g5 = w.heap.size := by omega
              have m8 : Mod (fun b => b = g5) v6 ((v6.setCell ⟨g5, 0, none⟩ (.int .i64 tk)).setCell ⟨g5, 1, none⟩ (.string tt)) := ((Mod.refl (fun b => b = g5) _).setCell (p := ⟨g5, 0, none⟩) (fun _ => rfl) _).setCell (p := ⟨g5, 1, none⟩) (fun _ => rfl) _
              have m78 : Mod (Far w) v6 ((v6.setCell ⟨g5, 0, none⟩ (.int .i64 tk)).setCell ⟨g5, 1, none⟩ (.string tt)) := m8.mono fun _ _ e => by unfold Far; omega
              have HA8 := Lib.hid (HA7.out.late m8 hgg n51 (fun b hb e => by have := HA5l.out b hb; rw [HGE.out] at e; omega))
              clear hb7 m8 HA7 HA6 HX6
              have HS8 := Lib.hid (H.out.far hS m78)
              have m9 : Mod (fun _ => False) ((v6.setCell ⟨g5, 0, none⟩ (.int .i64 tk)).setCell ⟨g5, 1, none⟩ (.string tt)) (((v6.setCell ⟨g5, 0, none⟩ (.int .i64 tk)).setCell ⟨g5, 1, none⟩ (.string tt)).alloc (.cells #[.int .i64 tk, .string tt] 60)) := (Mod.refl _ _).alloc _
              have HM9 := Lib.hid m9
              have HO9 := Lib.hid (HA8.out.own.mod m9 (fun _ _ => id))
              have HFR := Lib.hid HA8.out.fr
              have HB9 := Lib.hid (m9.at HA8.out.b1 id)
              clear hx hS hM HPT HR2 m9
              go_wp2_with (first
                | (at_builtin; refine wpL_append rfl (.tmp 65) (.tmp 67) 35 35 rfl tiT rfl HO9.out rfl (Src.ofRd tiT.ht 1 1 (Rd.news _ [_, _] 60) (by simp) (by simp [Value.oneCell'])) (by omega) (by unfold maxLen; omega) ?_; intro a3 c3 w9 hO9 hG9 _
                   have hb9 := hG9.mod.at HB9.out (fun e => by have := HFR.out _ e; omega)
                   have y1 := cell_at (j := 1) hb9 rfl
                   have y1f : w9.frozen? ⟨g1, 1, none⟩ = false := frozen_at hb9
                   have hT := HA8.out.step HS8.out ⟨tk, tt⟩ rfl hO9 ⟨_, HM9.out, hG9⟩
                   have HT := Lib.hid hT
                   clear hO9 hG9 hb9 hT HO9 HB9 HM9 HA8 HS8)
                | fail)
              obtain ⟨w10, hw10⟩ : ∃ w10, w10 = w9.setCell ⟨g1, 1, none⟩ (.slice a3 (acc.length + 1) c3) := ⟨_, rfl⟩
              rw [← hw10] at HT ⊢
              clear hw10 y1 y1f
              have HA10 := Lib.hid HT.out.1; have HS10 := Lib.hid HT.out.2
              clear HT
              have HKD := Lib.hid HS10.out.kindC
              have h6i := kindI_iff (S := R.S) (k := k6) (c := 6) (by omega)
              obtain ⟨kd, hkd⟩ : ∃ kd, kd = kindI R.S k6 := ⟨_, rfl⟩
              have HKE := Lib.hid hkd
              rw [← hkd] at HKD h6i
              have hway : kd = 4 ∨ kd = 6 ∨ (kd ≠ 4 ∧ kd ≠ 6) := by omega
              clear hkd
              rcases hway with rfl | rfl | ⟨hk4, hk6⟩
              · have HXF := Lib.hid (HXm.out _ (HR3.out.trans (if_neg (fun e => absurd (h6i.1 e) (by decide)))))
                clear h6i HR3
                refine HKD.out.mono ?_
                rintro e v11 ⟨rfl, hM⟩
                have HA11 := Lib.hid (HA10.out.call0 hM)
                have HS11 := Lib.hid (HS10.out.mod0 hM)
                clear hM HKD HA10 HS10 HFR c0 c1 f0 f1 d0 d1 p0 p1 p0c p1c m78 HB0
                generalize (acc ++ [(⟨tk, tt⟩ : Tm)]) = acc2 at *
                have HT5 := Lib.hid (take1 R k6 ag6 5 v11 (HS11).out (by omega) (v11).heap.size 5)
                go_wp2_with fail
                refine HT5.out.mono ?_
                rintro e wt (⟨x, hx, rfl, hE, hM⟩ | ⟨⟨s5, k5⟩, hx, ⟨rfl, hS⟩, hM⟩)
                · have HX := Lib.hid (show atomR true R.S k agg = .error x by rw [HXF.out, hx]; rfl)
                  have HAt := Lib.hid ((HA11).out.call hM)
                  have HE := Lib.hid hE
                  clear hx hM hE HT5
                  have HB0 := Lib.hid (HAt).out.b0
                  have c0 := cell_at (j := 0) (HAt).out.b0 rfl
                  have c1 := cell_at (j := 1) (HAt).out.b0 rfl
                  have f0 : (wt).frozen? ⟨w.heap.size, 0, none⟩ = false := frozen_at (HAt).out.b0
                  have f1 : (wt).frozen? ⟨w.heap.size, 1, none⟩ = false := frozen_at (HAt).out.b0
                  have d0 := cell_at (j := 0) (HAt).out.b1 rfl
                  have d1 := cell_at (j := 1) (HAt).out.b1 rfl
                  have n01 : ¬ g1 = w.heap.size := by have := (HAt).out.hg; omega
                  have n10 : ¬ w.heap.size = g1 := by have := (HAt).out.hg; omega
                  go_wp2_with fail
                  obtain ⟨w9, hw9⟩ : ∃ w9, w9 = (((wt).setCell ⟨w.heap.size, 0, none⟩ (.string s)).setCell ⟨w.heap.size, 1, none⟩ (.slice a3 acc2.length c3)) := ⟨_, rfl⟩
                  have b9 : w9.heap[w.heap.size]? = some (.cells #[.string s, .slice a3 acc2.length c3] 37 (0, 0)) := by rw [hw9]; exact heap_setCell_at (j := 1) (.slice a3 acc2.length c3) (heap_setCell_at (j := 0) (.string s) HB0.out)
                  have m9 : Mod (fun b => b = w.heap.size) (wt) w9 := by rw [hw9]; exact ((Mod.refl (fun b => b = w.heap.size) _).setCell (p := ⟨w.heap.size, 0, none⟩) (fun _ => rfl) _).setCell (p := ⟨w.heap.size, 1, none⟩) (fun _ => rfl) _
                  have mF : Mod (Far w) (wt) w9 := m9.mono fun _ _ e => Nat.le_of_eq e.symm
                  rw [← hw9]
                  clear hw9
                  have e0 := cell_at (j := 0) b9 rfl
                  have e1 := cell_at (j := 1) b9 rfl
                  refine bodyPost_ret (v := .tuple #[.agg #[.string s, .slice a3 acc2.length c3], .bool false]) (by simp [results, Tryd.results64, go_sem, e0, e1]) rfl ?_
                  exact .inl ⟨x, HX.out, ⟨_, _, _, _, rfl⟩, HE.out.far H.out mF, Mod.far HAt.out.md mF⟩
                · have HX := Lib.hid (show atomR true R.S k agg = .ok (⟨s, acc2⟩, k5, ag6) by rw [HXF.out, hx]; rfl)
                  have HAt := Lib.hid ((HA11).out.call hM)
                  have HS := Lib.hid hS
                  clear hx hM hS HT5
                  have HB0 := Lib.hid (HAt).out.b0
                  have c0 := cell_at (j := 0) (HAt).out.b0 rfl
                  have c1 := cell_at (j := 1) (HAt).out.b0 rfl
                  have f0 : (wt).frozen? ⟨w.heap.size, 0, none⟩ = false := frozen_at (HAt).out.b0
                  have f1 : (wt).frozen? ⟨w.heap.size, 1, none⟩ = false := frozen_at (HAt).out.b0
                  have d0 := cell_at (j := 0) (HAt).out.b1 rfl
                  have d1 := cell_at (j := 1) (HAt).out.b1 rfl
                  have n01 : ¬ g1 = w.heap.size := by have := (HAt).out.hg; omega
                  have n10 : ¬ w.heap.size = g1 := by have := (HAt).out.hg; omega
                  go_wp2_with fail
                  obtain ⟨w9, hw9⟩ : ∃ w9, w9 = (((wt).setCell ⟨w.heap.size, 0, none⟩ (.string s)).setCell ⟨w.heap.size, 1, none⟩ (.slice a3 acc2.length c3)) := ⟨_, rfl⟩
                  have b9 : w9.heap[w.heap.size]? = some (.cells #[.string s, .slice a3 acc2.length c3] 37 (0, 0)) := by rw [hw9]; exact heap_setCell_at (j := 1) (.slice a3 acc2.length c3) (heap_setCell_at (j := 0) (.string s) HB0.out)
                  have m9 : Mod (fun b => b = w.heap.size) (wt) w9 := by rw [hw9]; exact ((Mod.refl (fun b => b = w.heap.size) _).setCell (p := ⟨w.heap.size, 0, none⟩) (fun _ => rfl) _).setCell (p := ⟨w.heap.size, 1, none⟩) (fun _ => rfl) _
                  have mF : Mod (Far w) (wt) w9 := m9.mono fun _ _ e => Nat.le_of_eq e.symm
                  rw [← hw9]
                  clear hw9
                  have e0 := cell_at (j := 0) b9 rfl
                  have e1 := cell_at (j := 1) b9 rfl
                  refine bodyPost_ret (v := .tuple #[.agg #[.string s, .slice a3 acc2.length c3], .bool true]) (by simp [results, Tryd.results64, go_sem, e0, e1]) rfl ?_
                  have hfr := HAt.out.fr
                  exact .inr ⟨_, HX.out, ⟨_, rfl, ⟨_, _, rfl, HAt.out.own.mod m9 (fun b hb e => by have := hfr b hb; omega), fun b hb => by have := hfr b hb; omega⟩, H.out.far HS.out mF⟩, Mod.far HAt.out.md mF⟩
              · have HL2 := Lib.hid (HR3.out.trans (if_pos (h6i.2 rfl)))
                clear h6i HR3
                refine HKD.out.mono ?_
                rintro e v11 ⟨rfl, hM⟩
                have HA11 := Lib.hid (HA10.out.call0 hM)
                have HS11 := Lib.hid (HS10.out.mod0 hM)
                clear hM HKD HA10 HS10 HFR c0 c1 f0 f1 d0 d1 p0 p1 p0c p1c m78 HB0
                go_wp2_with fail
                go_roundg n
                case measure => omega
                case rel => exact ⟨k6, ag6, acc ++ [⟨tk, tt⟩], a3, c3, HA11, HS11, .inl ⟨by have := hnl.out; omega, by simp; have := hnl.out; omega, .inr HKE.out.symm, HL2⟩⟩
              · have HL2 := Lib.hid (HR3.out.trans (if_neg (fun e => hk6 (h6i.1 e))))
                have hb4 : (kd == 4) = false := by simpa using hk4
                clear h6i HR3
                refine HKD.out.mono ?_
                rintro e v11 ⟨rfl, hM⟩
                have HA11 := Lib.hid (HA10.out.call0 hM)
                have HS11 := Lib.hid (HS10.out.mod0 hM)
                clear hM HKD HA10 HS10 HFR c0 c1 f0 f1 d0 d1 p0 p1 p0c p1c m78 HB0
                go_wp2_with fail
                go_roundg n
                case measure => omega
                case rel => exact ⟨k6, ag6, acc ++ [⟨tk, tt⟩], a3, c3, HA11, HS11, .inr ⟨by rw [← HKE.out]; exact hk4, by rw [← HKE.out]; exact hk6, HL2⟩⟩
          | false =>
            go_wp2_with fail
            rw [← HGE.out]
            refine (HPT.out _ (.inr ⟨by first | trivial | rfl, rfl⟩)).mono ?_
            rintro e v6 (⟨x, hx, ⟨jk, js, rfl⟩, hE, hM⟩ | ⟨⟨⟨tk, tt⟩, k6, ag6⟩, hx, ⟨rfl, hS⟩, hM⟩)
            · have HX := Lib.hid (HXe.out x (by rw [HR2.out, hx]; rfl))
              have HE := Lib.hid hE
              have hgg : w.heap.size < g5 := by have := HA6.out.hg; have := HG5.out; rw [HGE.out]; omega
              have HA7 := Lib.hid (HA6.out.call hM)
              have hb7 := hM.at HX6.out (H.out.nch (Nat.le_of_lt hgg))
              have p0 : v6.frozen? ⟨g5, 0, none⟩ = false := frozen_at hb7
              have p1 : v6.frozen? ⟨g5, 1, none⟩ = false := frozen_at hb7
              have p0c := cell_at (j := 0) hb7 rfl
              have p1c := cell_at (j := 1) hb7 rfl
              have HB0 := Lib.hid (HA7).out.b0
              have c0 := cell_at (j := 0) (HA7).out.b0 rfl
              have c1 := cell_at (j := 1) (HA7).out.b0 rfl
              have f0 : (v6).frozen? ⟨w.heap.size, 0, none⟩ = false := frozen_at (HA7).out.b0
              have f1 : (v6).frozen? ⟨w.heap.size, 1, none⟩ = false := frozen_at (HA7).out.b0
              have d0 := cell_at (j := 0) (HA7).out.b1 rfl
              have d1 := cell_at (j := 1) (HA7).out.b1 rfl
              have n01 : ¬ g1 = w.heap.size := by have := (HA7).out.hg; omega
              have n10 : ¬ w.heap.size = g1 := by have := (HA7).out.hg; omega
              have n15 : ¬ g1 = g5 := by have := HG5.out; rw [HGE.out]; omega
              have n51 : ¬ g5 = g1 := fun e => n15 e.symm
              have n05 : ¬ w.heap.size = g5 := by omega
              have n50 : ¬ g5 = w.heap.size := by omega
              have m8 : Mod (fun b => b = g5) v6 ((v6.setCell ⟨g5, 0, none⟩ (.int .i64 jk)).setCell ⟨g5, 1, none⟩ (.string js)) := ((Mod.refl (fun b => b = g5) _).setCell (p := ⟨g5, 0, none⟩) (fun _ => rfl) _).setCell (p := ⟨g5, 1, none⟩) (fun _ => rfl) _
              have m78 : Mod (Far w) v6 ((v6.setCell ⟨g5, 0, none⟩ (.int .i64 jk)).setCell ⟨g5, 1, none⟩ (.string js)) := m8.mono fun _ _ e => by unfold Far; omega
              have HA8 := Lib.hid (HA7.out.late m8 hgg n51 (fun b hb e => by have := HA5l.out b hb; rw [HGE.out] at e; omega))
              clear hb7 m8 HA7 HA6 HX6
              clear hx hE hM HPT HR2
              go_wp2_with fail
              replace HB0 := Lib.hid HA8.out.b0
              obtain ⟨w9, hw9⟩ : ∃ w9, w9 = (((((v6.setCell ⟨g5, 0, none⟩ (.int .i64 jk)).setCell ⟨g5, 1, none⟩ (.string js))).setCell ⟨w.heap.size, 0, none⟩ (.string s)).setCell ⟨w.heap.size, 1, none⟩ (.slice a acc.length c)) := ⟨_, rfl⟩
              have b9 : w9.heap[w.heap.size]? = some (.cells #[.string s, .slice a acc.length c] 37 (0, 0)) := by rw [hw9]; exact heap_setCell_at (j := 1) (.slice a acc.length c) (heap_setCell_at (j := 0) (.string s) HB0.out)
              have m9 : Mod (fun b => b = w.heap.size) (((v6.setCell ⟨g5, 0, none⟩ (.int .i64 jk)).setCell ⟨g5, 1, none⟩ (.string js))) w9 := by rw [hw9]; exact ((Mod.refl (fun b => b = w.heap.size) _).setCell (p := ⟨w.heap.size, 0, none⟩) (fun _ => rfl) _).setCell (p := ⟨w.heap.size, 1, none⟩) (fun _ => rfl) _
              have mF : Mod (Far w) (((v6.setCell ⟨g5, 0, none⟩ (.int .i64 jk)).setCell ⟨g5, 1, none⟩ (.string js))) w9 := m9.mono fun _ _ e => Nat.le_of_eq e.symm
              rw [← hw9]
              clear hw9
              have e0 := cell_at (j := 0) b9 rfl
              have e1 := cell_at (j := 1) b9 rfl
              refine bodyPost_ret (v := .tuple #[.agg #[.string s, .slice a acc.length c], .bool false]) (by simp [results, Tryd.results64, go_sem, e0, e1]) rfl ?_
              exact .inl ⟨x, HX.out, ⟨_, _, _, _, rfl⟩, (HE.out.far H.out m78).far H.out mF, Mod.far HA8.out.md mF⟩
            · have HR3 := Lib.hid (show termsGoR false R.S 65 k2 agg [] = if (R.S.tok k6).kind = 6 then termsGoR false R.S n k6 ag6 (acc ++ [⟨tk, tt⟩]) else .ok (acc ++ [⟨tk, tt⟩], k6, ag6) by rw [HR2.out, hx]; rfl)
              unfold tmV
              have hgg : w.heap.size < g5 := by have := HA6.out.hg; have := HG5.out; rw [HGE.out]; omega
              have HA7 := Lib.hid (HA6.out.call hM)
              have hb7 := hM.at HX6.out (H.out.nch (Nat.le_of_lt hgg))
              have p0 : v6.frozen? ⟨g5, 0, none⟩ = false := frozen_at hb7
              have p1 : v6.frozen? ⟨g5, 1, none⟩ = false := frozen_at hb7
              have p0c := cell_at (j := 0) hb7 rfl
              have p1c := cell_at (j := 1) hb7 rfl
              have HB0 := Lib.hid (HA7).out.b0
              have c0 := cell_at (j := 0) (HA7).out.b0 rfl
              have c1 := cell_at (j := 1) (HA7).out.b0 rfl
              have f0 : (v6).frozen? ⟨w.heap.size, 0, none⟩ = false := frozen_at (HA7).out.b0
              have f1 : (v6).frozen? ⟨w.heap.size, 1, none⟩ = false := frozen_at (HA7).out.b0
              have d0 := cell_at (j := 0) (HA7).out.b1 rfl
              have d1 := cell_at (j := 1) (HA7).out.b1 rfl
              have n01 : ¬ g1 = w.heap.size := by have := (HA7).out.hg; omega
              have n10 : ¬ w.heap.size = g1 := by have := (HA7).out.hg; omega
              have n15 : ¬ g1 = g5 := by have := HG5.out; rw [HGE.out]; omega
              have n51 : ¬ g5 = g1 := fun e => n15 e.symm
              have n05 : ¬ w.heap.size = g5 := by omega
              have n50 : ¬ g5 = w.heap.size := by omega
              have m8 : Mod (fun b => b = g5) v6 ((v6.setCell ⟨g5, 0, none⟩ (.int .i64 tk)).setCell ⟨g5, 1, none⟩ (.string tt)) := ((Mod.refl (fun b => b = g5) _).setCell (p := ⟨g5, 0, none⟩) (fun _ => rfl) _).setCell (p := ⟨g5, 1, none⟩) (fun _ => rfl) _
              have m78 : Mod (Far w) v6 ((v6.setCell ⟨g5, 0, none⟩ (.int .i64 tk)).setCell ⟨g5, 1, none⟩ (.string tt)) := m8.mono fun _ _ e => by unfold Far; omega
              have HA8 := Lib.hid (HA7.out.late m8 hgg n51 (fun b hb e => by have := HA5l.out b hb; rw [HGE.out] at e; omega))
              clear hb7 m8 HA7 HA6 HX6
              have HS8 := Lib.hid (H.out.far hS m78)
              have m9 : Mod (fun _ => False) ((v6.setCell ⟨g5, 0, none⟩ (.int .i64 tk)).setCell ⟨g5, 1, none⟩ (.string tt)) (((v6.setCell ⟨g5, 0, none⟩ (.int .i64 tk)).setCell ⟨g5, 1, none⟩ (.string tt)).alloc (.cells #[.int .i64 tk, .string tt] 60)) := (Mod.refl _ _).alloc _
              have HM9 := Lib.hid m9
              have HO9 := Lib.hid (HA8.out.own.mod m9 (fun _ _ => id))
              have HFR := Lib.hid HA8.out.fr
              have HB9 := Lib.hid (m9.at HA8.out.b1 id)
              clear hx hS hM HPT HR2 m9
              go_wp2_with (first
                | (at_builtin; refine wpL_append rfl (.tmp 65) (.tmp 67) 35 35 rfl tiT rfl HO9.out rfl (Src.ofRd tiT.ht 1 1 (Rd.news _ [_, _] 60) (by simp) (by simp [Value.oneCell'])) (by omega) (by unfold maxLen; omega) ?_; intro a3 c3 w9 hO9 hG9 _
                   have hb9 := hG9.mod.at HB9.out (fun e => by have := HFR.out _ e; omega)
                   have y1 := cell_at (j := 1) hb9 rfl
                   have y1f : w9.frozen? ⟨g1, 1, none⟩ = false := frozen_at hb9
                   have hT := HA8.out.step HS8.out ⟨tk, tt⟩ rfl hO9 ⟨_, HM9.out, hG9⟩
                   have HT := Lib.hid hT
                   clear hO9 hG9 hb9 hT HO9 HB9 HM9 HA8 HS8)
                | fail)
              obtain ⟨w10, hw10⟩ : ∃ w10, w10 = w9.setCell ⟨g1, 1, none⟩ (.slice a3 (acc.length + 1) c3) := ⟨_, rfl⟩
              rw [← hw10] at HT ⊢
              clear hw10 y1 y1f
              have HA10 := Lib.hid HT.out.1; have HS10 := Lib.hid HT.out.2
              clear HT
              have HKD := Lib.hid HS10.out.kindC
              have h6i := kindI_iff (S := R.S) (k := k6) (c := 6) (by omega)
              obtain ⟨kd, hkd⟩ : ∃ kd, kd = kindI R.S k6 := ⟨_, rfl⟩
              have HKE := Lib.hid hkd
              rw [← hkd] at HKD h6i
              have hway : kd = 4 ∨ kd = 6 ∨ (kd ≠ 4 ∧ kd ≠ 6) := by omega
              clear hkd
              rcases hway with rfl | rfl | ⟨hk4, hk6⟩
              · have HXF := Lib.hid (HXm.out _ (HR3.out.trans (if_neg (fun e => absurd (h6i.1 e) (by decide)))))
                clear h6i HR3
                refine HKD.out.mono ?_
                rintro e v11 ⟨rfl, hM⟩
                have HA11 := Lib.hid (HA10.out.call0 hM)
                have HS11 := Lib.hid (HS10.out.mod0 hM)
                clear hM HKD HA10 HS10 HFR c0 c1 f0 f1 d0 d1 p0 p1 p0c p1c m78 HB0
                generalize (acc ++ [(⟨tk, tt⟩ : Tm)]) = acc2 at *
                have HT5 := Lib.hid (take1 R k6 ag6 5 v11 (HS11).out (by omega) (v11).heap.size 5)
                go_wp2_with fail
                refine HT5.out.mono ?_
                rintro e wt (⟨x, hx, rfl, hE, hM⟩ | ⟨⟨s5, k5⟩, hx, ⟨rfl, hS⟩, hM⟩)
                · have HX := Lib.hid (show atomR false R.S k agg = .error x by rw [HXF.out, hx]; rfl)
                  have HAt := Lib.hid ((HA11).out.call hM)
                  have HE := Lib.hid hE
                  clear hx hM hE HT5
                  have HB0 := Lib.hid (HAt).out.b0
                  have c0 := cell_at (j := 0) (HAt).out.b0 rfl
                  have c1 := cell_at (j := 1) (HAt).out.b0 rfl
                  have f0 : (wt).frozen? ⟨w.heap.size, 0, none⟩ = false := frozen_at (HAt).out.b0
                  have f1 : (wt).frozen? ⟨w.heap.size, 1, none⟩ = false := frozen_at (HAt).out.b0
                  have d0 := cell_at (j := 0) (HAt).out.b1 rfl
                  have d1 := cell_at (j := 1) (HAt).out.b1 rfl
                  have n01 : ¬ g1 = w.heap.size := by have := (HAt).out.hg; omega
                  have n10 : ¬ w.heap.size = g1 := by have := (HAt).out.hg; omega
                  go_wp2_with fail
                  obtain ⟨w9, hw9⟩ : ∃ w9, w9 = (((wt).setCell ⟨w.heap.size, 0, none⟩ (.string s)).setCell ⟨w.heap.size, 1, none⟩ (.slice a3 acc2.length c3)) := ⟨_, rfl⟩
                  have b9 : w9.heap[w.heap.size]? = some (.cells #[.string s, .slice a3 acc2.length c3] 37 (0, 0)) := by rw [hw9]; exact heap_setCell_at (j := 1) (.slice a3 acc2.length c3) (heap_setCell_at (j := 0) (.string s) HB0.out)
                  have m9 : Mod (fun b => b = w.heap.size) (wt) w9 := by rw [hw9]; exact ((Mod.refl (fun b => b = w.heap.size) _).setCell (p := ⟨w.heap.size, 0, none⟩) (fun _ => rfl) _).setCell (p := ⟨w.heap.size, 1, none⟩) (fun _ => rfl) _
                  have mF : Mod (Far w) (wt) w9 := m9.mono fun _ _ e => Nat.le_of_eq e.symm
                  rw [← hw9]
                  clear hw9
                  have e0 := cell_at (j := 0) b9 rfl
                  have e1 := cell_at (j := 1) b9 rfl
                  refine bodyPost_ret (v := .tuple #[.agg #[.string s, .slice a3 acc2.length c3], .bool false]) (by simp [results, Tryd.results64, go_sem, e0, e1]) rfl ?_
                  exact .inl ⟨x, HX.out, ⟨_, _, _, _, rfl⟩, HE.out.far H.out mF, Mod.far HAt.out.md mF⟩
                · have HX := Lib.hid (show atomR false R.S k agg = .ok (⟨s, acc2⟩, k5, ag6) by rw [HXF.out, hx]; rfl)
                  have HAt := Lib.hid ((HA11).out.call hM)
                  have HS := Lib.hid hS
                  clear hx hM hS HT5
                  have HB0 := Lib.hid (HAt).out.b0
                  have c0 := cell_at (j := 0) (HAt).out.b0 rfl
                  have c1 := cell_at (j := 1) (HAt).out.b0 rfl
                  have f0 : (wt).frozen? ⟨w.heap.size, 0, none⟩ = false := frozen_at (HAt).out.b0
                  have f1 : (wt).frozen? ⟨w.heap.size, 1, none⟩ = false := frozen_at (HAt).out.b0
                  have d0 := cell_at (j := 0) (HAt).out.b1 rfl
                  have d1 := cell_at (j := 1) (HAt).out.b1 rfl
                  have n01 : ¬ g1 = w.heap.size := by have := (HAt).out.hg; omega
                  have n10 : ¬ w.heap.size = g1 := by have := (HAt).out.hg; omega
                  go_wp2_with fail
                  obtain ⟨w9, hw9⟩ : ∃ w9, w9 = (((wt).setCell ⟨w.heap.size, 0, none⟩ (.string s)).setCell ⟨w.heap.size, 1, none⟩ (.slice a3 acc2.length c3)) := ⟨_, rfl⟩
                  have b9 : w9.heap[w.heap.size]? = some (.cells #[.string s, .slice a3 acc2.length c3] 37 (0, 0)) := by rw [hw9]; exact heap_setCell_at (j := 1) (.slice a3 acc2.length c3) (heap_setCell_at (j := 0) (.string s) HB0.out)
                  have m9 : Mod (fun b => b = w.heap.size) (wt) w9 := by rw [hw9]; exact ((Mod.refl (fun b => b = w.heap.size) _).setCell (p := ⟨w.heap.size, 0, none⟩) (fun _ => rfl) _).setCell (p := ⟨w.heap.size, 1, none⟩) (fun _ => rfl) _
                  have mF : Mod (Far w) (wt) w9 := m9.mono fun _ _ e => Nat.le_of_eq e.symm
                  rw [← hw9]
                  clear hw9
                  have e0 := cell_at (j := 0) b9 rfl
                  have e1 := cell_at (j := 1) b9 rfl
                  refine bodyPost_ret (v := .tuple #[.agg #[.string s, .slice a3 acc2.length c3], .bool true]) (by simp [results, Tryd.results64, go_sem, e0, e1]) rfl ?_
                  have hfr := HAt.out.fr
                  exact .inr ⟨_, HX.out, ⟨_, rfl, ⟨_, _, rfl, HAt.out.own.mod m9 (fun b hb e => by have := hfr b hb; omega), fun b hb => by have := hfr b hb; omega⟩, H.out.far HS.out mF⟩, Mod.far HAt.out.md mF⟩
              · have HL2 := Lib.hid (HR3.out.trans (if_pos (h6i.2 rfl)))
                clear h6i HR3
                refine HKD.out.mono ?_
                rintro e v11 ⟨rfl, hM⟩
                have HA11 := Lib.hid (HA10.out.call0 hM)
                have HS11 := Lib.hid (HS10.out.mod0 hM)
                clear hM HKD HA10 HS10 HFR c0 c1 f0 f1 d0 d1 p0 p1 p0c p1c m78 HB0
                go_wp2_with fail
                go_roundg n
                case measure => omega
                case rel => exact ⟨k6, ag6, acc ++ [⟨tk, tt⟩], a3, c3, HA11, HS11, .inl ⟨by have := hnl.out; omega, by simp; have := hnl.out; omega, .inr HKE.out.symm, HL2⟩⟩
              · have HL2 := Lib.hid (HR3.out.trans (if_neg (fun e => hk6 (h6i.1 e))))
                have hb4 : (kd == 4) = false := by simpa using hk4
                clear h6i HR3
                refine HKD.out.mono ?_
                rintro e v11 ⟨rfl, hM⟩
                have HA11 := Lib.hid (HA10.out.call0 hM)
                have HS11 := Lib.hid (HS10.out.mod0 hM)
                clear hM HKD HA10 HS10 HFR c0 c1 f0 f1 d0 d1 p0 p1 p0c p1c m78 HB0
                go_wp2_with fail
                go_roundg n
                case measure => omega
                case rel => exact ⟨k6, ag6, acc ++ [⟨tk, tt⟩], a3, c3, HA11, HS11, .inr ⟨by rw [← HKE.out]; exact hk4, by rw [← HKE.out]; exact hk6, HL2⟩⟩
      · have HXF := Lib.hid (HXm.out _ HL.out)
        have HKD : Hid (∀ W, Mod (fun _ => False) wr W → Calls Tryd.prog 52 #[.pointer (some ⟨R.b, 0, none⟩)] W fun e w' => e = .returned (.int .i64 (kindI R.S k')) ∧ Mod (fun _ => False) wr w') := fun W m => (HS.out.mod0 m).kindC.mono fun e w' ⟨h1, h2⟩ => ⟨h1, m.trans h2⟩
        obtain ⟨kd, hkd⟩ : ∃ kd, kd = kindI R.S k' := ⟨_, rfl⟩
        rw [← hkd] at HKD hk4 hk6
        have hb4 : (kd == 4) = false := by simpa using hk4
        have hb6 : (kd == 6) = false := by simpa using hk6
        clear hkd hk4 hk6 HL
        go_wp2_with fail
        refine (HKD.out _ (Mod.refl _ _)).mono ?_
        rintro e v2 ⟨rfl, hM⟩
        have HM := Lib.hid hM; clear hM
        go_wp2_with fail
        refine (HKD.out _ HM.out).mono ?_
        rintro e v3 ⟨rfl, hM⟩
        have HA3 := Lib.hid (HA.out.call0 hM)
        have HS3 := Lib.hid (HS.out.mod0 hM)
        clear hM HM HKD HA HS hb4
        go_wp2_with fail
        have HT5 := Lib.hid (take1 R k' ag' 5 v3 (HS3).out (by omega) (v3).heap.size 5)
        go_wp2_with fail
        refine HT5.out.mono ?_
        rintro e wt (⟨x, hx, rfl, hE, hM⟩ | ⟨⟨s5, k5⟩, hx, ⟨rfl, hS⟩, hM⟩)
        · have HX := Lib.hid (show atomR head R.S k agg = .error x by rw [HXF.out, hx]; rfl)
          have HAt := Lib.hid ((HA3).out.call hM)
          have HE := Lib.hid hE
          clear hx hM hE HT5
          have HB0 := Lib.hid (HAt).out.b0
          have c0 := cell_at (j := 0) (HAt).out.b0 rfl
          have c1 := cell_at (j := 1) (HAt).out.b0 rfl
          have f0 : (wt).frozen? ⟨w.heap.size, 0, none⟩ = false := frozen_at (HAt).out.b0
          have f1 : (wt).frozen? ⟨w.heap.size, 1, none⟩ = false := frozen_at (HAt).out.b0
          have d0 := cell_at (j := 0) (HAt).out.b1 rfl
          have d1 := cell_at (j := 1) (HAt).out.b1 rfl
          have n01 : ¬ g1 = w.heap.size := by have := (HAt).out.hg; omega
          have n10 : ¬ w.heap.size = g1 := by have := (HAt).out.hg; omega
          go_wp2_with fail
          obtain ⟨w9, hw9⟩ : ∃ w9, w9 = (((wt).setCell ⟨w.heap.size, 0, none⟩ (.string s)).setCell ⟨w.heap.size, 1, none⟩ (.slice a acc.length c)) := ⟨_, rfl⟩
          have b9 : w9.heap[w.heap.size]? = some (.cells #[.string s, .slice a acc.length c] 37 (0, 0)) := by rw [hw9]; exact heap_setCell_at (j := 1) (.slice a acc.length c) (heap_setCell_at (j := 0) (.string s) HB0.out)
          have m9 : Mod (fun b => b = w.heap.size) (wt) w9 := by rw [hw9]; exact ((Mod.refl (fun b => b = w.heap.size) _).setCell (p := ⟨w.heap.size, 0, none⟩) (fun _ => rfl) _).setCell (p := ⟨w.heap.size, 1, none⟩) (fun _ => rfl) _
          have mF : Mod (Far w) (wt) w9 := m9.mono fun _ _ e => Nat.le_of_eq e.symm
          rw [← hw9]
          clear hw9
          have e0 := cell_at (j := 0) b9 rfl
          have e1 := cell_at (j := 1) b9 rfl
          refine bodyPost_ret (v := .tuple #[.agg #[.string s, .slice a acc.length c], .bool false]) (by simp [results, Tryd.results64, go_sem, e0, e1]) rfl ?_
          exact .inl ⟨x, HX.out, ⟨_, _, _, _, rfl⟩, HE.out.far H.out mF, Mod.far HAt.out.md mF⟩
        · have HX := Lib.hid (show atomR head R.S k agg = .ok (⟨s, acc⟩, k5, ag') by rw [HXF.out, hx]; rfl)
          have HAt := Lib.hid ((HA3).out.call hM)
          have HS := Lib.hid hS
          clear hx hM hS HT5
          have HB0 := Lib.hid (HAt).out.b0
          have c0 := cell_at (j := 0) (HAt).out.b0 rfl
          have c1 := cell_at (j := 1) (HAt).out.b0 rfl
          have f0 : (wt).frozen? ⟨w.heap.size, 0, none⟩ = false := frozen_at (HAt).out.b0
          have f1 : (wt).frozen? ⟨w.heap.size, 1, none⟩ = false := frozen_at (HAt).out.b0
          have d0 := cell_at (j := 0) (HAt).out.b1 rfl
          have d1 := cell_at (j := 1) (HAt).out.b1 rfl
          have n01 : ¬ g1 = w.heap.size := by have := (HAt).out.hg; omega
          have n10 : ¬ w.heap.size = g1 := by have := (HAt).out.hg; omega
          go_wp2_with fail
          obtain ⟨w9, hw9⟩ : ∃ w9, w9 = (((wt).setCell ⟨w.heap.size, 0, none⟩ (.string s)).setCell ⟨w.heap.size, 1, none⟩ (.slice a acc.length c)) := ⟨_, rfl⟩
          have b9 : w9.heap[w.heap.size]? = some (.cells #[.string s, .slice a acc.length c] 37 (0, 0)) := by rw [hw9]; exact heap_setCell_at (j := 1) (.slice a acc.length c) (heap_setCell_at (j := 0) (.string s) HB0.out)
          have m9 : Mod (fun b => b = w.heap.size) (wt) w9 := by rw [hw9]; exact ((Mod.refl (fun b => b = w.heap.size) _).setCell (p := ⟨w.heap.size, 0, none⟩) (fun _ => rfl) _).setCell (p := ⟨w.heap.size, 1, none⟩) (fun _ => rfl) _
          have mF : Mod (Far w) (wt) w9 := m9.mono fun _ _ e => Nat.le_of_eq e.symm
          rw [← hw9]
          clear hw9
          have e0 := cell_at (j := 0) b9 rfl
          have e1 := cell_at (j := 1) b9 rfl
          refine bodyPost_ret (v := .tuple #[.agg #[.string s, .slice a acc.length c], .bool true]) (by simp [results, Tryd.results64, go_sem, e0, e1]) rfl ?_
          have hfr := HAt.out.fr
          exact .inr ⟨_, HX.out, ⟨_, rfl, ⟨_, _, rfl, HAt.out.own.mod m9 (fun b hb e => by have := hfr b hb; omega), fun b hb => by have := hfr b hb; omega⟩, H.out.far HS.out mF⟩, Mod.far HAt.out.md mF⟩
  · have HX2 := Lib.hid (show atomR head R.S k agg = .ok (⟨s, []⟩, k2, agg) by
      rw [HX.out]; unfold termsR; rw [if_neg (fun e => h4 ((kindI_iff (c := 4) (by omega)).1 e))]; rfl)
    obtain ⟨kd, hkd⟩ : ∃ kd, kd = kindI R.S k2 := ⟨_, rfl⟩
    rw [← hkd] at HKD h4
    have hkb : (kd == 4) = false := by simpa using h4
    clear hkd h4 HX
    go_wp2_with fail
    refine HKD.out.mono ?_
    rintro e v1 ⟨rfl, hM⟩
    obtain ⟨g1, hg1⟩ : ∃ g1, g1 = w2.heap.size := ⟨_, rfl⟩
    rw [← hg1] at HA ⊢
    have HA1 := Lib.hid (HA.out.call0 hM)
    have HS1 := Lib.hid (HS.out.mod0 hM)
    clear hM HKD HA HS hg1
    have HB0 := Lib.hid (HA1).out.b0
    have c0 := cell_at (j := 0) (HA1).out.b0 rfl
    have c1 := cell_at (j := 1) (HA1).out.b0 rfl
    have f0 : (v1).frozen? ⟨w.heap.size, 0, none⟩ = false := frozen_at (HA1).out.b0
    have f1 : (v1).frozen? ⟨w.heap.size, 1, none⟩ = false := frozen_at (HA1).out.b0
    have d0 := cell_at (j := 0) (HA1).out.b1 rfl
    have d1 := cell_at (j := 1) (HA1).out.b1 rfl
    have n01 : ¬ g1 = w.heap.size := by have := (HA1).out.hg; omega
    have n10 : ¬ w.heap.size = g1 := by have := (HA1).out.hg; omega
    go_wp2_with fail
    obtain ⟨w9, hw9⟩ : ∃ w9, w9 = (((v1).setCell ⟨w.heap.size, 0, none⟩ (.string s)).setCell ⟨w.heap.size, 1, none⟩ (.slice none 0 0)) := ⟨_, rfl⟩
    have b9 : w9.heap[w.heap.size]? = some (.cells #[.string s, .slice none 0 0] 37 (0, 0)) := by rw [hw9]; exact heap_setCell_at (j := 1) (.slice none 0 0) (heap_setCell_at (j := 0) (.string s) HB0.out)
    have m9 : Mod (fun b => b = w.heap.size) (v1) w9 := by rw [hw9]; exact ((Mod.refl (fun b => b = w.heap.size) _).setCell (p := ⟨w.heap.size, 0, none⟩) (fun _ => rfl) _).setCell (p := ⟨w.heap.size, 1, none⟩) (fun _ => rfl) _
    have mF : Mod (Far w) (v1) w9 := m9.mono fun _ _ e => Nat.le_of_eq e.symm
    rw [← hw9]
    clear hw9
    have e0 := cell_at (j := 0) b9 rfl
    have e1 := cell_at (j := 1) b9 rfl
    refine bodyPost_ret (v := .tuple #[.agg #[.string s, .slice none 0 0], .bool true]) (by simp [results, Tryd.results64, go_sem, e0, e1]) rfl ?_
    exact .inr ⟨_, HX2.out, ⟨_, rfl, ⟨none, 0, rfl, Mine.Own.nil _ _ _, by simp⟩, H.out.far HS1.out mF⟩, Mod.far HA1.out.md mF⟩
end Go.Proofs.YtgplagdehfhffaaDoor
/-
  The document's reader: literals.
-/
namespace Go.Proofs.YtgplagdehfhffaaDoor
open Go Go.RowKit Go.Mine
set_option linter.unusedVariables false
set_option maxHeartbeats 1000000
set_option maxRecDepth 100000

theorem rlit_put (W : World) (g : Nat) (u0 u1 u2 u3 u4 u5 u6 u7 : Value) {v0 v1 v2 v3 v4 v5 v6 v7 : Value} {t : TypeId} (h : W.heap[g]? = some (.cells #[v0, v1, v2, v3, v4, v5, v6, v7] t (0, 0))) {W' : World}
    (e : W' = (((((((W.setCell ⟨g, 0, none⟩ u0).setCell ⟨g, 1, none⟩ u1).setCell ⟨g, 2, none⟩ u2).setCell ⟨g, 3, none⟩ u3).setCell ⟨g, 4, none⟩ u4).setCell ⟨g, 5, none⟩ u5).setCell ⟨g, 6, none⟩ u6).setCell ⟨g, 7, none⟩ u7) :
    W'.heap[g]? = some (.cells #[u0, u1, u2, u3, u4, u5, u6, u7] t (0, 0)) ∧ Mod (fun b => b = g) W W' := by
  have h0 : (W.setCell ⟨g, 0, none⟩ u0).heap[g]? = some (.cells #[u0, v1, v2, v3, v4, v5, v6, v7] t (0, 0)) := heap_setCell_at (j := 0) u0 h
  have m0 : Mod (fun b => b = g) W (W.setCell ⟨g, 0, none⟩ u0) := (Mod.refl (fun b => b = g) W).setCell (p := ⟨g, 0, none⟩) (fun _ => rfl) _
  generalize W.setCell ⟨g, 0, none⟩ u0 = W0 at *
  have h1 : (W0.setCell ⟨g, 1, none⟩ u1).heap[g]? = some (.cells #[u0, u1, v2, v3, v4, v5, v6, v7] t (0, 0)) := heap_setCell_at (j := 1) u1 h0
  have m1 : Mod (fun b => b = g) W (W0.setCell ⟨g, 1, none⟩ u1) := m0.setCell (p := ⟨g, 1, none⟩) (fun _ => rfl) _
  generalize W0.setCell ⟨g, 1, none⟩ u1 = W1 at *
  have h2 : (W1.setCell ⟨g, 2, none⟩ u2).heap[g]? = some (.cells #[u0, u1, u2, v3, v4, v5, v6, v7] t (0, 0)) := heap_setCell_at (j := 2) u2 h1
  have m2 : Mod (fun b => b = g) W (W1.setCell ⟨g, 2, none⟩ u2) := m1.setCell (p := ⟨g, 2, none⟩) (fun _ => rfl) _
  generalize W1.setCell ⟨g, 2, none⟩ u2 = W2 at *
  have h3 : (W2.setCell ⟨g, 3, none⟩ u3).heap[g]? = some (.cells #[u0, u1, u2, u3, v4, v5, v6, v7] t (0, 0)) := heap_setCell_at (j := 3) u3 h2
  have m3 : Mod (fun b => b = g) W (W2.setCell ⟨g, 3, none⟩ u3) := m2.setCell (p := ⟨g, 3, none⟩) (fun _ => rfl) _
  generalize W2.setCell ⟨g, 3, none⟩ u3 = W3 at *
  have h4 : (W3.setCell ⟨g, 4, none⟩ u4).heap[g]? = some (.cells #[u0, u1, u2, u3, u4, v5, v6, v7] t (0, 0)) := heap_setCell_at (j := 4) u4 h3
  have m4 : Mod (fun b => b = g) W (W3.setCell ⟨g, 4, none⟩ u4) := m3.setCell (p := ⟨g, 4, none⟩) (fun _ => rfl) _
  generalize W3.setCell ⟨g, 4, none⟩ u4 = W4 at *
  have h5 : (W4.setCell ⟨g, 5, none⟩ u5).heap[g]? = some (.cells #[u0, u1, u2, u3, u4, u5, v6, v7] t (0, 0)) := heap_setCell_at (j := 5) u5 h4
  have m5 : Mod (fun b => b = g) W (W4.setCell ⟨g, 5, none⟩ u5) := m4.setCell (p := ⟨g, 5, none⟩) (fun _ => rfl) _
  generalize W4.setCell ⟨g, 5, none⟩ u5 = W5 at *
  have h6 : (W5.setCell ⟨g, 6, none⟩ u6).heap[g]? = some (.cells #[u0, u1, u2, u3, u4, u5, u6, v7] t (0, 0)) := heap_setCell_at (j := 6) u6 h5
  have m6 : Mod (fun b => b = g) W (W5.setCell ⟨g, 6, none⟩ u6) := m5.setCell (p := ⟨g, 6, none⟩) (fun _ => rfl) _
  generalize W5.setCell ⟨g, 6, none⟩ u6 = W6 at *
  subst e
  exact ⟨heap_setCell_at (j := 7) u7 h6, m6.setCell (p := ⟨g, 7, none⟩) (fun _ => rfl) _⟩
theorem termsGoR_agg {S : Toks} : ∀ {n k : Nat} {agg : Bool} {acc : List Tm} {r : List Tm × Nat × Bool}, termsGoR false S n k agg acc = .ok r → r.2.2 = agg
  | 0, _, _, _, _, h => by cases h
  | n + 1, k, agg, acc, r, h => by
    rw [termsGoR] at h
    cases hw : wantP S (k + 1) [1, 2, 3] with
    | error x => rw [hw] at h; cases h
    | ok u =>
      rw [hw, bind_ok'] at h
      by_cases hl : acc.length = 64
      · rw [if_pos hl] at h; cases h
      · rw [if_neg hl] at h
        unfold oneR at h
        rw [if_neg (by simp)] at h
        cases ht : termP S (k + 1) with
        | error x => rw [ht] at h; cases h
        | ok q =>
          rw [ht, bind_ok', bind_ok'] at h
          by_cases h6 : (S.tok q.2).kind = 6
          · rw [if_pos h6] at h; exact termsGoR_agg h
          · rw [if_neg h6] at h; cases h; rfl
theorem atomR_agg {S : Toks} {k : Nat} {agg : Bool} {r : Am × Nat × Bool} (h : atomR false S k agg = .ok r) : r.2.2 = agg := by
  unfold atomR at h
  cases hw : wordP S k [1] with
  | error x => rw [hw] at h; cases h
  | ok u =>
    rw [hw, bind_ok'] at h
    unfold termsR at h
    by_cases h4 : (S.tok u.2).kind = 4
    · rw [if_pos h4] at h
      cases ht : termsGoR false S 65 u.2 agg [] with
      | error x => rw [ht] at h; cases h
      | ok q =>
        rw [ht, bind_ok'] at h
        cases hz : wordP S q.2.1 [5] with
        | error x => rw [hz] at h; cases h
        | ok z => rw [hz, bind_ok'] at h; cases h; exact termsGoR_agg ht
    · rw [if_neg h4] at h; cases h; rfl
def noLm : Ending → Prop := fun e => ∃ (k : Int) (s : ByteArray) (a : Option Addr) (n c : Nat) (o lk : Int) (ls : ByteArray) (rk : Int) (rs : ByteArray), e = .returned (.tuple #[.agg #[.int .i64 k, .string s, .slice a n c, .int .i64 o, .int .i64 lk, .string ls, .int .i64 rk, .string rs], .bool false])
def ResLg (R : REnv) (lo : Nat) (agg : Bool) (r : Lm × Nat) (e : Ending) (w' : World) : Prop :=
  ∃ v, e = .returned (.tuple #[lmV r.1 v, .bool true]) ∧ TsG w' lo v r.1.atom.terms ∧ RSt w' R r.2 agg
theorem take4 (R : REnv) (k : Nat) (agg : Bool) (w : World) (h : RSt w R k agg) (g : Nat) (hg : g = w.heap.size := by first | rfl | simp) :
    Calls Tryd.prog 102 #[.pointer (some ⟨R.b, 0, none⟩), .slice (some ⟨g, 0, none⟩) 4 4] (w.alloc (.cells #[.int .i64 10, .int .i64 11, .int .i64 12, .int .i64 13] 3)) (QP R w (wordP R.S k opsK) noWord fun r e w' => e = .returned (.tuple #[.string r.1, .bool true]) ∧ RSt w' R r.2 agg) := by
  subst hg
  have m : Mod (fun _ => False) w (w.alloc (.cells #[.int .i64 10, .int .i64 11, .int .i64 12, .int .i64 13] 3)) := (Mod.refl _ w).alloc _
  have h1 := take_any R k agg (some ⟨w.heap.size, 0, none⟩) 4 [10, 11, 12, 13] _ (h.mod0 m) (Rd.news w [.int .i64 10, .int .i64 11, .int .i64 12, .int .i64 13] _) (by simp) (by decide)
  exact h1.mono fun e w' h => QP.pre m h
theorem refLit_any (R : REnv) (k : Nat) (agg : Bool) (w : World) (h : RSt w R k agg) :
    Calls Tryd.prog 101 #[.pointer (some ⟨R.b, 0, none⟩)] w (QP R w (litR R.S k agg) noLm (ResLg R w.heap.size agg)) := by
  have m0 : Mod (fun _ => False) w (w.alloc (.cells #[.int .i64 0, .string ⟨#[]⟩, .slice none 0 0, .int .i64 0, .int .i64 0, .string ⟨#[]⟩, .int .i64 0, .string ⟨#[]⟩] 62)) := (Mod.refl _ w).alloc _
  have HB := Lib.hid (heap_alloc_new w (.cells #[.int .i64 0, .string ⟨#[]⟩, .slice none 0 0, .int .i64 0, .int .i64 0, .string ⟨#[]⟩, .int .i64 0, .string ⟨#[]⟩] 62))
  have HS0 := Lib.hid (h.mod0 m0)
  have HKD := Lib.hid HS0.out.kindC
  have H := Lib.hid h; have M0 := Lib.hid m0
  have hbd := kindI_bd (i := k) h.bk.ok.wf
  clear h m0
  by_cases h9 : kindI R.S k = 9
  · have hlt := (kindI_pos (by omega) h9).2.2
    have HLT := Lib.hid (show litR R.S k agg = (atomR false R.S (k + 1) agg).bind fun r => .ok (⟨2, r.1, 0, tm0, tm0⟩, r.2.1) by unfold litR; rw [if_pos ((kindI_iff (c := 9) (by omega)).2 h9)])
    have hlen := HS0.out.bk.ok.len
    rw [h9] at HKD
    clear h9 hbd
    go_enter Tryd.func101, Tryd.ntmps101
    go_wp2_with fail
    refine HKD.out.mono ?_
    rintro e v3 ⟨rfl, hM⟩
    have hS3 := HS0.out.mod0 hM
    have a2 := hS3.bk.c2
    have a2f := hS3.bk.fz 2
    obtain ⟨h4, m4⟩ := hS3.bk.set (j := 2) (u := .int .i64 ((k : Int) + 1)) (i' := k + 1) (e' := 0) (at' := 0) (agg' := agg) rfl
    have HS4 : Hid (RSt (v3.setCell ⟨R.b, 2, none⟩ (.int .i64 ((k : Int) + 1))) R (k + 1) agg) := ⟨h4, by omega⟩
    have HB4 := Lib.hid (m4.at (hM.at HB.out id) (H.out.nch (Nat.le_refl _)))
    have HM4 := Lib.hid (((M0.out.trans hM).mono (T := R.Ch) fun _ _ f => f.elim).trans m4)
    have hz4 : w.heap.size < (v3.setCell ⟨R.b, 2, none⟩ (.int .i64 ((k : Int) + 1))).heap.size := (Array.getElem?_eq_some_iff.1 HB4.out).1
    clear h4 m4 hS3 hM HKD HB
    have HZ4 := Lib.hid hz4; clear hz4
    go_wp2_with fail
    have hz4 := HZ4.out
    refine (refAtom_any R false (k + 1) agg _ HS4.out).mono ?_
    clear a2 a2f HZ4 HS4
    generalize (v3.setCell ⟨R.b, 2, none⟩ (.int .i64 ((k : Int) + 1))) = v4 at *
    rintro e v5 (⟨x, hx, ⟨js, ja, jn, jc, rfl⟩, hE, hM⟩ | ⟨⟨⟨p, ts⟩, k5, ag5⟩, hx, ⟨v, rfl, ⟨a, c, rfl, hO, hlo⟩, hS⟩, hM⟩)
    · have HX := Lib.hid (show litR R.S k agg = .error x by rw [HLT.out, hx]; rfl)
      have HE := Lib.hid hE
      have HM5 := Lib.hid (HM4.out.trans hM)
      have HBX := Lib.hid (((Mod.refl (fun _ => False) v5).alloc (.cells #[.string js, .slice ja jn jc] 37)).at (hM.at HB4.out (H.out.nch (Nat.le_refl _))) id)
      clear hx hE hM HB4 HM4 HLT
      have c0 := cell_at (j := 0) HBX.out rfl
      have c1 := cell_at (j := 1) HBX.out rfl
      have c2 := cell_at (j := 2) HBX.out rfl
      have c3 := cell_at (j := 3) HBX.out rfl
      have c4 := cell_at (j := 4) HBX.out rfl
      have c5 := cell_at (j := 5) HBX.out rfl
      have c6 := cell_at (j := 6) HBX.out rfl
      have c7 := cell_at (j := 7) HBX.out rfl
      have f0 : ((v5.alloc (.cells #[.string js, .slice ja jn jc] 37))).frozen? ⟨w.heap.size, 0, none⟩ = false := frozen_at HBX.out
      have f1 : ((v5.alloc (.cells #[.string js, .slice ja jn jc] 37))).frozen? ⟨w.heap.size, 1, none⟩ = false := frozen_at HBX.out
      have f2 : ((v5.alloc (.cells #[.string js, .slice ja jn jc] 37))).frozen? ⟨w.heap.size, 2, none⟩ = false := frozen_at HBX.out
      have f3 : ((v5.alloc (.cells #[.string js, .slice ja jn jc] 37))).frozen? ⟨w.heap.size, 3, none⟩ = false := frozen_at HBX.out
      have f4 : ((v5.alloc (.cells #[.string js, .slice ja jn jc] 37))).frozen? ⟨w.heap.size, 4, none⟩ = false := frozen_at HBX.out
      have f5 : ((v5.alloc (.cells #[.string js, .slice ja jn jc] 37))).frozen? ⟨w.heap.size, 5, none⟩ = false := frozen_at HBX.out
      have f6 : ((v5.alloc (.cells #[.string js, .slice ja jn jc] 37))).frozen? ⟨w.heap.size, 6, none⟩ = false := frozen_at HBX.out
      have f7 : ((v5.alloc (.cells #[.string js, .slice ja jn jc] 37))).frozen? ⟨w.heap.size, 7, none⟩ = false := frozen_at HBX.out
      go_wp2_with fail
      obtain ⟨vz, hvz⟩ : ∃ vz, vz = (v5.alloc (.cells #[.string js, .slice ja jn jc] 37)) := ⟨_, rfl⟩
      have mZ0 : Mod (fun _ => False) v5 vz := by rw [hvz]; exact (Mod.refl _ v5).alloc _
      have mZ : Mod (Far w) v5 vz := mZ0.mono fun _ _ f => f.elim
      rw [← hvz] at HBX ⊢
      clear hvz
      obtain ⟨w9, hw9⟩ : ∃ w9, w9 = (((((((vz.setCell ⟨w.heap.size, 0, none⟩ (.int .i64 2)).setCell ⟨w.heap.size, 1, none⟩ (.string js)).setCell ⟨w.heap.size, 2, none⟩ (.slice ja jn jc)).setCell ⟨w.heap.size, 3, none⟩ (.int .i64 0)).setCell ⟨w.heap.size, 4, none⟩ (.int .i64 0)).setCell ⟨w.heap.size, 5, none⟩ (.string ⟨#[]⟩)).setCell ⟨w.heap.size, 6, none⟩ (.int .i64 0)).setCell ⟨w.heap.size, 7, none⟩ (.string ⟨#[]⟩) := ⟨_, rfl⟩
      obtain ⟨b9, m9⟩ := rlit_put vz w.heap.size (.int .i64 2) (.string js) (.slice ja jn jc) (.int .i64 0) (.int .i64 0) (.string ⟨#[]⟩) (.int .i64 0) (.string ⟨#[]⟩) HBX.out hw9
      rw [← hw9]
      clear hw9
      have e0 := cell_at (j := 0) b9 rfl
      have e1 := cell_at (j := 1) b9 rfl
      have e2 := cell_at (j := 2) b9 rfl
      have e3 := cell_at (j := 3) b9 rfl
      have e4 := cell_at (j := 4) b9 rfl
      have e5 := cell_at (j := 5) b9 rfl
      have e6 := cell_at (j := 6) b9 rfl
      have e7 := cell_at (j := 7) b9 rfl
      have mF : Mod (Far w) vz w9 := m9.mono fun _ _ e => Nat.le_of_eq e.symm
      refine bodyPost_ret (v := .tuple #[.agg #[.int .i64 2, .string js, .slice ja jn jc, .int .i64 0, .int .i64 0, .string ⟨#[]⟩, .int .i64 0, .string ⟨#[]⟩], .bool false]) (by simp [results, Tryd.results101, go_sem, e0, e1, e2, e3, e4, e5, e6, e7]) rfl ?_
      exact .inl ⟨x, HX.out, ⟨_, _, _, _, _, _, _, _, _, _, rfl⟩, HE.out.far H.out (mZ.trans mF), Mod.far HM5.out (mZ.trans mF)⟩
    · have hag : ag5 = agg := atomR_agg hx
      simp only at hS
      rw [hag] at hS
      have HX := Lib.hid (show litR R.S k agg = .ok (⟨2, ⟨p, ts⟩, 0, tm0, tm0⟩, k5) by rw [HLT.out, hx]; rfl)
      have HS := Lib.hid hS; have HO := Lib.hid hO; have HLO := Lib.hid hlo
      have HZ4 := Lib.hid hz4
      have HM5 := Lib.hid (HM4.out.trans hM)
      have HBX := Lib.hid (((Mod.refl (fun _ => False) v5).alloc (.cells #[.string p, .slice a ts.length c] 37)).at (hM.at HB4.out (H.out.nch (Nat.le_refl _))) id)
      clear hx hag hS hM HB4 HM4 HLT hO hlo hz4
      have c0 := cell_at (j := 0) HBX.out rfl
      have c1 := cell_at (j := 1) HBX.out rfl
      have c2 := cell_at (j := 2) HBX.out rfl
      have c3 := cell_at (j := 3) HBX.out rfl
      have c4 := cell_at (j := 4) HBX.out rfl
      have c5 := cell_at (j := 5) HBX.out rfl
      have c6 := cell_at (j := 6) HBX.out rfl
      have c7 := cell_at (j := 7) HBX.out rfl
      have f0 : ((v5.alloc (.cells #[.string p, .slice a ts.length c] 37))).frozen? ⟨w.heap.size, 0, none⟩ = false := frozen_at HBX.out
      have f1 : ((v5.alloc (.cells #[.string p, .slice a ts.length c] 37))).frozen? ⟨w.heap.size, 1, none⟩ = false := frozen_at HBX.out
      have f2 : ((v5.alloc (.cells #[.string p, .slice a ts.length c] 37))).frozen? ⟨w.heap.size, 2, none⟩ = false := frozen_at HBX.out
      have f3 : ((v5.alloc (.cells #[.string p, .slice a ts.length c] 37))).frozen? ⟨w.heap.size, 3, none⟩ = false := frozen_at HBX.out
      have f4 : ((v5.alloc (.cells #[.string p, .slice a ts.length c] 37))).frozen? ⟨w.heap.size, 4, none⟩ = false := frozen_at HBX.out
      have f5 : ((v5.alloc (.cells #[.string p, .slice a ts.length c] 37))).frozen? ⟨w.heap.size, 5, none⟩ = false := frozen_at HBX.out
      have f6 : ((v5.alloc (.cells #[.string p, .slice a ts.length c] 37))).frozen? ⟨w.heap.size, 6, none⟩ = false := frozen_at HBX.out
      have f7 : ((v5.alloc (.cells #[.string p, .slice a ts.length c] 37))).frozen? ⟨w.heap.size, 7, none⟩ = false := frozen_at HBX.out
      go_wp2_with fail
      obtain ⟨vz, hvz⟩ : ∃ vz, vz = (v5.alloc (.cells #[.string p, .slice a ts.length c] 37)) := ⟨_, rfl⟩
      have mZ0 : Mod (fun _ => False) v5 vz := by rw [hvz]; exact (Mod.refl _ v5).alloc _
      have mZ : Mod (Far w) v5 vz := mZ0.mono fun _ _ f => f.elim
      rw [← hvz] at HBX ⊢
      clear hvz
      obtain ⟨w9, hw9⟩ : ∃ w9, w9 = (((((((vz.setCell ⟨w.heap.size, 0, none⟩ (.int .i64 2)).setCell ⟨w.heap.size, 1, none⟩ (.string p)).setCell ⟨w.heap.size, 2, none⟩ (.slice a ts.length c)).setCell ⟨w.heap.size, 3, none⟩ (.int .i64 0)).setCell ⟨w.heap.size, 4, none⟩ (.int .i64 0)).setCell ⟨w.heap.size, 5, none⟩ (.string ⟨#[]⟩)).setCell ⟨w.heap.size, 6, none⟩ (.int .i64 0)).setCell ⟨w.heap.size, 7, none⟩ (.string ⟨#[]⟩) := ⟨_, rfl⟩
      obtain ⟨b9, m9⟩ := rlit_put vz w.heap.size (.int .i64 2) (.string p) (.slice a ts.length c) (.int .i64 0) (.int .i64 0) (.string ⟨#[]⟩) (.int .i64 0) (.string ⟨#[]⟩) HBX.out hw9
      rw [← hw9]
      clear hw9
      have e0 := cell_at (j := 0) b9 rfl
      have e1 := cell_at (j := 1) b9 rfl
      have e2 := cell_at (j := 2) b9 rfl
      have e3 := cell_at (j := 3) b9 rfl
      have e4 := cell_at (j := 4) b9 rfl
      have e5 := cell_at (j := 5) b9 rfl
      have e6 := cell_at (j := 6) b9 rfl
      have e7 := cell_at (j := 7) b9 rfl
      have mF : Mod (Far w) vz w9 := m9.mono fun _ _ e => Nat.le_of_eq e.symm
      refine bodyPost_ret (v := .tuple #[.agg #[.int .i64 2, .string p, .slice a ts.length c, .int .i64 0, .int .i64 0, .string ⟨#[]⟩, .int .i64 0, .string ⟨#[]⟩], .bool true]) (by simp [results, Tryd.results101, go_sem, e0, e1, e2, e3, e4, e5, e6, e7]) rfl ?_
      have hlo := HLO.out; have hz4 := HZ4.out
      exact .inr ⟨_, HX.out, ⟨_, rfl, ⟨_, _, rfl, (HO.out.mod mZ0 (fun _ _ => id)).mod m9 (fun b hb e => by have := hlo b hb; omega), fun b hb => by have := hlo b hb; omega⟩, H.out.far HS.out (mZ.trans mF)⟩, Mod.far HM5.out (mZ.trans mF)⟩
  · have HKA : Hid (∀ W, Mod (fun _ => False) (w.alloc (.cells #[.int .i64 0, .string ⟨#[]⟩, .slice none 0 0, .int .i64 0, .int .i64 0, .string ⟨#[]⟩, .int .i64 0, .string ⟨#[]⟩] 62)) W → Calls Tryd.prog 52 #[.pointer (some ⟨R.b, 0, none⟩)] W fun e w' => e = .returned (.int .i64 (kindI R.S k)) ∧ Mod (fun _ => False) (w.alloc (.cells #[.int .i64 0, .string ⟨#[]⟩, .slice none 0 0, .int .i64 0, .int .i64 0, .string ⟨#[]⟩, .int .i64 0, .string ⟨#[]⟩] 62)) w') := fun W m => (HS0.out.mod0 m).kindC.mono fun e w' ⟨h1, h2⟩ => ⟨h1, m.trans h2⟩
    clear HKD
    have HL0 := Lib.hid (show litR R.S k agg = if (R.S.tok k).kind = 1 ∧ ¬ (10 ≤ (R.S.tok (k + 1)).kind ∧ (R.S.tok (k + 1)).kind ≤ 13) then (atomR false R.S k agg).bind fun r => .ok (⟨1, r.1, 0, tm0, tm0⟩, r.2.1)
      else (termP R.S k).bind fun r => cmpR R.S r.2 r.1 by unfold litR; rw [if_neg (fun e => h9 ((kindI_iff (c := 9) (by omega)).1 e))])
    by_cases h1 : kindI R.S k = 1
    · have hlt := (kindI_pos (by omega) h1).2.2
      have hlen := HS0.out.bk.ok.len
      have HK1 := Lib.hid ((kindI_iff (S := R.S) (k := k) (c := 1) (by omega)).2 h1)
      rw [h1] at HKA
      clear h1 h9 hbd
      go_enter Tryd.func101, Tryd.ntmps101
      go_wp2_with fail
      refine (HKA.out _ (Mod.refl _ _)).mono ?_
      rintro e v2 ⟨rfl, hM⟩
      have HM := Lib.hid hM; clear hM
      go_wp2_with fail
      refine (HKA.out _ HM.out).mono ?_
      rintro e v3 ⟨rfl, hM⟩
      have HS3 := Lib.hid (HS0.out.mod0 hM)
      have HB3 := Lib.hid (hM.at HB.out id)
      have HM3 := Lib.hid ((M0.out.trans hM).mono (T := R.Ch) fun _ _ f => f.elim)
      have hz3 : w.heap.size < v3.heap.size := (Array.getElem?_eq_some_iff.1 HB3.out).1
      clear hM HM HKA HB M0 HS0
      obtain ⟨lb, lo, hla, x0, -, -⟩ := rtok_at (i := k + 1) HS3.out.bk.rd hlt
      have q0 := HS3.out.bk.c0
      have q2 := HS3.out.bk.c2
      rw [hla] at q0
      have hbd := kindI_bd (i := k + 1) HS3.out.bk.ok.wf
      have HKN := Lib.hid (show ∀ c : Nat, 0 < c → ((R.S.tok (k + 1)).kind = c ↔ kindI R.S (k + 1) = (c : Int)) from fun c hc => kindI_iff hc)
      obtain ⟨kn, hkn⟩ : ∃ kn, kn = kindI R.S (k + 1) := ⟨_, rfl⟩
      have HKE := Lib.hid hkn
      have HRNG := Lib.hid (show (10 ≤ (R.S.tok (k + 1)).kind ∧ (R.S.tok (k + 1)).kind ≤ 13) ↔ (10 ≤ kn ∧ kn ≤ 13) by
        rw [hkn]; unfold kindI
        cases hb : R.S.bad (k + 1) with
        | true => have := bad_kind hb; rw [if_pos rfl]; omega
        | false => rw [if_neg (by simp)]; omega)
      rw [← hkn] at x0 hbd
      have HZ3 := Lib.hid hz3
      clear hkn HKN HKE hz3
      by_cases hr : 10 ≤ kn ∧ kn ≤ 13
      · have HLT := Lib.hid (HL0.out.trans (if_neg (fun h => h.2 (HRNG.out.2 hr))))
        obtain ⟨hr1, hr2⟩ := hr
        clear HL0 HRNG HK1
        go_wp2_with fail
        refine wp_region_ord (fun w' => w'.cell? ⟨R.b, 0, none⟩ = some (.slice (some ⟨lb, lo, none⟩) (R.S.ts.length + 1) R.lc) ∧ w'.cell? ⟨R.b, 2, none⟩ = some (.int .i64 k) ∧ w'.cell? ⟨lb, lo + (k + 1) * 3, none⟩ = some (.int .i64 kn)) [(0, 0), (0, 1), (0, 2), (1, 3), (0, 4), (0, 5), (0, 6), (1, 7), (0, 8), (0, 9), (0, 10), (1, 11), (0, 12)] (by kernel_rfl) (by kernel_rfl) ?_
        go_wp2_with (first
          | (refine ord_pure rfl rfl rfl (fun K hK => ?_); go_big_quiet_op; refine hK _ ?_; clear hK K)
                        | (refine ord_skip rfl rfl ?_; simp only [Act.put, List.setIfInBounds_toArray, List.set_cons_zero, List.set_cons_succ])
                        | (refine ord_held rfl rfl rfl (⟨by simpa using q0, by simpa using q2, by simpa using x0⟩) (fun K hK => ?_); apply Exists.intro; refine ⟨fun w' hs => ?_, hK _ ?_⟩; (revert hs; dsimp only; (try simp only [and_imp]); intros; go_simp; rfl); clear hK K)
                        | (refine ord_keep rfl rfl (⟨by simpa using q0, by simpa using q2, by simpa using x0⟩) (fun K hK => ?_))
                        | (refine ord_drop rfl rfl (fun K hK => ?_))
                        | (refine ord_nil ?_))
        have mD := (Mod.refl (fun _ => False) v3).drew
        have HS4 := Lib.hid (HS3.out.mod0 mD)
        have HB4 := Lib.hid (mD.at HB3.out id)
        have HM4 := Lib.hid (HM3.out.trans (mD.mono fun _ _ f => f.elim))
        have hz4 : w.heap.size < v3.drew.heap.size := HZ3.out
        obtain ⟨v4, hv4⟩ : ∃ v4, v4 = v3.drew := ⟨_, rfl⟩
        rw [← hv4] at HS4 HB4 HM4 hz4 ⊢
        clear hv4 mD HS3 HB3 HM3 HZ3 q0 q2 x0
        have HT := Lib.hid (refTerm_any R k agg v4 HS4.out)
        go_wp2_with fail
        refine HT.out.mono ?_
        rintro e v5 (⟨x, hx, ⟨jk, js, rfl⟩, hE, hM⟩ | ⟨⟨⟨tk, s⟩, k5⟩, hx, ⟨rfl, hS⟩, hM⟩)
        · have HX := Lib.hid (show litR R.S k agg = .error x by rw [HLT.out, hx]; rfl)
          have HE := Lib.hid hE
          have HM5 := Lib.hid (HM4.out.trans hM)
          have HBX := Lib.hid (((Mod.refl (fun _ => False) v5).alloc (.cells #[.int .i64 jk, .string js] 60)).at (hM.at HB4.out (H.out.nch (Nat.le_refl _))) id)
          clear hx hE hM HB4 HM4 HLT HT
          have c0 := cell_at (j := 0) HBX.out rfl
          have c1 := cell_at (j := 1) HBX.out rfl
          have c2 := cell_at (j := 2) HBX.out rfl
          have c3 := cell_at (j := 3) HBX.out rfl
          have c4 := cell_at (j := 4) HBX.out rfl
          have c5 := cell_at (j := 5) HBX.out rfl
          have c6 := cell_at (j := 6) HBX.out rfl
          have c7 := cell_at (j := 7) HBX.out rfl
          have f0 : ((v5.alloc (.cells #[.int .i64 jk, .string js] 60))).frozen? ⟨w.heap.size, 0, none⟩ = false := frozen_at HBX.out
          have f1 : ((v5.alloc (.cells #[.int .i64 jk, .string js] 60))).frozen? ⟨w.heap.size, 1, none⟩ = false := frozen_at HBX.out
          have f2 : ((v5.alloc (.cells #[.int .i64 jk, .string js] 60))).frozen? ⟨w.heap.size, 2, none⟩ = false := frozen_at HBX.out
          have f3 : ((v5.alloc (.cells #[.int .i64 jk, .string js] 60))).frozen? ⟨w.heap.size, 3, none⟩ = false := frozen_at HBX.out
          have f4 : ((v5.alloc (.cells #[.int .i64 jk, .string js] 60))).frozen? ⟨w.heap.size, 4, none⟩ = false := frozen_at HBX.out
          have f5 : ((v5.alloc (.cells #[.int .i64 jk, .string js] 60))).frozen? ⟨w.heap.size, 5, none⟩ = false := frozen_at HBX.out
          have f6 : ((v5.alloc (.cells #[.int .i64 jk, .string js] 60))).frozen? ⟨w.heap.size, 6, none⟩ = false := frozen_at HBX.out
          have f7 : ((v5.alloc (.cells #[.int .i64 jk, .string js] 60))).frozen? ⟨w.heap.size, 7, none⟩ = false := frozen_at HBX.out
          go_wp2_with fail
          obtain ⟨vz, hvz⟩ : ∃ vz, vz = (v5.alloc (.cells #[.int .i64 jk, .string js] 60)) := ⟨_, rfl⟩
          have mZ0 : Mod (fun _ => False) v5 vz := by rw [hvz]; exact (Mod.refl _ v5).alloc _
          have mZ : Mod (Far w) v5 vz := mZ0.mono fun _ _ f => f.elim
          rw [← hvz] at HBX ⊢
          clear hvz
          obtain ⟨w9, hw9⟩ : ∃ w9, w9 = (((((((vz.setCell ⟨w.heap.size, 0, none⟩ (.int .i64 0)).setCell ⟨w.heap.size, 1, none⟩ (.string ⟨#[]⟩)).setCell ⟨w.heap.size, 2, none⟩ (.slice none 0 0)).setCell ⟨w.heap.size, 3, none⟩ (.int .i64 0)).setCell ⟨w.heap.size, 4, none⟩ (.int .i64 0)).setCell ⟨w.heap.size, 5, none⟩ (.string ⟨#[]⟩)).setCell ⟨w.heap.size, 6, none⟩ (.int .i64 0)).setCell ⟨w.heap.size, 7, none⟩ (.string ⟨#[]⟩) := ⟨_, rfl⟩
          obtain ⟨b9, m9⟩ := rlit_put vz w.heap.size (.int .i64 0) (.string ⟨#[]⟩) (.slice none 0 0) (.int .i64 0) (.int .i64 0) (.string ⟨#[]⟩) (.int .i64 0) (.string ⟨#[]⟩) HBX.out hw9
          rw [← hw9]
          clear hw9
          have e0 := cell_at (j := 0) b9 rfl
          have e1 := cell_at (j := 1) b9 rfl
          have e2 := cell_at (j := 2) b9 rfl
          have e3 := cell_at (j := 3) b9 rfl
          have e4 := cell_at (j := 4) b9 rfl
          have e5 := cell_at (j := 5) b9 rfl
          have e6 := cell_at (j := 6) b9 rfl
          have e7 := cell_at (j := 7) b9 rfl
          have mF : Mod (Far w) vz w9 := m9.mono fun _ _ e => Nat.le_of_eq e.symm
          refine bodyPost_ret (v := .tuple #[.agg #[.int .i64 0, .string ⟨#[]⟩, .slice none 0 0, .int .i64 0, .int .i64 0, .string ⟨#[]⟩, .int .i64 0, .string ⟨#[]⟩], .bool false]) (by simp [results, Tryd.results101, go_sem, e0, e1, e2, e3, e4, e5, e6, e7]) rfl ?_
          exact .inl ⟨x, HX.out, ⟨_, _, _, _, _, _, _, _, _, _, rfl⟩, HE.out.far H.out (mZ.trans mF), Mod.far HM5.out (mZ.trans mF)⟩
        have HL2 := Lib.hid (show litR R.S k agg = (wordP R.S k5 opsK).bind fun _ => (termP R.S (k5 + 1)).bind fun r => .ok (⟨3, ⟨emptyB, []⟩, (R.S.tok k5).kind - 9, ⟨tk, s⟩, r.1⟩, r.2) by rw [HLT.out, hx]; rfl)
        have m6 : Mod (fun _ => False) v5 (v5.alloc (.cells #[.int .i64 tk, .string s] 60)) := (Mod.refl _ v5).alloc _
        have hb6 := m6.at (hM.at HB4.out (H.out.nch (Nat.le_refl _))) id
        have hx6 := heap_alloc_new v5 (.cells #[.int .i64 tk, .string s] 60)
        have HM6 := Lib.hid ((HM4.out.trans hM).trans (m6.mono fun _ _ f => f.elim))
        have HS6 := Lib.hid (hS.mod0 m6)
        have HB6 := Lib.hid hb6
        have hz6 : w.heap.size < v5.heap.size := Nat.lt_of_lt_of_le hz4 hM.size
        obtain ⟨g6, hg6⟩ : ∃ g6, g6 = v5.heap.size := ⟨_, rfl⟩
        rw [← hg6] at hx6 hz6
        have HX6 := Lib.hid hx6; have HZ6 := Lib.hid hz6; have HG6 := Lib.hid hg6
        have HKD6 := Lib.hid HS6.out.kindC
        have hbd6 := kindI_bd (i := k5) HS6.out.bk.ok.wf
        unfold tmV
        clear hx hS hM m6 hb6 hx6 hz6 hg6 hz4 HB4 HM4 HLT HT HS4
        go_wp2_with fail
        rw [← HG6.out]
        refine HKD6.out.mono ?_
        rintro e v7 ⟨rfl, hM⟩
        obtain ⟨kd, hkd⟩ : ∃ kd, kd = kindI R.S k5 := ⟨_, rfl⟩
        rw [← hkd] at hbd6 ⊢
        have HKE := Lib.hid hkd
        have HB7 := Lib.hid (hM.at HB6.out id)
        have HX7 := Lib.hid (hM.at HX6.out id)
        have HM7 := Lib.hid (HM6.out.trans (hM.mono fun _ _ f => f.elim))
        have HT4 := Lib.hid (take4 R k5 agg v7 (HS6.out.mod0 hM) v7.heap.size)
        clear hkd hM HB6 HX6 HM6 HS6 HKD6 HG6
        go_wp2_with fail
        refine HT4.out.mono ?_
        rintro e v8 (⟨x, hx, rfl, hE, hM⟩ | ⟨⟨s8, k8⟩, hx, ⟨rfl, hS⟩, hM⟩)
        · have HX := Lib.hid (show litR R.S k agg = .error x by rw [HL2.out, hx]; rfl)
          have HE := Lib.hid hE
          have HM8 := Lib.hid (HM7.out.trans hM)
          have HBX := Lib.hid (hM.at HB7.out (H.out.nch (Nat.le_refl _)))
          clear hx hE hM HB7 HX7 HM7 HL2 HT4
          have c0 := cell_at (j := 0) HBX.out rfl
          have c1 := cell_at (j := 1) HBX.out rfl
          have c2 := cell_at (j := 2) HBX.out rfl
          have c3 := cell_at (j := 3) HBX.out rfl
          have c4 := cell_at (j := 4) HBX.out rfl
          have c5 := cell_at (j := 5) HBX.out rfl
          have c6 := cell_at (j := 6) HBX.out rfl
          have c7 := cell_at (j := 7) HBX.out rfl
          have f0 : (v8).frozen? ⟨w.heap.size, 0, none⟩ = false := frozen_at HBX.out
          have f1 : (v8).frozen? ⟨w.heap.size, 1, none⟩ = false := frozen_at HBX.out
          have f2 : (v8).frozen? ⟨w.heap.size, 2, none⟩ = false := frozen_at HBX.out
          have f3 : (v8).frozen? ⟨w.heap.size, 3, none⟩ = false := frozen_at HBX.out
          have f4 : (v8).frozen? ⟨w.heap.size, 4, none⟩ = false := frozen_at HBX.out
          have f5 : (v8).frozen? ⟨w.heap.size, 5, none⟩ = false := frozen_at HBX.out
          have f6 : (v8).frozen? ⟨w.heap.size, 6, none⟩ = false := frozen_at HBX.out
          have f7 : (v8).frozen? ⟨w.heap.size, 7, none⟩ = false := frozen_at HBX.out
          go_wp2_with fail
          obtain ⟨vz, hvz⟩ : ∃ vz, vz = v8 := ⟨_, rfl⟩
          have mZ0 : Mod (fun _ => False) v8 vz := by rw [hvz]; exact Mod.refl _ v8
          have mZ : Mod (Far w) v8 vz := mZ0.mono fun _ _ f => f.elim
          rw [← hvz] at HBX ⊢
          clear hvz
          obtain ⟨w9, hw9⟩ : ∃ w9, w9 = (((((((vz.setCell ⟨w.heap.size, 0, none⟩ (.int .i64 0)).setCell ⟨w.heap.size, 1, none⟩ (.string ⟨#[]⟩)).setCell ⟨w.heap.size, 2, none⟩ (.slice none 0 0)).setCell ⟨w.heap.size, 3, none⟩ (.int .i64 0)).setCell ⟨w.heap.size, 4, none⟩ (.int .i64 0)).setCell ⟨w.heap.size, 5, none⟩ (.string ⟨#[]⟩)).setCell ⟨w.heap.size, 6, none⟩ (.int .i64 0)).setCell ⟨w.heap.size, 7, none⟩ (.string ⟨#[]⟩) := ⟨_, rfl⟩
          obtain ⟨b9, m9⟩ := rlit_put vz w.heap.size (.int .i64 0) (.string ⟨#[]⟩) (.slice none 0 0) (.int .i64 0) (.int .i64 0) (.string ⟨#[]⟩) (.int .i64 0) (.string ⟨#[]⟩) HBX.out hw9
          rw [← hw9]
          clear hw9
          have e0 := cell_at (j := 0) b9 rfl
          have e1 := cell_at (j := 1) b9 rfl
          have e2 := cell_at (j := 2) b9 rfl
          have e3 := cell_at (j := 3) b9 rfl
          have e4 := cell_at (j := 4) b9 rfl
          have e5 := cell_at (j := 5) b9 rfl
          have e6 := cell_at (j := 6) b9 rfl
          have e7 := cell_at (j := 7) b9 rfl
          have mF : Mod (Far w) vz w9 := m9.mono fun _ _ e => Nat.le_of_eq e.symm
          refine bodyPost_ret (v := .tuple #[.agg #[.int .i64 0, .string ⟨#[]⟩, .slice none 0 0, .int .i64 0, .int .i64 0, .string ⟨#[]⟩, .int .i64 0, .string ⟨#[]⟩], .bool false]) (by simp [results, Tryd.results101, go_sem, e0, e1, e2, e3, e4, e5, e6, e7]) rfl ?_
          exact .inl ⟨x, HX.out, ⟨_, _, _, _, _, _, _, _, _, _, rfl⟩, HE.out.far H.out (mZ.trans mF), Mod.far HM8.out (mZ.trans mF)⟩
        obtain ⟨hb, hct, -, he8⟩ := wordP_ok hx
        simp only [Prod.mk.injEq] at he8
        obtain ⟨-, rfl⟩ := he8
        have hko : 10 ≤ kd ∧ kd ≤ 13 ∧ ((R.S.tok k5).kind : Int) = kd := by
          have h1 := kindI_good (R := R) hb
          rw [← HKE.out] at h1
          unfold opsK at hct
          simp at hct
          omega
        obtain ⟨hk1, hk2, hk3⟩ := hko
        have HL3 := Lib.hid (show litR R.S k agg = (termP R.S (k5 + 1)).bind fun r => .ok (⟨3, ⟨emptyB, []⟩, kd - 9, ⟨tk, s⟩, r.1⟩, r.2) by rw [HL2.out, hx, bind_ok', hk3])
        have HM8 := Lib.hid (HM7.out.trans hM)
        have HB8 := Lib.hid (hM.at HB7.out (H.out.nch (Nat.le_refl _)))
        have HX8 := Lib.hid (hM.at HX7.out (H.out.nch (Nat.le_of_lt HZ6.out)))
        have HTT := Lib.hid (refTerm_any R (k5 + 1) agg v8 hS)
        clear hb hct hk3 hx hS hM HB7 HX7 HM7 HL2 HT4
        go_wp2_with fail
        refine HTT.out.mono ?_
        rintro e v9 (⟨x, hx, ⟨jk, js, rfl⟩, hE, hM⟩ | ⟨⟨⟨rk, rs⟩, k9⟩, hx, ⟨rfl, hS⟩, hM⟩)
        · have HX := Lib.hid (show litR R.S k agg = .error x by rw [HL3.out, hx]; rfl)
          have HE := Lib.hid hE
          have HM9 := Lib.hid (HM8.out.trans hM)
          have HBX := Lib.hid (((Mod.refl (fun _ => False) v9).alloc (.cells #[.int .i64 jk, .string js] 60)).at (hM.at HB8.out (H.out.nch (Nat.le_refl _))) id)
          have hx9 := ((Mod.refl (fun _ => False) v9).alloc (.cells #[.int .i64 jk, .string js] 60)).at (hM.at HX8.out (H.out.nch (Nat.le_of_lt HZ6.out))) id
          have x0 := cell_at (j := 0) hx9 rfl
          have x1 := cell_at (j := 1) hx9 rfl
          clear hx hE hM HB8 HX8 HM8 HL3 HTT hx9
          have c0 := cell_at (j := 0) HBX.out rfl
          have c1 := cell_at (j := 1) HBX.out rfl
          have c2 := cell_at (j := 2) HBX.out rfl
          have c3 := cell_at (j := 3) HBX.out rfl
          have c4 := cell_at (j := 4) HBX.out rfl
          have c5 := cell_at (j := 5) HBX.out rfl
          have c6 := cell_at (j := 6) HBX.out rfl
          have c7 := cell_at (j := 7) HBX.out rfl
          have f0 : ((v9.alloc (.cells #[.int .i64 jk, .string js] 60))).frozen? ⟨w.heap.size, 0, none⟩ = false := frozen_at HBX.out
          have f1 : ((v9.alloc (.cells #[.int .i64 jk, .string js] 60))).frozen? ⟨w.heap.size, 1, none⟩ = false := frozen_at HBX.out
          have f2 : ((v9.alloc (.cells #[.int .i64 jk, .string js] 60))).frozen? ⟨w.heap.size, 2, none⟩ = false := frozen_at HBX.out
          have f3 : ((v9.alloc (.cells #[.int .i64 jk, .string js] 60))).frozen? ⟨w.heap.size, 3, none⟩ = false := frozen_at HBX.out
          have f4 : ((v9.alloc (.cells #[.int .i64 jk, .string js] 60))).frozen? ⟨w.heap.size, 4, none⟩ = false := frozen_at HBX.out
          have f5 : ((v9.alloc (.cells #[.int .i64 jk, .string js] 60))).frozen? ⟨w.heap.size, 5, none⟩ = false := frozen_at HBX.out
          have f6 : ((v9.alloc (.cells #[.int .i64 jk, .string js] 60))).frozen? ⟨w.heap.size, 6, none⟩ = false := frozen_at HBX.out
          have f7 : ((v9.alloc (.cells #[.int .i64 jk, .string js] 60))).frozen? ⟨w.heap.size, 7, none⟩ = false := frozen_at HBX.out
          go_wp2_with fail
          obtain ⟨vz, hvz⟩ : ∃ vz, vz = (v9.alloc (.cells #[.int .i64 jk, .string js] 60)) := ⟨_, rfl⟩
          have mZ0 : Mod (fun _ => False) v9 vz := by rw [hvz]; exact (Mod.refl _ v9).alloc _
          have mZ : Mod (Far w) v9 vz := mZ0.mono fun _ _ f => f.elim
          rw [← hvz] at HBX ⊢
          clear hvz
          obtain ⟨w9, hw9⟩ : ∃ w9, w9 = (((((((vz.setCell ⟨w.heap.size, 0, none⟩ (.int .i64 3)).setCell ⟨w.heap.size, 1, none⟩ (.string ⟨#[]⟩)).setCell ⟨w.heap.size, 2, none⟩ (.slice none 0 0)).setCell ⟨w.heap.size, 3, none⟩ (.int .i64 (kd - 10 + 1))).setCell ⟨w.heap.size, 4, none⟩ (.int .i64 tk)).setCell ⟨w.heap.size, 5, none⟩ (.string s)).setCell ⟨w.heap.size, 6, none⟩ (.int .i64 jk)).setCell ⟨w.heap.size, 7, none⟩ (.string js) := ⟨_, rfl⟩
          obtain ⟨b9, m9⟩ := rlit_put vz w.heap.size (.int .i64 3) (.string ⟨#[]⟩) (.slice none 0 0) (.int .i64 (kd - 10 + 1)) (.int .i64 tk) (.string s) (.int .i64 jk) (.string js) HBX.out hw9
          rw [← hw9]
          clear hw9
          have e0 := cell_at (j := 0) b9 rfl
          have e1 := cell_at (j := 1) b9 rfl
          have e2 := cell_at (j := 2) b9 rfl
          have e3 := cell_at (j := 3) b9 rfl
          have e4 := cell_at (j := 4) b9 rfl
          have e5 := cell_at (j := 5) b9 rfl
          have e6 := cell_at (j := 6) b9 rfl
          have e7 := cell_at (j := 7) b9 rfl
          have mF : Mod (Far w) vz w9 := m9.mono fun _ _ e => Nat.le_of_eq e.symm
          refine bodyPost_ret (v := .tuple #[.agg #[.int .i64 3, .string ⟨#[]⟩, .slice none 0 0, .int .i64 (kd - 10 + 1), .int .i64 tk, .string s, .int .i64 jk, .string js], .bool false]) (by simp [results, Tryd.results101, go_sem, e0, e1, e2, e3, e4, e5, e6, e7]) rfl ?_
          exact .inl ⟨x, HX.out, ⟨_, _, _, _, _, _, _, _, _, _, rfl⟩, HE.out.far H.out (mZ.trans mF), Mod.far HM9.out (mZ.trans mF)⟩
        · have HX := Lib.hid (show litR R.S k agg = .ok (⟨3, ⟨emptyB, []⟩, kd - 9, ⟨tk, s⟩, ⟨rk, rs⟩⟩, k9) by rw [HL3.out, hx]; rfl)
          unfold tmV
          have HS := Lib.hid hS
          have HM9 := Lib.hid (HM8.out.trans hM)
          have HBX := Lib.hid (((Mod.refl (fun _ => False) v9).alloc (.cells #[.int .i64 rk, .string rs] 60)).at (hM.at HB8.out (H.out.nch (Nat.le_refl _))) id)
          have hx9 := ((Mod.refl (fun _ => False) v9).alloc (.cells #[.int .i64 rk, .string rs] 60)).at (hM.at HX8.out (H.out.nch (Nat.le_of_lt HZ6.out))) id
          have x0 := cell_at (j := 0) hx9 rfl
          have x1 := cell_at (j := 1) hx9 rfl
          clear hx hS hM HB8 HX8 HM8 HL3 HTT hx9
          have c0 := cell_at (j := 0) HBX.out rfl
          have c1 := cell_at (j := 1) HBX.out rfl
          have c2 := cell_at (j := 2) HBX.out rfl
          have c3 := cell_at (j := 3) HBX.out rfl
          have c4 := cell_at (j := 4) HBX.out rfl
          have c5 := cell_at (j := 5) HBX.out rfl
          have c6 := cell_at (j := 6) HBX.out rfl
          have c7 := cell_at (j := 7) HBX.out rfl
          have f0 : ((v9.alloc (.cells #[.int .i64 rk, .string rs] 60))).frozen? ⟨w.heap.size, 0, none⟩ = false := frozen_at HBX.out
          have f1 : ((v9.alloc (.cells #[.int .i64 rk, .string rs] 60))).frozen? ⟨w.heap.size, 1, none⟩ = false := frozen_at HBX.out
          have f2 : ((v9.alloc (.cells #[.int .i64 rk, .string rs] 60))).frozen? ⟨w.heap.size, 2, none⟩ = false := frozen_at HBX.out
          have f3 : ((v9.alloc (.cells #[.int .i64 rk, .string rs] 60))).frozen? ⟨w.heap.size, 3, none⟩ = false := frozen_at HBX.out
          have f4 : ((v9.alloc (.cells #[.int .i64 rk, .string rs] 60))).frozen? ⟨w.heap.size, 4, none⟩ = false := frozen_at HBX.out
          have f5 : ((v9.alloc (.cells #[.int .i64 rk, .string rs] 60))).frozen? ⟨w.heap.size, 5, none⟩ = false := frozen_at HBX.out
          have f6 : ((v9.alloc (.cells #[.int .i64 rk, .string rs] 60))).frozen? ⟨w.heap.size, 6, none⟩ = false := frozen_at HBX.out
          have f7 : ((v9.alloc (.cells #[.int .i64 rk, .string rs] 60))).frozen? ⟨w.heap.size, 7, none⟩ = false := frozen_at HBX.out
          go_wp2_with fail
          obtain ⟨vz, hvz⟩ : ∃ vz, vz = (v9.alloc (.cells #[.int .i64 rk, .string rs] 60)) := ⟨_, rfl⟩
          have mZ0 : Mod (fun _ => False) v9 vz := by rw [hvz]; exact (Mod.refl _ v9).alloc _
          have mZ : Mod (Far w) v9 vz := mZ0.mono fun _ _ f => f.elim
          rw [← hvz] at HBX ⊢
          clear hvz
          obtain ⟨w9, hw9⟩ : ∃ w9, w9 = (((((((vz.setCell ⟨w.heap.size, 0, none⟩ (.int .i64 3)).setCell ⟨w.heap.size, 1, none⟩ (.string ⟨#[]⟩)).setCell ⟨w.heap.size, 2, none⟩ (.slice none 0 0)).setCell ⟨w.heap.size, 3, none⟩ (.int .i64 (kd - 10 + 1))).setCell ⟨w.heap.size, 4, none⟩ (.int .i64 tk)).setCell ⟨w.heap.size, 5, none⟩ (.string s)).setCell ⟨w.heap.size, 6, none⟩ (.int .i64 rk)).setCell ⟨w.heap.size, 7, none⟩ (.string rs) := ⟨_, rfl⟩
          obtain ⟨b9, m9⟩ := rlit_put vz w.heap.size (.int .i64 3) (.string ⟨#[]⟩) (.slice none 0 0) (.int .i64 (kd - 10 + 1)) (.int .i64 tk) (.string s) (.int .i64 rk) (.string rs) HBX.out hw9
          rw [← hw9]
          clear hw9
          have e0 := cell_at (j := 0) b9 rfl
          have e1 := cell_at (j := 1) b9 rfl
          have e2 := cell_at (j := 2) b9 rfl
          have e3 := cell_at (j := 3) b9 rfl
          have e4 := cell_at (j := 4) b9 rfl
          have e5 := cell_at (j := 5) b9 rfl
          have e6 := cell_at (j := 6) b9 rfl
          have e7 := cell_at (j := 7) b9 rfl
          have mF : Mod (Far w) vz w9 := m9.mono fun _ _ e => Nat.le_of_eq e.symm
          refine bodyPost_ret (v := .tuple #[.agg #[.int .i64 3, .string ⟨#[]⟩, .slice none 0 0, .int .i64 (kd - 10 + 1), .int .i64 tk, .string s, .int .i64 rk, .string rs], .bool true]) (by simp [results, Tryd.results101, go_sem, e0, e1, e2, e3, e4, e5, e6, e7]) rfl ?_
          have he : kd - 10 + 1 = kd - 9 := by omega
          exact .inr ⟨_, HX.out, ⟨_, by rw [he]; rfl, ⟨none, 0, rfl, Mine.Own.nil _ _ _, by simp⟩, H.out.far HS.out (mZ.trans mF)⟩, Mod.far HM9.out (mZ.trans mF)⟩
      · have HLT := Lib.hid (HL0.out.trans (if_pos ⟨HK1.out, fun h => hr (HRNG.out.1 h)⟩))
        have hr10 : kn < 10 := by omega
        clear HL0 HRNG HK1 hr
        go_wp2_with fail
        refine wp_region_ord (fun w' => w'.cell? ⟨R.b, 0, none⟩ = some (.slice (some ⟨lb, lo, none⟩) (R.S.ts.length + 1) R.lc) ∧ w'.cell? ⟨R.b, 2, none⟩ = some (.int .i64 k) ∧ w'.cell? ⟨lb, lo + (k + 1) * 3, none⟩ = some (.int .i64 kn)) [(0, 0), (0, 1), (0, 2), (1, 3), (0, 4), (0, 5), (0, 6), (1, 7), (0, 8), (0, 9), (0, 10), (1, 11), (0, 12)] (by kernel_rfl) (by kernel_rfl) ?_
        go_wp2_with (first
          | (refine ord_pure rfl rfl rfl (fun K hK => ?_); go_big_quiet_op; refine hK _ ?_; clear hK K)
                        | (refine ord_skip rfl rfl ?_; simp only [Act.put, List.setIfInBounds_toArray, List.set_cons_zero, List.set_cons_succ])
                        | (refine ord_held rfl rfl rfl (⟨by simpa using q0, by simpa using q2, by simpa using x0⟩) (fun K hK => ?_); apply Exists.intro; refine ⟨fun w' hs => ?_, hK _ ?_⟩; (revert hs; dsimp only; (try simp only [and_imp]); intros; go_simp; rfl); clear hK K)
                        | (refine ord_keep rfl rfl (⟨by simpa using q0, by simpa using q2, by simpa using x0⟩) (fun K hK => ?_))
                        | (refine ord_drop rfl rfl (fun K hK => ?_))
                        | (refine ord_nil ?_))
        have mD := (Mod.refl (fun _ => False) v3).drew
        have HS4 := Lib.hid (HS3.out.mod0 mD)
        have HB4 := Lib.hid (mD.at HB3.out id)
        have HM4 := Lib.hid (HM3.out.trans (mD.mono fun _ _ f => f.elim))
        have hz4 : w.heap.size < v3.drew.heap.size := HZ3.out
        obtain ⟨v4, hv4⟩ : ∃ v4, v4 = v3.drew := ⟨_, rfl⟩
        rw [← hv4] at HS4 HB4 HM4 hz4 ⊢
        clear hv4 mD HS3 HB3 HM3 HZ3 q0 q2 x0
        refine (refAtom_any R false k agg _ HS4.out).mono ?_
        rintro e v5 (⟨x, hx, ⟨js, ja, jn, jc, rfl⟩, hE, hM⟩ | ⟨⟨⟨p, ts⟩, k5, ag5⟩, hx, ⟨v, rfl, ⟨a, c, rfl, hO, hlo⟩, hS⟩, hM⟩)
        · have HX := Lib.hid (show litR R.S k agg = .error x by rw [HLT.out, hx]; rfl)
          have HE := Lib.hid hE
          have HM5 := Lib.hid (HM4.out.trans hM)
          have HBX := Lib.hid (((Mod.refl (fun _ => False) v5).alloc (.cells #[.string js, .slice ja jn jc] 37)).at (hM.at HB4.out (H.out.nch (Nat.le_refl _))) id)
          clear hx hE hM HB4 HM4 HLT
          have c0 := cell_at (j := 0) HBX.out rfl
          have c1 := cell_at (j := 1) HBX.out rfl
          have c2 := cell_at (j := 2) HBX.out rfl
          have c3 := cell_at (j := 3) HBX.out rfl
          have c4 := cell_at (j := 4) HBX.out rfl
          have c5 := cell_at (j := 5) HBX.out rfl
          have c6 := cell_at (j := 6) HBX.out rfl
          have c7 := cell_at (j := 7) HBX.out rfl
          have f0 : ((v5.alloc (.cells #[.string js, .slice ja jn jc] 37))).frozen? ⟨w.heap.size, 0, none⟩ = false := frozen_at HBX.out
          have f1 : ((v5.alloc (.cells #[.string js, .slice ja jn jc] 37))).frozen? ⟨w.heap.size, 1, none⟩ = false := frozen_at HBX.out
          have f2 : ((v5.alloc (.cells #[.string js, .slice ja jn jc] 37))).frozen? ⟨w.heap.size, 2, none⟩ = false := frozen_at HBX.out
          have f3 : ((v5.alloc (.cells #[.string js, .slice ja jn jc] 37))).frozen? ⟨w.heap.size, 3, none⟩ = false := frozen_at HBX.out
          have f4 : ((v5.alloc (.cells #[.string js, .slice ja jn jc] 37))).frozen? ⟨w.heap.size, 4, none⟩ = false := frozen_at HBX.out
          have f5 : ((v5.alloc (.cells #[.string js, .slice ja jn jc] 37))).frozen? ⟨w.heap.size, 5, none⟩ = false := frozen_at HBX.out
          have f6 : ((v5.alloc (.cells #[.string js, .slice ja jn jc] 37))).frozen? ⟨w.heap.size, 6, none⟩ = false := frozen_at HBX.out
          have f7 : ((v5.alloc (.cells #[.string js, .slice ja jn jc] 37))).frozen? ⟨w.heap.size, 7, none⟩ = false := frozen_at HBX.out
          go_wp2_with fail
          obtain ⟨vz, hvz⟩ : ∃ vz, vz = (v5.alloc (.cells #[.string js, .slice ja jn jc] 37)) := ⟨_, rfl⟩
          have mZ0 : Mod (fun _ => False) v5 vz := by rw [hvz]; exact (Mod.refl _ v5).alloc _
          have mZ : Mod (Far w) v5 vz := mZ0.mono fun _ _ f => f.elim
          rw [← hvz] at HBX ⊢
          clear hvz
          obtain ⟨w9, hw9⟩ : ∃ w9, w9 = (((((((vz.setCell ⟨w.heap.size, 0, none⟩ (.int .i64 1)).setCell ⟨w.heap.size, 1, none⟩ (.string js)).setCell ⟨w.heap.size, 2, none⟩ (.slice ja jn jc)).setCell ⟨w.heap.size, 3, none⟩ (.int .i64 0)).setCell ⟨w.heap.size, 4, none⟩ (.int .i64 0)).setCell ⟨w.heap.size, 5, none⟩ (.string ⟨#[]⟩)).setCell ⟨w.heap.size, 6, none⟩ (.int .i64 0)).setCell ⟨w.heap.size, 7, none⟩ (.string ⟨#[]⟩) := ⟨_, rfl⟩
          obtain ⟨b9, m9⟩ := rlit_put vz w.heap.size (.int .i64 1) (.string js) (.slice ja jn jc) (.int .i64 0) (.int .i64 0) (.string ⟨#[]⟩) (.int .i64 0) (.string ⟨#[]⟩) HBX.out hw9
          rw [← hw9]
          clear hw9
          have e0 := cell_at (j := 0) b9 rfl
          have e1 := cell_at (j := 1) b9 rfl
          have e2 := cell_at (j := 2) b9 rfl
          have e3 := cell_at (j := 3) b9 rfl
          have e4 := cell_at (j := 4) b9 rfl
          have e5 := cell_at (j := 5) b9 rfl
          have e6 := cell_at (j := 6) b9 rfl
          have e7 := cell_at (j := 7) b9 rfl
          have mF : Mod (Far w) vz w9 := m9.mono fun _ _ e => Nat.le_of_eq e.symm
          refine bodyPost_ret (v := .tuple #[.agg #[.int .i64 1, .string js, .slice ja jn jc, .int .i64 0, .int .i64 0, .string ⟨#[]⟩, .int .i64 0, .string ⟨#[]⟩], .bool false]) (by simp [results, Tryd.results101, go_sem, e0, e1, e2, e3, e4, e5, e6, e7]) rfl ?_
          exact .inl ⟨x, HX.out, ⟨_, _, _, _, _, _, _, _, _, _, rfl⟩, HE.out.far H.out (mZ.trans mF), Mod.far HM5.out (mZ.trans mF)⟩
        · have hag : ag5 = agg := atomR_agg hx
          simp only at hS
          rw [hag] at hS
          have HX := Lib.hid (show litR R.S k agg = .ok (⟨1, ⟨p, ts⟩, 0, tm0, tm0⟩, k5) by rw [HLT.out, hx]; rfl)
          have HS := Lib.hid hS; have HO := Lib.hid hO; have HLO := Lib.hid hlo
          have HZ4 := Lib.hid hz4
          have HM5 := Lib.hid (HM4.out.trans hM)
          have HBX := Lib.hid (((Mod.refl (fun _ => False) v5).alloc (.cells #[.string p, .slice a ts.length c] 37)).at (hM.at HB4.out (H.out.nch (Nat.le_refl _))) id)
          clear hx hag hS hM HB4 HM4 HLT hO hlo hz4
          have c0 := cell_at (j := 0) HBX.out rfl
          have c1 := cell_at (j := 1) HBX.out rfl
          have c2 := cell_at (j := 2) HBX.out rfl
          have c3 := cell_at (j := 3) HBX.out rfl
          have c4 := cell_at (j := 4) HBX.out rfl
          have c5 := cell_at (j := 5) HBX.out rfl
          have c6 := cell_at (j := 6) HBX.out rfl
          have c7 := cell_at (j := 7) HBX.out rfl
          have f0 : ((v5.alloc (.cells #[.string p, .slice a ts.length c] 37))).frozen? ⟨w.heap.size, 0, none⟩ = false := frozen_at HBX.out
          have f1 : ((v5.alloc (.cells #[.string p, .slice a ts.length c] 37))).frozen? ⟨w.heap.size, 1, none⟩ = false := frozen_at HBX.out
          have f2 : ((v5.alloc (.cells #[.string p, .slice a ts.length c] 37))).frozen? ⟨w.heap.size, 2, none⟩ = false := frozen_at HBX.out
          have f3 : ((v5.alloc (.cells #[.string p, .slice a ts.length c] 37))).frozen? ⟨w.heap.size, 3, none⟩ = false := frozen_at HBX.out
          have f4 : ((v5.alloc (.cells #[.string p, .slice a ts.length c] 37))).frozen? ⟨w.heap.size, 4, none⟩ = false := frozen_at HBX.out
          have f5 : ((v5.alloc (.cells #[.string p, .slice a ts.length c] 37))).frozen? ⟨w.heap.size, 5, none⟩ = false := frozen_at HBX.out
          have f6 : ((v5.alloc (.cells #[.string p, .slice a ts.length c] 37))).frozen? ⟨w.heap.size, 6, none⟩ = false := frozen_at HBX.out
          have f7 : ((v5.alloc (.cells #[.string p, .slice a ts.length c] 37))).frozen? ⟨w.heap.size, 7, none⟩ = false := frozen_at HBX.out
          go_wp2_with fail
          obtain ⟨vz, hvz⟩ : ∃ vz, vz = (v5.alloc (.cells #[.string p, .slice a ts.length c] 37)) := ⟨_, rfl⟩
          have mZ0 : Mod (fun _ => False) v5 vz := by rw [hvz]; exact (Mod.refl _ v5).alloc _
          have mZ : Mod (Far w) v5 vz := mZ0.mono fun _ _ f => f.elim
          rw [← hvz] at HBX ⊢
          clear hvz
          obtain ⟨w9, hw9⟩ : ∃ w9, w9 = (((((((vz.setCell ⟨w.heap.size, 0, none⟩ (.int .i64 1)).setCell ⟨w.heap.size, 1, none⟩ (.string p)).setCell ⟨w.heap.size, 2, none⟩ (.slice a ts.length c)).setCell ⟨w.heap.size, 3, none⟩ (.int .i64 0)).setCell ⟨w.heap.size, 4, none⟩ (.int .i64 0)).setCell ⟨w.heap.size, 5, none⟩ (.string ⟨#[]⟩)).setCell ⟨w.heap.size, 6, none⟩ (.int .i64 0)).setCell ⟨w.heap.size, 7, none⟩ (.string ⟨#[]⟩) := ⟨_, rfl⟩
          obtain ⟨b9, m9⟩ := rlit_put vz w.heap.size (.int .i64 1) (.string p) (.slice a ts.length c) (.int .i64 0) (.int .i64 0) (.string ⟨#[]⟩) (.int .i64 0) (.string ⟨#[]⟩) HBX.out hw9
          rw [← hw9]
          clear hw9
          have e0 := cell_at (j := 0) b9 rfl
          have e1 := cell_at (j := 1) b9 rfl
          have e2 := cell_at (j := 2) b9 rfl
          have e3 := cell_at (j := 3) b9 rfl
          have e4 := cell_at (j := 4) b9 rfl
          have e5 := cell_at (j := 5) b9 rfl
          have e6 := cell_at (j := 6) b9 rfl
          have e7 := cell_at (j := 7) b9 rfl
          have mF : Mod (Far w) vz w9 := m9.mono fun _ _ e => Nat.le_of_eq e.symm
          refine bodyPost_ret (v := .tuple #[.agg #[.int .i64 1, .string p, .slice a ts.length c, .int .i64 0, .int .i64 0, .string ⟨#[]⟩, .int .i64 0, .string ⟨#[]⟩], .bool true]) (by simp [results, Tryd.results101, go_sem, e0, e1, e2, e3, e4, e5, e6, e7]) rfl ?_
          have hlo := HLO.out; have hz4 := HZ4.out
          exact .inr ⟨_, HX.out, ⟨_, rfl, ⟨_, _, rfl, (HO.out.mod mZ0 (fun _ _ => id)).mod m9 (fun b hb e => by have := hlo b hb; omega), fun b hb => by have := hlo b hb; omega⟩, H.out.far HS.out (mZ.trans mF)⟩, Mod.far HM5.out (mZ.trans mF)⟩
    · have HLT := Lib.hid (HL0.out.trans (if_neg (fun h => h1 ((kindI_iff (c := 1) (by omega)).1 h.1))))
      obtain ⟨kd, hkd⟩ : ∃ kd, kd = kindI R.S k := ⟨_, rfl⟩
      rw [← hkd] at HKA h1 h9 hbd
      have hb9 : (kd == 9) = false := by simpa using h9
      have hb1 : (kd == 1) = false := by simpa using h1
      clear hkd h1 h9 HL0
      go_enter Tryd.func101, Tryd.ntmps101
      go_wp2_with fail
      refine (HKA.out _ (Mod.refl _ _)).mono ?_
      rintro e v2 ⟨rfl, hM⟩
      have HM := Lib.hid hM; clear hM
      go_wp2_with fail
      refine (HKA.out _ HM.out).mono ?_
      rintro e v4 ⟨rfl, hM⟩
      have HS4 := Lib.hid (HS0.out.mod0 hM)
      have HB4 := Lib.hid (hM.at HB.out id)
      have HM4 := Lib.hid ((M0.out.trans hM).mono (T := R.Ch) fun _ _ f => f.elim)
      have hz4 : w.heap.size < v4.heap.size := (Array.getElem?_eq_some_iff.1 HB4.out).1
      clear hM HM HKA HB M0 HS0
      have HT := Lib.hid (refTerm_any R k agg v4 HS4.out)
      go_wp2_with fail
      refine HT.out.mono ?_
      rintro e v5 (⟨x, hx, ⟨jk, js, rfl⟩, hE, hM⟩ | ⟨⟨⟨tk, s⟩, k5⟩, hx, ⟨rfl, hS⟩, hM⟩)
      · have HX := Lib.hid (show litR R.S k agg = .error x by rw [HLT.out, hx]; rfl)
        have HE := Lib.hid hE
        have HM5 := Lib.hid (HM4.out.trans hM)
        have HBX := Lib.hid (((Mod.refl (fun _ => False) v5).alloc (.cells #[.int .i64 jk, .string js] 60)).at (hM.at HB4.out (H.out.nch (Nat.le_refl _))) id)
        clear hx hE hM HB4 HM4 HLT HT
        have c0 := cell_at (j := 0) HBX.out rfl
        have c1 := cell_at (j := 1) HBX.out rfl
        have c2 := cell_at (j := 2) HBX.out rfl
        have c3 := cell_at (j := 3) HBX.out rfl
        have c4 := cell_at (j := 4) HBX.out rfl
        have c5 := cell_at (j := 5) HBX.out rfl
        have c6 := cell_at (j := 6) HBX.out rfl
        have c7 := cell_at (j := 7) HBX.out rfl
        have f0 : ((v5.alloc (.cells #[.int .i64 jk, .string js] 60))).frozen? ⟨w.heap.size, 0, none⟩ = false := frozen_at HBX.out
        have f1 : ((v5.alloc (.cells #[.int .i64 jk, .string js] 60))).frozen? ⟨w.heap.size, 1, none⟩ = false := frozen_at HBX.out
        have f2 : ((v5.alloc (.cells #[.int .i64 jk, .string js] 60))).frozen? ⟨w.heap.size, 2, none⟩ = false := frozen_at HBX.out
        have f3 : ((v5.alloc (.cells #[.int .i64 jk, .string js] 60))).frozen? ⟨w.heap.size, 3, none⟩ = false := frozen_at HBX.out
        have f4 : ((v5.alloc (.cells #[.int .i64 jk, .string js] 60))).frozen? ⟨w.heap.size, 4, none⟩ = false := frozen_at HBX.out
        have f5 : ((v5.alloc (.cells #[.int .i64 jk, .string js] 60))).frozen? ⟨w.heap.size, 5, none⟩ = false := frozen_at HBX.out
        have f6 : ((v5.alloc (.cells #[.int .i64 jk, .string js] 60))).frozen? ⟨w.heap.size, 6, none⟩ = false := frozen_at HBX.out
        have f7 : ((v5.alloc (.cells #[.int .i64 jk, .string js] 60))).frozen? ⟨w.heap.size, 7, none⟩ = false := frozen_at HBX.out
        go_wp2_with fail
        obtain ⟨vz, hvz⟩ : ∃ vz, vz = (v5.alloc (.cells #[.int .i64 jk, .string js] 60)) := ⟨_, rfl⟩
        have mZ0 : Mod (fun _ => False) v5 vz := by rw [hvz]; exact (Mod.refl _ v5).alloc _
        have mZ : Mod (Far w) v5 vz := mZ0.mono fun _ _ f => f.elim
        rw [← hvz] at HBX ⊢
        clear hvz
        obtain ⟨w9, hw9⟩ : ∃ w9, w9 = (((((((vz.setCell ⟨w.heap.size, 0, none⟩ (.int .i64 0)).setCell ⟨w.heap.size, 1, none⟩ (.string ⟨#[]⟩)).setCell ⟨w.heap.size, 2, none⟩ (.slice none 0 0)).setCell ⟨w.heap.size, 3, none⟩ (.int .i64 0)).setCell ⟨w.heap.size, 4, none⟩ (.int .i64 0)).setCell ⟨w.heap.size, 5, none⟩ (.string ⟨#[]⟩)).setCell ⟨w.heap.size, 6, none⟩ (.int .i64 0)).setCell ⟨w.heap.size, 7, none⟩ (.string ⟨#[]⟩) := ⟨_, rfl⟩
        obtain ⟨b9, m9⟩ := rlit_put vz w.heap.size (.int .i64 0) (.string ⟨#[]⟩) (.slice none 0 0) (.int .i64 0) (.int .i64 0) (.string ⟨#[]⟩) (.int .i64 0) (.string ⟨#[]⟩) HBX.out hw9
        rw [← hw9]
        clear hw9
        have e0 := cell_at (j := 0) b9 rfl
        have e1 := cell_at (j := 1) b9 rfl
        have e2 := cell_at (j := 2) b9 rfl
        have e3 := cell_at (j := 3) b9 rfl
        have e4 := cell_at (j := 4) b9 rfl
        have e5 := cell_at (j := 5) b9 rfl
        have e6 := cell_at (j := 6) b9 rfl
        have e7 := cell_at (j := 7) b9 rfl
        have mF : Mod (Far w) vz w9 := m9.mono fun _ _ e => Nat.le_of_eq e.symm
        refine bodyPost_ret (v := .tuple #[.agg #[.int .i64 0, .string ⟨#[]⟩, .slice none 0 0, .int .i64 0, .int .i64 0, .string ⟨#[]⟩, .int .i64 0, .string ⟨#[]⟩], .bool false]) (by simp [results, Tryd.results101, go_sem, e0, e1, e2, e3, e4, e5, e6, e7]) rfl ?_
        exact .inl ⟨x, HX.out, ⟨_, _, _, _, _, _, _, _, _, _, rfl⟩, HE.out.far H.out (mZ.trans mF), Mod.far HM5.out (mZ.trans mF)⟩
      have HL2 := Lib.hid (show litR R.S k agg = (wordP R.S k5 opsK).bind fun _ => (termP R.S (k5 + 1)).bind fun r => .ok (⟨3, ⟨emptyB, []⟩, (R.S.tok k5).kind - 9, ⟨tk, s⟩, r.1⟩, r.2) by rw [HLT.out, hx]; rfl)
      have m6 : Mod (fun _ => False) v5 (v5.alloc (.cells #[.int .i64 tk, .string s] 60)) := (Mod.refl _ v5).alloc _
      have hb6 := m6.at (hM.at HB4.out (H.out.nch (Nat.le_refl _))) id
      have hx6 := heap_alloc_new v5 (.cells #[.int .i64 tk, .string s] 60)
      have HM6 := Lib.hid ((HM4.out.trans hM).trans (m6.mono fun _ _ f => f.elim))
      have HS6 := Lib.hid (hS.mod0 m6)
      have HB6 := Lib.hid hb6
      have hz6 : w.heap.size < v5.heap.size := Nat.lt_of_lt_of_le hz4 hM.size
      obtain ⟨g6, hg6⟩ : ∃ g6, g6 = v5.heap.size := ⟨_, rfl⟩
      rw [← hg6] at hx6 hz6
      have HX6 := Lib.hid hx6; have HZ6 := Lib.hid hz6; have HG6 := Lib.hid hg6
      have HKD6 := Lib.hid HS6.out.kindC
      have hbd6 := kindI_bd (i := k5) HS6.out.bk.ok.wf
      unfold tmV
      clear hx hS hM m6 hb6 hx6 hz6 hg6 hz4 HB4 HM4 HLT HT HS4
      go_wp2_with fail
      rw [← HG6.out]
      refine HKD6.out.mono ?_
      rintro e v7 ⟨rfl, hM⟩
      obtain ⟨kd, hkd⟩ : ∃ kd, kd = kindI R.S k5 := ⟨_, rfl⟩
      rw [← hkd] at hbd6 ⊢
      have HKE := Lib.hid hkd
      have HB7 := Lib.hid (hM.at HB6.out id)
      have HX7 := Lib.hid (hM.at HX6.out id)
      have HM7 := Lib.hid (HM6.out.trans (hM.mono fun _ _ f => f.elim))
      have HT4 := Lib.hid (take4 R k5 agg v7 (HS6.out.mod0 hM) v7.heap.size)
      clear hkd hM HB6 HX6 HM6 HS6 HKD6 HG6
      go_wp2_with fail
      refine HT4.out.mono ?_
      rintro e v8 (⟨x, hx, rfl, hE, hM⟩ | ⟨⟨s8, k8⟩, hx, ⟨rfl, hS⟩, hM⟩)
      · have HX := Lib.hid (show litR R.S k agg = .error x by rw [HL2.out, hx]; rfl)
        have HE := Lib.hid hE
        have HM8 := Lib.hid (HM7.out.trans hM)
        have HBX := Lib.hid (hM.at HB7.out (H.out.nch (Nat.le_refl _)))
        clear hx hE hM HB7 HX7 HM7 HL2 HT4
        have c0 := cell_at (j := 0) HBX.out rfl
        have c1 := cell_at (j := 1) HBX.out rfl
        have c2 := cell_at (j := 2) HBX.out rfl
        have c3 := cell_at (j := 3) HBX.out rfl
        have c4 := cell_at (j := 4) HBX.out rfl
        have c5 := cell_at (j := 5) HBX.out rfl
        have c6 := cell_at (j := 6) HBX.out rfl
        have c7 := cell_at (j := 7) HBX.out rfl
        have f0 : (v8).frozen? ⟨w.heap.size, 0, none⟩ = false := frozen_at HBX.out
        have f1 : (v8).frozen? ⟨w.heap.size, 1, none⟩ = false := frozen_at HBX.out
        have f2 : (v8).frozen? ⟨w.heap.size, 2, none⟩ = false := frozen_at HBX.out
        have f3 : (v8).frozen? ⟨w.heap.size, 3, none⟩ = false := frozen_at HBX.out
        have f4 : (v8).frozen? ⟨w.heap.size, 4, none⟩ = false := frozen_at HBX.out
        have f5 : (v8).frozen? ⟨w.heap.size, 5, none⟩ = false := frozen_at HBX.out
        have f6 : (v8).frozen? ⟨w.heap.size, 6, none⟩ = false := frozen_at HBX.out
        have f7 : (v8).frozen? ⟨w.heap.size, 7, none⟩ = false := frozen_at HBX.out
        go_wp2_with fail
        obtain ⟨vz, hvz⟩ : ∃ vz, vz = v8 := ⟨_, rfl⟩
        have mZ0 : Mod (fun _ => False) v8 vz := by rw [hvz]; exact Mod.refl _ v8
        have mZ : Mod (Far w) v8 vz := mZ0.mono fun _ _ f => f.elim
        rw [← hvz] at HBX ⊢
        clear hvz
        obtain ⟨w9, hw9⟩ : ∃ w9, w9 = (((((((vz.setCell ⟨w.heap.size, 0, none⟩ (.int .i64 0)).setCell ⟨w.heap.size, 1, none⟩ (.string ⟨#[]⟩)).setCell ⟨w.heap.size, 2, none⟩ (.slice none 0 0)).setCell ⟨w.heap.size, 3, none⟩ (.int .i64 0)).setCell ⟨w.heap.size, 4, none⟩ (.int .i64 0)).setCell ⟨w.heap.size, 5, none⟩ (.string ⟨#[]⟩)).setCell ⟨w.heap.size, 6, none⟩ (.int .i64 0)).setCell ⟨w.heap.size, 7, none⟩ (.string ⟨#[]⟩) := ⟨_, rfl⟩
        obtain ⟨b9, m9⟩ := rlit_put vz w.heap.size (.int .i64 0) (.string ⟨#[]⟩) (.slice none 0 0) (.int .i64 0) (.int .i64 0) (.string ⟨#[]⟩) (.int .i64 0) (.string ⟨#[]⟩) HBX.out hw9
        rw [← hw9]
        clear hw9
        have e0 := cell_at (j := 0) b9 rfl
        have e1 := cell_at (j := 1) b9 rfl
        have e2 := cell_at (j := 2) b9 rfl
        have e3 := cell_at (j := 3) b9 rfl
        have e4 := cell_at (j := 4) b9 rfl
        have e5 := cell_at (j := 5) b9 rfl
        have e6 := cell_at (j := 6) b9 rfl
        have e7 := cell_at (j := 7) b9 rfl
        have mF : Mod (Far w) vz w9 := m9.mono fun _ _ e => Nat.le_of_eq e.symm
        refine bodyPost_ret (v := .tuple #[.agg #[.int .i64 0, .string ⟨#[]⟩, .slice none 0 0, .int .i64 0, .int .i64 0, .string ⟨#[]⟩, .int .i64 0, .string ⟨#[]⟩], .bool false]) (by simp [results, Tryd.results101, go_sem, e0, e1, e2, e3, e4, e5, e6, e7]) rfl ?_
        exact .inl ⟨x, HX.out, ⟨_, _, _, _, _, _, _, _, _, _, rfl⟩, HE.out.far H.out (mZ.trans mF), Mod.far HM8.out (mZ.trans mF)⟩
      obtain ⟨hb, hct, -, he8⟩ := wordP_ok hx
      simp only [Prod.mk.injEq] at he8
      obtain ⟨-, rfl⟩ := he8
      have hko : 10 ≤ kd ∧ kd ≤ 13 ∧ ((R.S.tok k5).kind : Int) = kd := by
        have h1 := kindI_good (R := R) hb
        rw [← HKE.out] at h1
        unfold opsK at hct
        simp at hct
        omega
      obtain ⟨hk1, hk2, hk3⟩ := hko
      have HL3 := Lib.hid (show litR R.S k agg = (termP R.S (k5 + 1)).bind fun r => .ok (⟨3, ⟨emptyB, []⟩, kd - 9, ⟨tk, s⟩, r.1⟩, r.2) by rw [HL2.out, hx, bind_ok', hk3])
      have HM8 := Lib.hid (HM7.out.trans hM)
      have HB8 := Lib.hid (hM.at HB7.out (H.out.nch (Nat.le_refl _)))
      have HX8 := Lib.hid (hM.at HX7.out (H.out.nch (Nat.le_of_lt HZ6.out)))
      have HTT := Lib.hid (refTerm_any R (k5 + 1) agg v8 hS)
      clear hb hct hk3 hx hS hM HB7 HX7 HM7 HL2 HT4
      go_wp2_with fail
      refine HTT.out.mono ?_
      rintro e v9 (⟨x, hx, ⟨jk, js, rfl⟩, hE, hM⟩ | ⟨⟨⟨rk, rs⟩, k9⟩, hx, ⟨rfl, hS⟩, hM⟩)
      · have HX := Lib.hid (show litR R.S k agg = .error x by rw [HL3.out, hx]; rfl)
        have HE := Lib.hid hE
        have HM9 := Lib.hid (HM8.out.trans hM)
        have HBX := Lib.hid (((Mod.refl (fun _ => False) v9).alloc (.cells #[.int .i64 jk, .string js] 60)).at (hM.at HB8.out (H.out.nch (Nat.le_refl _))) id)
        have hx9 := ((Mod.refl (fun _ => False) v9).alloc (.cells #[.int .i64 jk, .string js] 60)).at (hM.at HX8.out (H.out.nch (Nat.le_of_lt HZ6.out))) id
        have x0 := cell_at (j := 0) hx9 rfl
        have x1 := cell_at (j := 1) hx9 rfl
        clear hx hE hM HB8 HX8 HM8 HL3 HTT hx9
        have c0 := cell_at (j := 0) HBX.out rfl
        have c1 := cell_at (j := 1) HBX.out rfl
        have c2 := cell_at (j := 2) HBX.out rfl
        have c3 := cell_at (j := 3) HBX.out rfl
        have c4 := cell_at (j := 4) HBX.out rfl
        have c5 := cell_at (j := 5) HBX.out rfl
        have c6 := cell_at (j := 6) HBX.out rfl
        have c7 := cell_at (j := 7) HBX.out rfl
        have f0 : ((v9.alloc (.cells #[.int .i64 jk, .string js] 60))).frozen? ⟨w.heap.size, 0, none⟩ = false := frozen_at HBX.out
        have f1 : ((v9.alloc (.cells #[.int .i64 jk, .string js] 60))).frozen? ⟨w.heap.size, 1, none⟩ = false := frozen_at HBX.out
        have f2 : ((v9.alloc (.cells #[.int .i64 jk, .string js] 60))).frozen? ⟨w.heap.size, 2, none⟩ = false := frozen_at HBX.out
        have f3 : ((v9.alloc (.cells #[.int .i64 jk, .string js] 60))).frozen? ⟨w.heap.size, 3, none⟩ = false := frozen_at HBX.out
        have f4 : ((v9.alloc (.cells #[.int .i64 jk, .string js] 60))).frozen? ⟨w.heap.size, 4, none⟩ = false := frozen_at HBX.out
        have f5 : ((v9.alloc (.cells #[.int .i64 jk, .string js] 60))).frozen? ⟨w.heap.size, 5, none⟩ = false := frozen_at HBX.out
        have f6 : ((v9.alloc (.cells #[.int .i64 jk, .string js] 60))).frozen? ⟨w.heap.size, 6, none⟩ = false := frozen_at HBX.out
        have f7 : ((v9.alloc (.cells #[.int .i64 jk, .string js] 60))).frozen? ⟨w.heap.size, 7, none⟩ = false := frozen_at HBX.out
        go_wp2_with fail
        obtain ⟨vz, hvz⟩ : ∃ vz, vz = (v9.alloc (.cells #[.int .i64 jk, .string js] 60)) := ⟨_, rfl⟩
        have mZ0 : Mod (fun _ => False) v9 vz := by rw [hvz]; exact (Mod.refl _ v9).alloc _
        have mZ : Mod (Far w) v9 vz := mZ0.mono fun _ _ f => f.elim
        rw [← hvz] at HBX ⊢
        clear hvz
        obtain ⟨w9, hw9⟩ : ∃ w9, w9 = (((((((vz.setCell ⟨w.heap.size, 0, none⟩ (.int .i64 3)).setCell ⟨w.heap.size, 1, none⟩ (.string ⟨#[]⟩)).setCell ⟨w.heap.size, 2, none⟩ (.slice none 0 0)).setCell ⟨w.heap.size, 3, none⟩ (.int .i64 (kd - 10 + 1))).setCell ⟨w.heap.size, 4, none⟩ (.int .i64 tk)).setCell ⟨w.heap.size, 5, none⟩ (.string s)).setCell ⟨w.heap.size, 6, none⟩ (.int .i64 jk)).setCell ⟨w.heap.size, 7, none⟩ (.string js) := ⟨_, rfl⟩
        obtain ⟨b9, m9⟩ := rlit_put vz w.heap.size (.int .i64 3) (.string ⟨#[]⟩) (.slice none 0 0) (.int .i64 (kd - 10 + 1)) (.int .i64 tk) (.string s) (.int .i64 jk) (.string js) HBX.out hw9
        rw [← hw9]
        clear hw9
        have e0 := cell_at (j := 0) b9 rfl
        have e1 := cell_at (j := 1) b9 rfl
        have e2 := cell_at (j := 2) b9 rfl
        have e3 := cell_at (j := 3) b9 rfl
        have e4 := cell_at (j := 4) b9 rfl
        have e5 := cell_at (j := 5) b9 rfl
        have e6 := cell_at (j := 6) b9 rfl
        have e7 := cell_at (j := 7) b9 rfl
        have mF : Mod (Far w) vz w9 := m9.mono fun _ _ e => Nat.le_of_eq e.symm
        refine bodyPost_ret (v := .tuple #[.agg #[.int .i64 3, .string ⟨#[]⟩, .slice none 0 0, .int .i64 (kd - 10 + 1), .int .i64 tk, .string s, .int .i64 jk, .string js], .bool false]) (by simp [results, Tryd.results101, go_sem, e0, e1, e2, e3, e4, e5, e6, e7]) rfl ?_
        exact .inl ⟨x, HX.out, ⟨_, _, _, _, _, _, _, _, _, _, rfl⟩, HE.out.far H.out (mZ.trans mF), Mod.far HM9.out (mZ.trans mF)⟩
      · have HX := Lib.hid (show litR R.S k agg = .ok (⟨3, ⟨emptyB, []⟩, kd - 9, ⟨tk, s⟩, ⟨rk, rs⟩⟩, k9) by rw [HL3.out, hx]; rfl)
        unfold tmV
        have HS := Lib.hid hS
        have HM9 := Lib.hid (HM8.out.trans hM)
        have HBX := Lib.hid (((Mod.refl (fun _ => False) v9).alloc (.cells #[.int .i64 rk, .string rs] 60)).at (hM.at HB8.out (H.out.nch (Nat.le_refl _))) id)
        have hx9 := ((Mod.refl (fun _ => False) v9).alloc (.cells #[.int .i64 rk, .string rs] 60)).at (hM.at HX8.out (H.out.nch (Nat.le_of_lt HZ6.out))) id
        have x0 := cell_at (j := 0) hx9 rfl
        have x1 := cell_at (j := 1) hx9 rfl
        clear hx hS hM HB8 HX8 HM8 HL3 HTT hx9
        have c0 := cell_at (j := 0) HBX.out rfl
        have c1 := cell_at (j := 1) HBX.out rfl
        have c2 := cell_at (j := 2) HBX.out rfl
        have c3 := cell_at (j := 3) HBX.out rfl
        have c4 := cell_at (j := 4) HBX.out rfl
        have c5 := cell_at (j := 5) HBX.out rfl
        have c6 := cell_at (j := 6) HBX.out rfl
        have c7 := cell_at (j := 7) HBX.out rfl
        have f0 : ((v9.alloc (.cells #[.int .i64 rk, .string rs] 60))).frozen? ⟨w.heap.size, 0, none⟩ = false := frozen_at HBX.out
        have f1 : ((v9.alloc (.cells #[.int .i64 rk, .string rs] 60))).frozen? ⟨w.heap.size, 1, none⟩ = false := frozen_at HBX.out
        have f2 : ((v9.alloc (.cells #[.int .i64 rk, .string rs] 60))).frozen? ⟨w.heap.size, 2, none⟩ = false := frozen_at HBX.out
        have f3 : ((v9.alloc (.cells #[.int .i64 rk, .string rs] 60))).frozen? ⟨w.heap.size, 3, none⟩ = false := frozen_at HBX.out
        have f4 : ((v9.alloc (.cells #[.int .i64 rk, .string rs] 60))).frozen? ⟨w.heap.size, 4, none⟩ = false := frozen_at HBX.out
        have f5 : ((v9.alloc (.cells #[.int .i64 rk, .string rs] 60))).frozen? ⟨w.heap.size, 5, none⟩ = false := frozen_at HBX.out
        have f6 : ((v9.alloc (.cells #[.int .i64 rk, .string rs] 60))).frozen? ⟨w.heap.size, 6, none⟩ = false := frozen_at HBX.out
        have f7 : ((v9.alloc (.cells #[.int .i64 rk, .string rs] 60))).frozen? ⟨w.heap.size, 7, none⟩ = false := frozen_at HBX.out
        go_wp2_with fail
        obtain ⟨vz, hvz⟩ : ∃ vz, vz = (v9.alloc (.cells #[.int .i64 rk, .string rs] 60)) := ⟨_, rfl⟩
        have mZ0 : Mod (fun _ => False) v9 vz := by rw [hvz]; exact (Mod.refl _ v9).alloc _
        have mZ : Mod (Far w) v9 vz := mZ0.mono fun _ _ f => f.elim
        rw [← hvz] at HBX ⊢
        clear hvz
        obtain ⟨w9, hw9⟩ : ∃ w9, w9 = (((((((vz.setCell ⟨w.heap.size, 0, none⟩ (.int .i64 3)).setCell ⟨w.heap.size, 1, none⟩ (.string ⟨#[]⟩)).setCell ⟨w.heap.size, 2, none⟩ (.slice none 0 0)).setCell ⟨w.heap.size, 3, none⟩ (.int .i64 (kd - 10 + 1))).setCell ⟨w.heap.size, 4, none⟩ (.int .i64 tk)).setCell ⟨w.heap.size, 5, none⟩ (.string s)).setCell ⟨w.heap.size, 6, none⟩ (.int .i64 rk)).setCell ⟨w.heap.size, 7, none⟩ (.string rs) := ⟨_, rfl⟩
        obtain ⟨b9, m9⟩ := rlit_put vz w.heap.size (.int .i64 3) (.string ⟨#[]⟩) (.slice none 0 0) (.int .i64 (kd - 10 + 1)) (.int .i64 tk) (.string s) (.int .i64 rk) (.string rs) HBX.out hw9
        rw [← hw9]
        clear hw9
        have e0 := cell_at (j := 0) b9 rfl
        have e1 := cell_at (j := 1) b9 rfl
        have e2 := cell_at (j := 2) b9 rfl
        have e3 := cell_at (j := 3) b9 rfl
        have e4 := cell_at (j := 4) b9 rfl
        have e5 := cell_at (j := 5) b9 rfl
        have e6 := cell_at (j := 6) b9 rfl
        have e7 := cell_at (j := 7) b9 rfl
        have mF : Mod (Far w) vz w9 := m9.mono fun _ _ e => Nat.le_of_eq e.symm
        refine bodyPost_ret (v := .tuple #[.agg #[.int .i64 3, .string ⟨#[]⟩, .slice none 0 0, .int .i64 (kd - 10 + 1), .int .i64 tk, .string s, .int .i64 rk, .string rs], .bool true]) (by simp [results, Tryd.results101, go_sem, e0, e1, e2, e3, e4, e5, e6, e7]) rfl ?_
        have he : kd - 10 + 1 = kd - 9 := by omega
        exact .inr ⟨_, HX.out, ⟨_, by rw [he]; rfl, ⟨none, 0, rfl, Mine.Own.nil _ _ _, by simp⟩, H.out.far HS.out (mZ.trans mF)⟩, Mod.far HM9.out (mZ.trans mF)⟩
end Go.Proofs.YtgplagdehfhffaaDoor
/-
  The document's reader: rules.
-/
namespace Go.Proofs.YtgplagdehfhffaaDoor
open Go Go.RowKit Go.Mine
set_option linter.unusedVariables false
set_option maxHeartbeats 1000000
set_option maxRecDepth 100000

theorem rule_put (W : World) (g : Nat) (u0 u1 u2 : Value) {v0 v1 v2 : Value} {t : TypeId} (h : W.heap[g]? = some (.cells #[v0, v1, v2] t (0, 0))) {W' : World}
    (e : W' = ((W.setCell ⟨g, 0, none⟩ u0).setCell ⟨g, 1, none⟩ u1).setCell ⟨g, 2, none⟩ u2) :
    W'.heap[g]? = some (.cells #[u0, u1, u2] t (0, 0)) ∧ Mod (fun b => b = g) W W' := by
  have h0 : (W.setCell ⟨g, 0, none⟩ u0).heap[g]? = some (.cells #[u0, v1, v2] t (0, 0)) := heap_setCell_at (j := 0) u0 h
  have m0 : Mod (fun b => b = g) W (W.setCell ⟨g, 0, none⟩ u0) := (Mod.refl (fun b => b = g) W).setCell (p := ⟨g, 0, none⟩) (fun _ => rfl) _
  generalize W.setCell ⟨g, 0, none⟩ u0 = W0 at *
  have h1 : (W0.setCell ⟨g, 1, none⟩ u1).heap[g]? = some (.cells #[u0, u1, v2] t (0, 0)) := heap_setCell_at (j := 1) u1 h0
  have m1 : Mod (fun b => b = g) W (W0.setCell ⟨g, 1, none⟩ u1) := m0.setCell (p := ⟨g, 1, none⟩) (fun _ => rfl) _
  generalize W0.setCell ⟨g, 1, none⟩ u1 = W1 at *
  subst e
  exact ⟨heap_setCell_at (j := 2) u2 h1, m1.setCell (p := ⟨g, 2, none⟩) (fun _ => rfl) _⟩
theorem TsG.mono {w : World} {lo lo' : Nat} {v : Value} {ts : List Tm} (h : TsG w lo v ts) (hl : lo' ≤ lo) : TsG w lo' v ts := by
  obtain ⟨a, c, e, ho, hf⟩ := h
  exact ⟨a, c, e, ho, fun b hb => Nat.le_trans hl (hf b hb)⟩
/-- what turns no block of terms, and none of the old ones -/
theorem TsG.modT {w w' : World} {lo : Nat} {v : Value} {ts : List Tm} {T : Nat → Prop} (h : TsG w lo v ts) (m : Mod T w w') (hs : ∀ b, lo ≤ b → T b → ∀ cur, w.heap[b]? ≠ some (.cells cur 60 (0, 0))) : TsG w' lo v ts := by
  obtain ⟨a, c, e, ho, hf⟩ := h
  refine ⟨a, c, e, ho.mod m (fun b hb ht => ?_), hf⟩
  rcases ho.2 with ⟨rfl, _⟩ | ⟨b', cur, rfl, hg, _⟩
  · simp at hb
  · simp at hb; subst hb; exact hs b' (hf b' rfl) ht cur hg
theorem TsG.mod {w w' : World} {lo : Nat} {v : Value} {ts : List Tm} {T : Nat → Prop} (h : TsG w lo v ts) (m : Mod T w w') (hs : ∀ b, lo ≤ b → ¬ T b) : TsG w' lo v ts :=
  h.modT m fun b hb ht => absurd ht (hs b hb)
theorem TsG.at_ {w : World} {lo : Nat} {v : Value} {ts : List Tm} (h : TsG w lo v ts) : TsAt w v ts := by
  obtain ⟨a, c, e, ho, hf⟩ := h
  exact ⟨a, c, e, ho.rd⟩
/-- literals of the call's own -/
def LsG (w : World) (lo : Nat) (v : Value) (ls : List Lm) : Prop :=
  ∃ (a : Option Addr) (c : Nat) (xs : List (Lm × Value)), v = .slice a ls.length c ∧ xs.map Prod.fst = ls ∧ Mine.Own w 62 8 a ls.length c (lmsC xs) ∧ (∀ x ∈ xs, TsG w lo x.2 x.1.atom.terms) ∧ ∀ b, blk a = some b → lo ≤ b
theorem LsG.at_ {w : World} {lo : Nat} {v : Value} {ls : List Lm} (h : LsG w lo v ls) : LsAt w v ls := by
  obtain ⟨a, c, xs, e, hx, ho, ht, hf⟩ := h
  exact ⟨a, c, xs, e, hx, ho.rd, fun x hx => (ht x hx).at_⟩
theorem LsG.mono {w : World} {lo lo' : Nat} {v : Value} {ls : List Lm} (h : LsG w lo v ls) (hl : lo' ≤ lo) : LsG w lo' v ls := by
  obtain ⟨a, c, xs, e, hx, ho, ht, hf⟩ := h
  exact ⟨a, c, xs, e, hx, ho, fun x hx => (ht x hx).mono hl, fun b hb => Nat.le_trans hl (hf b hb)⟩
theorem LsG.modT {w w' : World} {lo : Nat} {v : Value} {ls : List Lm} {T : Nat → Prop} (h : LsG w lo v ls) (m : Mod T w w') (hs : ∀ b, lo ≤ b → T b → ∀ cur, w.heap[b]? ≠ some (.cells cur 60 (0, 0)) ∧ w.heap[b]? ≠ some (.cells cur 62 (0, 0))) : LsG w' lo v ls := by
  obtain ⟨a, c, xs, e, hx, ho, ht, hf⟩ := h
  refine ⟨a, c, xs, e, hx, ho.mod m (fun b hb htt => ?_), fun x hx => (ht x hx).modT m (fun b h1 h2 cur => (hs b h1 h2 cur).1), hf⟩
  rcases ho.2 with ⟨rfl, _⟩ | ⟨b', cur, rfl, hg, _⟩
  · simp at hb
  · simp at hb; subst hb; exact (hs b' (hf b' rfl) htt cur).2 hg
theorem LsG.mod {w w' : World} {lo : Nat} {v : Value} {ls : List Lm} {T : Nat → Prop} (h : LsG w lo v ls) (m : Mod T w w') (hs : ∀ b, lo ≤ b → ¬ T b) : LsG w' lo v ls :=
  h.modT m fun b hb ht => absurd ht (hs b hb)
theorem room4 (R : REnv) (k : Nat) (agg : Bool) (n : Nat) (w : World) (h : RSt w R k agg) (g : Nat) (hg : g = w.heap.size := by first | rfl | simp) :
    Calls Tryd.prog 53 #[.pointer (some ⟨R.b, 0, none⟩), .slice (some ⟨g, 0, none⟩) 4 4, .int .i64 n, .int .i64 64, .int .i64 82] (w.alloc (.cells #[.int .i64 1, .int .i64 2, .int .i64 3, .int .i64 9] 3)) (QP R w (roomP R.S k [1, 2, 3, 9] n 64 82) noB fun _ e w' => e = .returned (.bool true) ∧ RSt w' R k agg) := by
  subst hg
  have m : Mod (fun _ => False) w (w.alloc (.cells #[.int .i64 1, .int .i64 2, .int .i64 3, .int .i64 9] 3)) := (Mod.refl _ w).alloc _
  have h1 := room_any R k agg (some ⟨w.heap.size, 0, none⟩) 4 [1, 2, 3, 9] n 64 82 _ (h.mod0 m) (Rd.news w [.int .i64 1, .int .i64 2, .int .i64 3, .int .i64 9] _) (by simp) (by decide) (by omega)
  exact h1.mono fun e w' h => QP.pre m h
/-- a rule under way -/
structure RgI (R : REnv) (w0 W : World) (g1 : Nat) (pred : ByteArray) (ts : List Tm) (ha : Option Addr) (hc : Nat) (xs : List (Lm × Value)) (a : Option Addr) (c : Nat) : Prop where
  base : ∃ k0 ag0, RSt w0 R k0 ag0
  md : Mod R.Ch w0 W
  hg : w0.heap.size < g1
  b0 : W.heap[w0.heap.size]? = some (.cells #[.string ⟨#[]⟩, .slice none 0 0, .slice none 0 0] 40 (0, 0))
  b1 : W.heap[g1]? = some (.cells #[.string pred, .slice ha ts.length hc, .slice a xs.length c] 40 (0, 0))
  hd : TsG W (w0.heap.size + 1) (.slice ha ts.length hc) ts
  own : Mine.Own W 62 8 a xs.length c (lmsC xs)
  ts : ∀ x ∈ xs, TsG W (w0.heap.size + 1) x.2 x.1.atom.terms
  fr : ∀ b, blk a = some b → w0.heap.size < b ∧ b ≠ g1
section
variable {R : REnv} {w0 W W' : World} {g1 k k' c c' hc : Nat} {ag ag' : Bool} {pred : ByteArray} {ts : List Tm} {xs : List (Lm × Value)} {a a' ha : Option Addr}
theorem RgI.call (h : RgI R w0 W g1 pred ts ha hc xs a c) (m : Mod R.Ch W W') : RgI R w0 W' g1 pred ts ha hc xs a c := by
  obtain ⟨k0, ag0, h0⟩ := h.base
  have hg := h.hg
  exact ⟨h.base, h.md.trans m, hg, m.at h.b0 (h0.nch (Nat.le_refl _)), m.at h.b1 (h0.nch (by omega)), h.hd.mod m (fun b hb => h0.nch (by omega)), h.own.mod m (fun b hb => h0.nch (by have := h.fr b hb; omega)), fun x hx => (h.ts x hx).mod m (fun b hb => h0.nch (by omega)), h.fr⟩
theorem RgI.call0 (h : RgI R w0 W g1 pred ts ha hc xs a c) (m : Mod (fun _ => False) W W') : RgI R w0 W' g1 pred ts ha hc xs a c := h.call (m.mono fun _ _ f => f.elim)
theorem RgI.lt (h : RgI R w0 W g1 pred ts ha hc xs a c) : g1 < W.heap.size := (Array.getElem?_eq_some_iff.1 h.b1).1
theorem RgI.step (h : RgI R w0 W g1 pred ts ha hc xs a c) (hs : RSt W R k ag) {W1 : World} (t : Lm × Value) (htt : TsG W (w0.heap.size + 1) t.2 t.1.atom.terms) {us : List Value} (hu : us = lmC t) (ho : Mine.Own W1 62 8 a' (xs.length + 1) c' (lmsC xs ++ us)) (hg : ∃ W2, Mod (fun _ => False) W W2 ∧ Grow W2 a W1 a') :
    RgI R w0 (W1.setCell ⟨g1, 2, none⟩ (.slice a' (xs.length + 1) c')) g1 pred ts ha hc (xs ++ [t]) a' c' ∧ RSt (W1.setCell ⟨g1, 2, none⟩ (.slice a' (xs.length + 1) c')) R k ag := by
  obtain ⟨k0, ag0, h0⟩ := h.base
  obtain ⟨W2, m2, hg⟩ := hg
  have hl := h.lt
  have h1 := h.hg
  have mG : Mod (fun b => blk a = some b) W W1 := (m2.mono fun _ _ f => f.elim).step hg.mod (fun i _ hi => hi)
  have mF : Mod (Far w0) W W1 := mG.mono fun i _ hi => by have := h.fr i hi; unfold Far; omega
  have hfr : ∀ b, blk a' = some b → w0.heap.size < b ∧ b ≠ g1 := by
    intro b hb
    rcases hg.pos with e | ⟨b', e, hb'⟩
    · rw [e] at hb; exact h.fr b hb
    · rw [e] at hb; cases hb; have := m2.size; omega
  have m3 : Mod (Far w0) W (W1.setCell ⟨g1, 2, none⟩ (.slice a' (xs.length + 1) c')) := mF.setCell (p := ⟨g1, 2, none⟩) (fun _ => by unfold Far; simp; omega) _
  have m4 : Mod (fun b => b = g1) W1 (W1.setCell ⟨g1, 2, none⟩ (.slice a' (xs.length + 1) c')) := (Mod.refl (fun b => b = g1) W1).setCell (p := ⟨g1, 2, none⟩) (fun _ => rfl) _
  have b0 := hg.mod.at (m2.at h.b0 id) (fun e => by have := h.fr _ e; omega)
  have b1 := hg.mod.at (m2.at h.b1 id) (fun e => by have := h.fr _ e; omega)
  have hTT : ∀ v us, TsG W (w0.heap.size + 1) v us → TsG (W1.setCell ⟨g1, 2, none⟩ (.slice a' (xs.length + 1) c')) (w0.heap.size + 1) v us := fun v us hv =>
    (hv.modT mG (fun b _ hb cur hcur => by
      rcases h.own.2 with ⟨rfl, _⟩ | ⟨b', cur', rfl, hgg, _⟩
      · simp at hb
      · simp at hb; subst hb; rw [hgg] at hcur; cases hcur)).modT m4 (fun b _ hb cur hcur => by subst hb; rw [b1] at hcur; cases hcur)
  have hlen : (xs ++ [t]).length = xs.length + 1 := by simp
  refine ⟨⟨h.base, Mod.far h.md m3, h1, m4.at b0 (by omega), ?_, hTT _ _ h.hd, ?_, fun x hx => ?_, hfr⟩, h0.far hs m3⟩
  · have := heap_setCell_at (j := 2) (.slice a' (xs.length + 1) c') b1
    rw [hlen]; exact this
  · rw [hlen, lmsC_append]
    subst hu
    have := ho.mod m4 (fun b hb e => by have := hfr b hb; omega)
    simpa [lmsC] using this
  · rcases List.mem_append.1 hx with hx | hx
    · exact hTT _ _ (h.ts x hx)
    · simp at hx; subst hx; exact hTT _ _ htt
end
def noRm : Ending → Prop := fun e => ∃ (s : ByteArray) (a : Option Addr) (n c : Nat) (b : Option Addr) (m d : Nat), e = .returned (.tuple #[.agg #[.string s, .slice a n c, .slice b m d], .bool false])
def ResRg (R : REnv) (lo : Nat) (r : Rm × Nat × Bool) (e : Ending) (w' : World) : Prop :=
  ∃ s b, e = .returned (.tuple #[rmV r.1 s b, .bool true]) ∧ TsG w' lo s r.1.head.terms ∧ LsG w' lo b r.1.body ∧ RSt w' R r.2.1 r.2.2
theorem bodyGoR_room {S : Toks} {n k : Nat} {agg : Bool} {acc : List Lm} (hn : acc.length ≤ 64) : bodyGoR S agg (n + 1) k acc = (roomP S (k + 1) [1, 2, 3, 9] acc.length 64 82).bind fun _ =>
      (litR S (k + 1) agg).bind fun r => if (S.tok r.2).kind = 6 then bodyGoR S agg n r.2 (acc ++ [r.1]) else .ok (acc ++ [r.1], r.2) := by
  rw [bodyGoR]
  unfold roomP
  rw [bind_assoc']
  refine bind_congr' fun u _ => ?_
  by_cases h : acc.length = 64
  · rw [if_pos h, if_pos (by omega)]; rfl
  · rw [if_neg h, if_neg (by omega)]; rfl
theorem refRuleR_any (R : REnv) (k : Nat) (agg : Bool) (w : World) (h : RSt w R k agg) :
    Calls Tryd.prog 54 #[.pointer (some ⟨R.b, 0, none⟩)] w (QP R w (ruleR R.S k) noRm (ResRg R w.heap.size)) := by
  have m0 : Mod (fun _ => False) w (w.alloc (.cells #[.string ⟨#[]⟩, .slice none 0 0, .slice none 0 0] 40)) := (Mod.refl _ w).alloc _
  have h0 := h.mod0 m0
  have a5 := h.bk.c5
  have a5f := h.bk.fz 5
  obtain ⟨h1, m1⟩ := h0.bk.set (j := 5) (u := .bool false) (i' := k) (e' := 0) (at' := 0) (agg' := false) rfl
  have HS1 : Hid (RSt ((w.alloc (.cells #[.string ⟨#[]⟩, .slice none 0 0, .slice none 0 0] 40)).setCell ⟨R.b, 5, none⟩ (.bool false)) R k false) := ⟨h1, h0.le⟩
  have HM1 := Lib.hid ((m0.mono (T := R.Ch) fun _ _ f => f.elim).trans m1)
  have HB1 := Lib.hid (m1.at (heap_alloc_new w (.cells #[.string ⟨#[]⟩, .slice none 0 0, .slice none 0 0] 40)) (h.nch (Nat.le_refl _)))
  have b5 := h0.bk.c5
  have b5f := h0.bk.fz 5
  have hne : ¬ R.b = w.heap.size := by have := h.lt; omega
  have H := Lib.hid h
  have HD : Hid (ruleR R.S k = (atomR true R.S k false).bind fun h => (bodyR R.S h.2.1 h.2.2).bind fun b => (wordP R.S b.2 [7]).bind fun z => .ok (⟨h.1, b.1⟩, z.2, h.2.2)) := rfl
  clear h m0 h0 h1 m1
  go_enter Tryd.func54, Tryd.ntmps54
  go_wp2_with fail
  obtain ⟨v1, hv1⟩ : ∃ v1, v1 = ((w.alloc (.cells #[.string ⟨#[]⟩, .slice none 0 0, .slice none 0 0] 40)).setCell ⟨R.b, 5, none⟩ (.bool false)) := ⟨_, rfl⟩
  rw [← hv1] at HS1 HM1 HB1 ⊢
  have hz1 : w.heap.size < v1.heap.size := (Array.getElem?_eq_some_iff.1 HB1.out).1
  have HZ1 := Lib.hid hz1
  clear hv1 b5 b5f a5 a5f hne hz1
  refine (refAtom_any R true k false v1 HS1.out).mono ?_
  rintro e v2 (⟨x, hx, ⟨js, ja, jn, jc, rfl⟩, hE, hM⟩ | ⟨⟨⟨p, ts⟩, k2, ag2⟩, hx, ⟨v, rfl, ⟨ha, hc, rfl, hO, hlo⟩, hS⟩, hM⟩)
  · have HX := Lib.hid (show ruleR R.S k = .error x by rw [HD.out, hx]; rfl)
    have HE := Lib.hid hE
    have HM2 := Lib.hid (HM1.out.trans hM)
    have HB0 := Lib.hid (((Mod.refl (fun _ => False) v2).alloc (.cells #[.string js, .slice ja jn jc] 37)).at (hM.at HB1.out (H.out.nch (Nat.le_refl _))) id)
    clear hx hE hM HS1 HM1 HB1
    have c0 := cell_at (j := 0) HB0.out rfl
    have c1 := cell_at (j := 1) HB0.out rfl
    have c2 := cell_at (j := 2) HB0.out rfl
    have f0 : ((v2.alloc (.cells #[.string js, .slice ja jn jc] 37))).frozen? ⟨w.heap.size, 0, none⟩ = false := frozen_at HB0.out
    have f1 : ((v2.alloc (.cells #[.string js, .slice ja jn jc] 37))).frozen? ⟨w.heap.size, 1, none⟩ = false := frozen_at HB0.out
    have f2 : ((v2.alloc (.cells #[.string js, .slice ja jn jc] 37))).frozen? ⟨w.heap.size, 2, none⟩ = false := frozen_at HB0.out
    go_wp2_with fail
    obtain ⟨vz, hvz⟩ : ∃ vz, vz = (v2.alloc (.cells #[.string js, .slice ja jn jc] 37)) := ⟨_, rfl⟩
    have mZ0 : Mod (fun _ => False) v2 vz := by rw [hvz]; exact (Mod.refl _ v2).alloc _
    have mZ : Mod (Far w) v2 vz := mZ0.mono fun _ _ f => f.elim
    rw [← hvz] at HB0 ⊢
    clear hvz
    obtain ⟨w9, hw9⟩ : ∃ w9, w9 = (((vz.setCell ⟨w.heap.size, 0, none⟩ (.string ⟨#[]⟩)).setCell ⟨w.heap.size, 1, none⟩ (.slice none 0 0)).setCell ⟨w.heap.size, 2, none⟩ (.slice none 0 0)) := ⟨_, rfl⟩
    obtain ⟨b9, m9⟩ := rule_put vz w.heap.size (.string ⟨#[]⟩) (.slice none 0 0) (.slice none 0 0) HB0.out hw9
    have mF : Mod (Far w) vz w9 := m9.mono fun _ _ e => Nat.le_of_eq e.symm
    rw [← hw9]
    clear hw9
    have e0 := cell_at (j := 0) b9 rfl
    have e1 := cell_at (j := 1) b9 rfl
    have e2 := cell_at (j := 2) b9 rfl
    refine bodyPost_ret (v := .tuple #[.agg #[.string ⟨#[]⟩, .slice none 0 0, .slice none 0 0], .bool false]) (by simp [results, Tryd.results54, go_sem, e0, e1, e2]) rfl ?_
    exact .inl ⟨x, HX.out, ⟨_, none, 0, 0, none, 0, 0, rfl⟩, HE.out.far H.out (mZ.trans mF), Mod.far HM2.out (mZ.trans mF)⟩
  have HX0 := Lib.hid (show ruleR R.S k = (bodyR R.S k2 ag2).bind fun b => (wordP R.S b.2 [7]).bind fun z => .ok (⟨⟨p, ts⟩, b.1⟩, z.2, ag2) by rw [HD.out, hx]; rfl)
  have m3 : Mod (fun _ => False) v2 ((v2.alloc (.cells #[.string p, .slice ha ts.length hc] 37)).alloc (.cells #[.string p, .slice ha ts.length hc, .slice none 0 0] 40)) := ((Mod.refl _ v2).alloc _).alloc _
  have hb3 : ((v2.alloc (.cells #[.string p, .slice ha ts.length hc] 37)).alloc (.cells #[.string p, .slice ha ts.length hc, .slice none 0 0] 40)).heap[v2.heap.size + 1]? = some (.cells #[.string p, .slice ha ts.length hc, .slice none 0 0] 40 (0, 0)) := by
    have := heap_alloc_new (v2.alloc (.cells #[.string p, .slice ha ts.length hc] 37)) (.cells #[.string p, .slice ha ts.length hc, .slice none 0 0] 40)
    simpa using this
  have hsz := hM.size
  have hA : RgI R w _ (v2.heap.size + 1) p ts ha hc [] none 0 :=
    ⟨⟨_, _, H.out⟩, (HM1.out.trans hM).trans (m3.mono fun _ _ f => f.elim), by have := HZ1.out; omega, m3.at (hM.at HB1.out (H.out.nch (Nat.le_refl _))) id, hb3,
      TsG.mono (lo := v1.heap.size) (show TsG _ v1.heap.size _ ts from ⟨ha, hc, rfl, hO.mod m3 (fun _ _ => id), hlo⟩) HZ1.out, Mine.Own.nil _ _ _, by simp, by simp⟩
  have HA := Lib.hid hA
  have HS := Lib.hid (hS.mod0 m3)
  have HKD := Lib.hid HS.out.kindC
  clear hx hM hS hO hlo m3 hb3 hsz hA HB1 HM1 HS1 HD
  by_cases h8 : kindI R.S k2 = 8
  · have h8' : Hid (kindI R.S k2 = 8) := h8
    have HXe : Hid (∀ x, bodyGoR R.S ag2 65 k2 [] = .error x → ruleR R.S k = .error x) := fun x h => by
      rw [HX0.out]; unfold bodyR; rw [if_pos ((kindI_iff (c := 8) (by omega)).2 h8'.out), h]; rfl
    have HXm : Hid (∀ r, bodyGoR R.S ag2 65 k2 [] = .ok r → ruleR R.S k = (wordP R.S r.2 [7]).bind fun z => .ok (⟨⟨p, ts⟩, r.1⟩, z.2, ag2)) := fun r h => by
      rw [HX0.out]; unfold bodyR; rw [if_pos ((kindI_iff (c := 8) (by omega)).2 h8'.out), h, bind_ok']
    rw [h8] at HKD
    clear h8 HX0
    go_wp2_with fail
    refine HKD.out.mono ?_
    rintro e v3 ⟨rfl, hM⟩
    obtain ⟨g1, hg1⟩ : ∃ g1, g1 = v2.heap.size + 1 := ⟨_, rfl⟩
    rw [← hg1] at HA ⊢
    replace HA := Lib.hid (HA.out.call0 hM)
    replace HS := Lib.hid (HS.out.mod0 hM)
    clear hM HKD hg1
    go_wp2_with fail
    go_loopg [] 65 (fun n wr => ∃ (k' : Nat) (xs : List (Lm × Value)) (a : Option Addr) (c : Nat), Hid (RgI R w wr g1 p ts ha hc xs a c) ∧ Hid (RSt wr R k' ag2) ∧
      ((0 < n ∧ n + xs.length = 65 ∧ ((kindI R.S k' = 8 ∧ xs = []) ∨ kindI R.S k' = 6) ∧ Hid (bodyGoR R.S ag2 65 k2 [] = bodyGoR R.S ag2 n k' (xs.map Prod.fst))) ∨ (kindI R.S k' ≠ 6 ∧ (kindI R.S k' = 8 → xs ≠ []) ∧ Hid (bodyGoR R.S ag2 65 k2 [] = .ok (xs.map Prod.fst, k')))))
    case atStart => exact ⟨k2, [], none, 0, HA, HS, .inl ⟨by omega, rfl, .inl ⟨h8'.out, rfl⟩, Lib.hid rfl⟩⟩
    case round =>
      clear HA HS
      obtain ⟨k', xs, a, c, HA, HS, (⟨hpos, hn, hk, HL⟩ | ⟨hk6, hk8, HL⟩)⟩ := hrel
      · obtain ⟨n, rfl⟩ : ∃ n, gk = n + 1 := ⟨gk - 1, by omega⟩
        have hlt : k' < R.S.ts.length := by
          rcases hk with ⟨hk, -⟩ | hk
          · exact (kindI_pos (by omega) hk).2.2
          · exact (kindI_pos (by omega) hk).2.2
        have HKD : Hid (∀ W, Mod (fun _ => False) wr W → Calls Tryd.prog 52 #[.pointer (some ⟨R.b, 0, none⟩)] W fun e w' => e = .returned (.int .i64 (kindI R.S k')) ∧ Mod (fun _ => False) wr w') := fun W m => (HS.out.mod0 m).kindC.mono fun e w' ⟨h1, h2⟩ => ⟨h1, m.trans h2⟩
        have hlen := HS.out.bk.ok.len
        have HRM := Lib.hid (bodyGoR_room (S := R.S) (n := n) (k := k') (agg := ag2) (acc := xs.map Prod.fst) (by rw [List.length_map]; omega))
        have hml : (xs.map Prod.fst).length = xs.length := List.length_map ..
        rw [hml] at HRM
        have hal : xs.length ≤ 64 := by omega
        have hnl := Lib.hid hn
        clear hn hml
        rcases hk with ⟨hk, hxs⟩ | hk
        · have hnz : (((xs.length : Nat) : Int) == 0) = true := by rw [hxs]; rfl
          rw [hk] at HKD
          clear hk hxs
          go_wp2_with fail
          refine (HKD.out _ (Mod.refl _ _)).mono ?_
          rintro e v3 ⟨rfl, hM⟩
          have HM := Lib.hid hM; clear hM
          have q2 := cell_at (j := 2) (HA.out.call0 HM.out).b1 rfl
          have HA3 := Lib.hid (HA.out.call0 HM.out)
          have HS3 := HS.out.mod0 HM.out
          clear HM HKD HA HS
          have a2 := HS3.bk.c2
          have a2f := HS3.bk.fz 2
          have hne : ¬ g1 = R.b := by have := HA3.out.hg; have := H.out.lt; omega
          have hne2 : ¬ R.b = g1 := fun e => hne e.symm
          obtain ⟨h4, m4⟩ := HS3.bk.set (j := 2) (u := .int .i64 ((k' : Int) + 1)) (i' := k' + 1) (e' := 0) (at' := 0) (agg' := ag2) rfl
          have HS4 : Hid (RSt (v3.setCell ⟨R.b, 2, none⟩ (.int .i64 ((k' : Int) + 1))) R (k' + 1) ag2) := ⟨h4, by omega⟩
          have HA4 := Lib.hid (HA3.out.call m4)
          have HRC := Lib.hid (room4 R (k' + 1) ag2 xs.length _ HS4.out v3.heap.size)
          have d2 := cell_at (j := 2) HA4.out.b1 rfl
          have hn3 : ¬ g1 = v3.heap.size := by have := HA3.out.lt; omega
          have hn3' : ¬ v3.heap.size = g1 := fun e => hn3 e.symm
          have d2a := ((Mod.refl (fun _ => False) (v3.setCell ⟨R.b, 2, none⟩ (.int .i64 ((k' : Int) + 1)))).alloc (.cells #[.int .i64 1, .int .i64 2, .int .i64 3, .int .i64 9] 3)).cell d2 id
          clear h4 m4 HS3 HA3
          go_wp2_with fail
          refine HRC.out.mono ?_
          rintro e v5 (⟨x, hx, rfl, hE, hM⟩ | ⟨u, hx, ⟨rfl, hS⟩, hM⟩)
          · have HX := Lib.hid (HXe.out x (by rw [HL.out, HRM.out, hx]; rfl))
            have HE := Lib.hid hE
            have HA5 := Lib.hid (HA4.out.call hM)
            clear hx hE hM HRC d2 d2a hn3 hn3' a2 a2f HS4 HA4
            have HB0 := Lib.hid (HA5).out.b0
            have c0 := cell_at (j := 0) HB0.out rfl
            have c1 := cell_at (j := 1) HB0.out rfl
            have c2 := cell_at (j := 2) HB0.out rfl
            have f0 : (v5).frozen? ⟨w.heap.size, 0, none⟩ = false := frozen_at HB0.out
            have f1 : (v5).frozen? ⟨w.heap.size, 1, none⟩ = false := frozen_at HB0.out
            have f2 : (v5).frozen? ⟨w.heap.size, 2, none⟩ = false := frozen_at HB0.out
            have d0 := cell_at (j := 0) (HA5).out.b1 rfl
            have d1 := cell_at (j := 1) (HA5).out.b1 rfl
            have d2 := cell_at (j := 2) (HA5).out.b1 rfl
            have n01 : ¬ g1 = w.heap.size := by have := (HA5).out.hg; omega
            have n10 : ¬ w.heap.size = g1 := by have := (HA5).out.hg; omega
            go_wp2_with fail
            obtain ⟨vz, hvz⟩ : ∃ vz, vz = v5 := ⟨_, rfl⟩
            have mZ0 : Mod (fun _ => False) v5 vz := by rw [hvz]; exact Mod.refl _ v5
            have mZ : Mod (Far w) v5 vz := mZ0.mono fun _ _ f => f.elim
            rw [← hvz] at HB0 ⊢
            clear hvz
            obtain ⟨w9, hw9⟩ : ∃ w9, w9 = (((vz.setCell ⟨w.heap.size, 0, none⟩ (.string p)).setCell ⟨w.heap.size, 1, none⟩ (.slice ha ts.length hc)).setCell ⟨w.heap.size, 2, none⟩ (.slice a xs.length c)) := ⟨_, rfl⟩
            obtain ⟨b9, m9⟩ := rule_put vz w.heap.size (.string p) (.slice ha ts.length hc) (.slice a xs.length c) HB0.out hw9
            have mF : Mod (Far w) vz w9 := m9.mono fun _ _ e => Nat.le_of_eq e.symm
            rw [← hw9]
            clear hw9
            have e0 := cell_at (j := 0) b9 rfl
            have e1 := cell_at (j := 1) b9 rfl
            have e2 := cell_at (j := 2) b9 rfl
            refine bodyPost_ret (v := .tuple #[.agg #[.string p, .slice ha ts.length hc, .slice a xs.length c], .bool false]) (by simp [results, Tryd.results54, go_sem, e0, e1, e2]) rfl ?_
            exact .inl ⟨x, HX.out, ⟨_, _, _, _, _, _, _, rfl⟩, HE.out.far H.out (mZ.trans mF), Mod.far HA5.out.md (mZ.trans mF)⟩
          have HR2 := Lib.hid (show bodyGoR R.S ag2 65 k2 [] = (litR R.S (k' + 1) ag2).bind fun r => if (R.S.tok r.2).kind = 6 then bodyGoR R.S ag2 n r.2 (xs.map Prod.fst ++ [r.1]) else .ok (xs.map Prod.fst ++ [r.1], r.2) by rw [HL.out, HRM.out, hx]; rfl)
          have h63 := roomP_ok hx
          have HA5 := Lib.hid (HA4.out.call hM)
          have HPT := Lib.hid (refLit_any R (k' + 1) ag2 v5 hS)
          have hz5 : w.heap.size < v5.heap.size := by have := HA5.out.lt; have := HA5.out.hg; omega
          have HZ5 := Lib.hid hz5
          clear hx hS hM HRC d2 d2a hn3 hn3' a2 a2f HS4 HA4 HRM HL hz5
          go_wp2_with fail
          refine HPT.out.mono ?_
          rintro e v6 (⟨x, hx, ⟨jk, js, ja, jn, jc, jo, jl, jm, jr, jq, rfl⟩, hE, hM⟩ | ⟨⟨⟨lk, ⟨lp, lts⟩, lo, ⟨ll1, ll2⟩, ⟨lr1, lr2⟩⟩, k6⟩, hx, ⟨v, rfl, ⟨la, lc, rfl, hO, hlo⟩, hS⟩, hM⟩)
          · have HX := Lib.hid (HXe.out x (by rw [HR2.out, hx]; rfl))
            have HE := Lib.hid hE
            have HM6 := Lib.hid (HA5.out.md.trans hM)
            have HA6 := Lib.hid ((HA5.out.call hM).call0 ((Mod.refl (fun _ => False) v6).alloc (.cells #[.int .i64 jk, .string js, .slice ja jn jc, .int .i64 jo, .int .i64 jl, .string jm, .int .i64 jr, .string jq] 62)))
            clear hx hM hE HPT HR2 HA5
            have HB0 := Lib.hid (HA6).out.b0
            have c0 := cell_at (j := 0) HB0.out rfl
            have c1 := cell_at (j := 1) HB0.out rfl
            have c2 := cell_at (j := 2) HB0.out rfl
            have f0 : ((v6.alloc (.cells #[.int .i64 jk, .string js, .slice ja jn jc, .int .i64 jo, .int .i64 jl, .string jm, .int .i64 jr, .string jq] 62))).frozen? ⟨w.heap.size, 0, none⟩ = false := frozen_at HB0.out
            have f1 : ((v6.alloc (.cells #[.int .i64 jk, .string js, .slice ja jn jc, .int .i64 jo, .int .i64 jl, .string jm, .int .i64 jr, .string jq] 62))).frozen? ⟨w.heap.size, 1, none⟩ = false := frozen_at HB0.out
            have f2 : ((v6.alloc (.cells #[.int .i64 jk, .string js, .slice ja jn jc, .int .i64 jo, .int .i64 jl, .string jm, .int .i64 jr, .string jq] 62))).frozen? ⟨w.heap.size, 2, none⟩ = false := frozen_at HB0.out
            have d0 := cell_at (j := 0) (HA6).out.b1 rfl
            have d1 := cell_at (j := 1) (HA6).out.b1 rfl
            have d2 := cell_at (j := 2) (HA6).out.b1 rfl
            have n01 : ¬ g1 = w.heap.size := by have := (HA6).out.hg; omega
            have n10 : ¬ w.heap.size = g1 := by have := (HA6).out.hg; omega
            go_wp2_with fail
            obtain ⟨vz, hvz⟩ : ∃ vz, vz = (v6.alloc (.cells #[.int .i64 jk, .string js, .slice ja jn jc, .int .i64 jo, .int .i64 jl, .string jm, .int .i64 jr, .string jq] 62)) := ⟨_, rfl⟩
            have mZ0 : Mod (fun _ => False) v6 vz := by rw [hvz]; exact (Mod.refl _ v6).alloc _
            have mZ : Mod (Far w) v6 vz := mZ0.mono fun _ _ f => f.elim
            rw [← hvz] at HB0 ⊢
            clear hvz
            obtain ⟨w9, hw9⟩ : ∃ w9, w9 = (((vz.setCell ⟨w.heap.size, 0, none⟩ (.string p)).setCell ⟨w.heap.size, 1, none⟩ (.slice ha ts.length hc)).setCell ⟨w.heap.size, 2, none⟩ (.slice a xs.length c)) := ⟨_, rfl⟩
            obtain ⟨b9, m9⟩ := rule_put vz w.heap.size (.string p) (.slice ha ts.length hc) (.slice a xs.length c) HB0.out hw9
            have mF : Mod (Far w) vz w9 := m9.mono fun _ _ e => Nat.le_of_eq e.symm
            rw [← hw9]
            clear hw9
            have e0 := cell_at (j := 0) b9 rfl
            have e1 := cell_at (j := 1) b9 rfl
            have e2 := cell_at (j := 2) b9 rfl
            refine bodyPost_ret (v := .tuple #[.agg #[.string p, .slice ha ts.length hc, .slice a xs.length c], .bool false]) (by simp [results, Tryd.results54, go_sem, e0, e1, e2]) rfl ?_
            exact .inl ⟨x, HX.out, ⟨_, _, _, _, _, _, _, rfl⟩, HE.out.far H.out (mZ.trans mF), Mod.far HM6.out (mZ.trans mF)⟩
          have HR3 := Lib.hid (show bodyGoR R.S ag2 65 k2 [] = if (R.S.tok k6).kind = 6 then bodyGoR R.S ag2 n k6 (xs.map Prod.fst ++ [⟨lk, ⟨lp, lts⟩, lo, ⟨ll1, ll2⟩, ⟨lr1, lr2⟩⟩]) else .ok (xs.map Prod.fst ++ [⟨lk, ⟨lp, lts⟩, lo, ⟨ll1, ll2⟩, ⟨lr1, lr2⟩⟩], k6) by rw [HR2.out, hx]; rfl)
          have HTG := Lib.hid ((show TsG v6 v5.heap.size (.slice la lts.length lc) lts from ⟨_, _, rfl, hO, hlo⟩).mono (lo' := w.heap.size + 1) HZ5.out)
          have HA6 := Lib.hid (HA5.out.call hM)
          have HS6 := Lib.hid hS
          have m7 : Mod (fun _ => False) v6 ((v6.alloc (.cells #[.int .i64 lk, .string lp, .slice la lts.length lc, .int .i64 lo, .int .i64 ll1, .string ll2, .int .i64 lr1, .string lr2] 62)).alloc (.cells #[.int .i64 lk, .string lp, .slice la lts.length lc, .int .i64 lo, .int .i64 ll1, .string ll2, .int .i64 lr1, .string lr2] 62)) := ((Mod.refl _ v6).alloc _).alloc _
          have HM7 := Lib.hid m7
          have HO7 := Lib.hid (HA6.out.own.mod m7 (fun _ _ => id))
          have HB7 := Lib.hid (m7.at HA6.out.b1 id)
          have HFR := Lib.hid HA6.out.fr
          have d2 := cell_at (j := 2) HA6.out.b1 rfl
          have d2a := ((Mod.refl (fun _ => False) v6).alloc (.cells #[.int .i64 lk, .string lp, .slice la lts.length lc, .int .i64 lo, .int .i64 ll1, .string ll2, .int .i64 lr1, .string lr2] 62)).cell d2 id
          unfold lmV
          clear hx hM hS HPT HR2 HA5 hO hlo m7
          go_wp2_with (first
            | (at_builtin; refine wpL_append rfl (.tmp 65) (.tmp 67) 38 38 rfl tiL rfl HO7.out rfl (Src.ofRd tiL.ht 1 1 (Rd.news _ [_, _, _, _, _, _, _, _] 62) (by simp) (by simp [Value.oneCell'])) (by omega) (by unfold maxLen; omega) ?_; intro a3 c3 w9 hO9 hG9 _
               have hb9 := hG9.mod.at HB7.out (fun e => by have := HFR.out _ e; omega)
               have y1 := cell_at (j := 2) hb9 rfl
               have y1f : w9.frozen? ⟨g1, 2, none⟩ = false := frozen_at hb9
               have hT := HA6.out.step HS6.out (⟨lk, ⟨lp, lts⟩, lo, ⟨ll1, ll2⟩, ⟨lr1, lr2⟩⟩, .slice la lts.length lc) HTG.out rfl hO9 ⟨_, HM7.out, hG9⟩
               have HT := Lib.hid hT
               clear hO9 hG9 hb9 hT HO7 HB7 HM7 HA6 HS6 HTG d2 d2a)
            | fail)
          obtain ⟨w10, hw10⟩ : ∃ w10, w10 = w9.setCell ⟨g1, 2, none⟩ (.slice a3 (xs.length + 1) c3) := ⟨_, rfl⟩
          rw [← hw10] at HT
          rw [← hw10]
          clear hw10 y1 y1f
          have HA10 := Lib.hid HT.out.1; have HS10 := Lib.hid HT.out.2
          clear HT HFR
          have h6i := kindI_iff (S := R.S) (k := k6) (c := 6) (by omega)
          have hmap : (xs ++ [((⟨lk, ⟨lp, lts⟩, lo, ⟨ll1, ll2⟩, ⟨lr1, lr2⟩⟩ : Lm), Value.slice la lts.length lc)]).map Prod.fst = xs.map Prod.fst ++ [⟨lk, ⟨lp, lts⟩, lo, ⟨ll1, ll2⟩, ⟨lr1, lr2⟩⟩] := by simp
          by_cases hk6 : kindI R.S k6 = 6
          · have HL2 := Lib.hid ((HR3.out.trans (if_pos (h6i.2 hk6))).trans (by rw [← hmap]))
            clear h6i HR3 hmap
            go_roundg n
            case measure => omega
            case rel => exact ⟨k6, _, a3, c3, HA10, HS10, .inl ⟨by have := hnl.out; omega, by simp; have := hnl.out; omega, .inr hk6, HL2⟩⟩
          · have HL2 := Lib.hid ((HR3.out.trans (if_neg (fun e => hk6 (h6i.1 e)))).trans (by rw [← hmap]))
            clear h6i HR3 hmap
            go_roundg n
            case measure => omega
            case rel => exact ⟨k6, _, a3, c3, HA10, HS10, .inr ⟨hk6, fun _ => by simp, HL2⟩⟩
        · rw [hk] at HKD
          clear hk
          go_wp2_with fail
          refine (HKD.out _ (Mod.refl _ _)).mono ?_
          rintro e v2' ⟨rfl, hM⟩
          have HM := Lib.hid hM; clear hM
          go_wp2_with fail
          refine (HKD.out _ HM.out).mono ?_
          rintro e v3 ⟨rfl, hM⟩
          have HM := Lib.hid hM; clear hM
          have HA3 := Lib.hid (HA.out.call0 HM.out)
          have HS3 := HS.out.mod0 HM.out
          clear HM HKD HA HS
          have a2 := HS3.bk.c2
          have a2f := HS3.bk.fz 2
          have hne : ¬ g1 = R.b := by have := HA3.out.hg; have := H.out.lt; omega
          have hne2 : ¬ R.b = g1 := fun e => hne e.symm
          obtain ⟨h4, m4⟩ := HS3.bk.set (j := 2) (u := .int .i64 ((k' : Int) + 1)) (i' := k' + 1) (e' := 0) (at' := 0) (agg' := ag2) rfl
          have HS4 : Hid (RSt (v3.setCell ⟨R.b, 2, none⟩ (.int .i64 ((k' : Int) + 1))) R (k' + 1) ag2) := ⟨h4, by omega⟩
          have HA4 := Lib.hid (HA3.out.call m4)
          have HRC := Lib.hid (room4 R (k' + 1) ag2 xs.length _ HS4.out v3.heap.size)
          have d2 := cell_at (j := 2) HA4.out.b1 rfl
          have hn3 : ¬ g1 = v3.heap.size := by have := HA3.out.lt; omega
          have hn3' : ¬ v3.heap.size = g1 := fun e => hn3 e.symm
          have d2a := ((Mod.refl (fun _ => False) (v3.setCell ⟨R.b, 2, none⟩ (.int .i64 ((k' : Int) + 1)))).alloc (.cells #[.int .i64 1, .int .i64 2, .int .i64 3, .int .i64 9] 3)).cell d2 id
          clear h4 m4 HS3 HA3
          go_wp2_with fail
          refine HRC.out.mono ?_
          rintro e v5 (⟨x, hx, rfl, hE, hM⟩ | ⟨u, hx, ⟨rfl, hS⟩, hM⟩)
          · have HX := Lib.hid (HXe.out x (by rw [HL.out, HRM.out, hx]; rfl))
            have HE := Lib.hid hE
            have HA5 := Lib.hid (HA4.out.call hM)
            clear hx hE hM HRC d2 d2a hn3 hn3' a2 a2f HS4 HA4
            have HB0 := Lib.hid (HA5).out.b0
            have c0 := cell_at (j := 0) HB0.out rfl
            have c1 := cell_at (j := 1) HB0.out rfl
            have c2 := cell_at (j := 2) HB0.out rfl
            have f0 : (v5).frozen? ⟨w.heap.size, 0, none⟩ = false := frozen_at HB0.out
            have f1 : (v5).frozen? ⟨w.heap.size, 1, none⟩ = false := frozen_at HB0.out
            have f2 : (v5).frozen? ⟨w.heap.size, 2, none⟩ = false := frozen_at HB0.out
            have d0 := cell_at (j := 0) (HA5).out.b1 rfl
            have d1 := cell_at (j := 1) (HA5).out.b1 rfl
            have d2 := cell_at (j := 2) (HA5).out.b1 rfl
            have n01 : ¬ g1 = w.heap.size := by have := (HA5).out.hg; omega
            have n10 : ¬ w.heap.size = g1 := by have := (HA5).out.hg; omega
            go_wp2_with fail
            obtain ⟨vz, hvz⟩ : ∃ vz, vz = v5 := ⟨_, rfl⟩
            have mZ0 : Mod (fun _ => False) v5 vz := by rw [hvz]; exact Mod.refl _ v5
            have mZ : Mod (Far w) v5 vz := mZ0.mono fun _ _ f => f.elim
            rw [← hvz] at HB0 ⊢
            clear hvz
            obtain ⟨w9, hw9⟩ : ∃ w9, w9 = (((vz.setCell ⟨w.heap.size, 0, none⟩ (.string p)).setCell ⟨w.heap.size, 1, none⟩ (.slice ha ts.length hc)).setCell ⟨w.heap.size, 2, none⟩ (.slice a xs.length c)) := ⟨_, rfl⟩
            obtain ⟨b9, m9⟩ := rule_put vz w.heap.size (.string p) (.slice ha ts.length hc) (.slice a xs.length c) HB0.out hw9
            have mF : Mod (Far w) vz w9 := m9.mono fun _ _ e => Nat.le_of_eq e.symm
            rw [← hw9]
            clear hw9
            have e0 := cell_at (j := 0) b9 rfl
            have e1 := cell_at (j := 1) b9 rfl
            have e2 := cell_at (j := 2) b9 rfl
            refine bodyPost_ret (v := .tuple #[.agg #[.string p, .slice ha ts.length hc, .slice a xs.length c], .bool false]) (by simp [results, Tryd.results54, go_sem, e0, e1, e2]) rfl ?_
            exact .inl ⟨x, HX.out, ⟨_, _, _, _, _, _, _, rfl⟩, HE.out.far H.out (mZ.trans mF), Mod.far HA5.out.md (mZ.trans mF)⟩
          have HR2 := Lib.hid (show bodyGoR R.S ag2 65 k2 [] = (litR R.S (k' + 1) ag2).bind fun r => if (R.S.tok r.2).kind = 6 then bodyGoR R.S ag2 n r.2 (xs.map Prod.fst ++ [r.1]) else .ok (xs.map Prod.fst ++ [r.1], r.2) by rw [HL.out, HRM.out, hx]; rfl)
          have h63 := roomP_ok hx
          have HA5 := Lib.hid (HA4.out.call hM)
          have HPT := Lib.hid (refLit_any R (k' + 1) ag2 v5 hS)
          have hz5 : w.heap.size < v5.heap.size := by have := HA5.out.lt; have := HA5.out.hg; omega
          have HZ5 := Lib.hid hz5
          clear hx hS hM HRC d2 d2a hn3 hn3' a2 a2f HS4 HA4 HRM HL hz5
          go_wp2_with fail
          refine HPT.out.mono ?_
          rintro e v6 (⟨x, hx, ⟨jk, js, ja, jn, jc, jo, jl, jm, jr, jq, rfl⟩, hE, hM⟩ | ⟨⟨⟨lk, ⟨lp, lts⟩, lo, ⟨ll1, ll2⟩, ⟨lr1, lr2⟩⟩, k6⟩, hx, ⟨v, rfl, ⟨la, lc, rfl, hO, hlo⟩, hS⟩, hM⟩)
          · have HX := Lib.hid (HXe.out x (by rw [HR2.out, hx]; rfl))
            have HE := Lib.hid hE
            have HM6 := Lib.hid (HA5.out.md.trans hM)
            have HA6 := Lib.hid ((HA5.out.call hM).call0 ((Mod.refl (fun _ => False) v6).alloc (.cells #[.int .i64 jk, .string js, .slice ja jn jc, .int .i64 jo, .int .i64 jl, .string jm, .int .i64 jr, .string jq] 62)))
            clear hx hM hE HPT HR2 HA5
            have HB0 := Lib.hid (HA6).out.b0
            have c0 := cell_at (j := 0) HB0.out rfl
            have c1 := cell_at (j := 1) HB0.out rfl
            have c2 := cell_at (j := 2) HB0.out rfl
            have f0 : ((v6.alloc (.cells #[.int .i64 jk, .string js, .slice ja jn jc, .int .i64 jo, .int .i64 jl, .string jm, .int .i64 jr, .string jq] 62))).frozen? ⟨w.heap.size, 0, none⟩ = false := frozen_at HB0.out
            have f1 : ((v6.alloc (.cells #[.int .i64 jk, .string js, .slice ja jn jc, .int .i64 jo, .int .i64 jl, .string jm, .int .i64 jr, .string jq] 62))).frozen? ⟨w.heap.size, 1, none⟩ = false := frozen_at HB0.out
            have f2 : ((v6.alloc (.cells #[.int .i64 jk, .string js, .slice ja jn jc, .int .i64 jo, .int .i64 jl, .string jm, .int .i64 jr, .string jq] 62))).frozen? ⟨w.heap.size, 2, none⟩ = false := frozen_at HB0.out
            have d0 := cell_at (j := 0) (HA6).out.b1 rfl
            have d1 := cell_at (j := 1) (HA6).out.b1 rfl
            have d2 := cell_at (j := 2) (HA6).out.b1 rfl
            have n01 : ¬ g1 = w.heap.size := by have := (HA6).out.hg; omega
            have n10 : ¬ w.heap.size = g1 := by have := (HA6).out.hg; omega
            go_wp2_with fail
            obtain ⟨vz, hvz⟩ : ∃ vz, vz = (v6.alloc (.cells #[.int .i64 jk, .string js, .slice ja jn jc, .int .i64 jo, .int .i64 jl, .string jm, .int .i64 jr, .string jq] 62)) := ⟨_, rfl⟩
            have mZ0 : Mod (fun _ => False) v6 vz := by rw [hvz]; exact (Mod.refl _ v6).alloc _
            have mZ : Mod (Far w) v6 vz := mZ0.mono fun _ _ f => f.elim
            rw [← hvz] at HB0 ⊢
            clear hvz
            obtain ⟨w9, hw9⟩ : ∃ w9, w9 = (((vz.setCell ⟨w.heap.size, 0, none⟩ (.string p)).setCell ⟨w.heap.size, 1, none⟩ (.slice ha ts.length hc)).setCell ⟨w.heap.size, 2, none⟩ (.slice a xs.length c)) := ⟨_, rfl⟩
            obtain ⟨b9, m9⟩ := rule_put vz w.heap.size (.string p) (.slice ha ts.length hc) (.slice a xs.length c) HB0.out hw9
            have mF : Mod (Far w) vz w9 := m9.mono fun _ _ e => Nat.le_of_eq e.symm
            rw [← hw9]
            clear hw9
            have e0 := cell_at (j := 0) b9 rfl
            have e1 := cell_at (j := 1) b9 rfl
            have e2 := cell_at (j := 2) b9 rfl
            refine bodyPost_ret (v := .tuple #[.agg #[.string p, .slice ha ts.length hc, .slice a xs.length c], .bool false]) (by simp [results, Tryd.results54, go_sem, e0, e1, e2]) rfl ?_
            exact .inl ⟨x, HX.out, ⟨_, _, _, _, _, _, _, rfl⟩, HE.out.far H.out (mZ.trans mF), Mod.far HM6.out (mZ.trans mF)⟩
          have HR3 := Lib.hid (show bodyGoR R.S ag2 65 k2 [] = if (R.S.tok k6).kind = 6 then bodyGoR R.S ag2 n k6 (xs.map Prod.fst ++ [⟨lk, ⟨lp, lts⟩, lo, ⟨ll1, ll2⟩, ⟨lr1, lr2⟩⟩]) else .ok (xs.map Prod.fst ++ [⟨lk, ⟨lp, lts⟩, lo, ⟨ll1, ll2⟩, ⟨lr1, lr2⟩⟩], k6) by rw [HR2.out, hx]; rfl)
          have HTG := Lib.hid ((show TsG v6 v5.heap.size (.slice la lts.length lc) lts from ⟨_, _, rfl, hO, hlo⟩).mono (lo' := w.heap.size + 1) HZ5.out)
          have HA6 := Lib.hid (HA5.out.call hM)
          have HS6 := Lib.hid hS
          have m7 : Mod (fun _ => False) v6 ((v6.alloc (.cells #[.int .i64 lk, .string lp, .slice la lts.length lc, .int .i64 lo, .int .i64 ll1, .string ll2, .int .i64 lr1, .string lr2] 62)).alloc (.cells #[.int .i64 lk, .string lp, .slice la lts.length lc, .int .i64 lo, .int .i64 ll1, .string ll2, .int .i64 lr1, .string lr2] 62)) := ((Mod.refl _ v6).alloc _).alloc _
          have HM7 := Lib.hid m7
          have HO7 := Lib.hid (HA6.out.own.mod m7 (fun _ _ => id))
          have HB7 := Lib.hid (m7.at HA6.out.b1 id)
          have HFR := Lib.hid HA6.out.fr
          have d2 := cell_at (j := 2) HA6.out.b1 rfl
          have d2a := ((Mod.refl (fun _ => False) v6).alloc (.cells #[.int .i64 lk, .string lp, .slice la lts.length lc, .int .i64 lo, .int .i64 ll1, .string ll2, .int .i64 lr1, .string lr2] 62)).cell d2 id
          unfold lmV
          clear hx hM hS HPT HR2 HA5 hO hlo m7
          go_wp2_with (first
            | (at_builtin; refine wpL_append rfl (.tmp 65) (.tmp 67) 38 38 rfl tiL rfl HO7.out rfl (Src.ofRd tiL.ht 1 1 (Rd.news _ [_, _, _, _, _, _, _, _] 62) (by simp) (by simp [Value.oneCell'])) (by omega) (by unfold maxLen; omega) ?_; intro a3 c3 w9 hO9 hG9 _
               have hb9 := hG9.mod.at HB7.out (fun e => by have := HFR.out _ e; omega)
               have y1 := cell_at (j := 2) hb9 rfl
               have y1f : w9.frozen? ⟨g1, 2, none⟩ = false := frozen_at hb9
               have hT := HA6.out.step HS6.out (⟨lk, ⟨lp, lts⟩, lo, ⟨ll1, ll2⟩, ⟨lr1, lr2⟩⟩, .slice la lts.length lc) HTG.out rfl hO9 ⟨_, HM7.out, hG9⟩
               have HT := Lib.hid hT
               clear hO9 hG9 hb9 hT HO7 HB7 HM7 HA6 HS6 HTG d2 d2a)
            | fail)
          obtain ⟨w10, hw10⟩ : ∃ w10, w10 = w9.setCell ⟨g1, 2, none⟩ (.slice a3 (xs.length + 1) c3) := ⟨_, rfl⟩
          rw [← hw10] at HT
          rw [← hw10]
          clear hw10 y1 y1f
          have HA10 := Lib.hid HT.out.1; have HS10 := Lib.hid HT.out.2
          clear HT HFR
          have h6i := kindI_iff (S := R.S) (k := k6) (c := 6) (by omega)
          have hmap : (xs ++ [((⟨lk, ⟨lp, lts⟩, lo, ⟨ll1, ll2⟩, ⟨lr1, lr2⟩⟩ : Lm), Value.slice la lts.length lc)]).map Prod.fst = xs.map Prod.fst ++ [⟨lk, ⟨lp, lts⟩, lo, ⟨ll1, ll2⟩, ⟨lr1, lr2⟩⟩] := by simp
          by_cases hk6 : kindI R.S k6 = 6
          · have HL2 := Lib.hid ((HR3.out.trans (if_pos (h6i.2 hk6))).trans (by rw [← hmap]))
            clear h6i HR3 hmap
            go_roundg n
            case measure => omega
            case rel => exact ⟨k6, _, a3, c3, HA10, HS10, .inl ⟨by have := hnl.out; omega, by simp; have := hnl.out; omega, .inr hk6, HL2⟩⟩
          · have HL2 := Lib.hid ((HR3.out.trans (if_neg (fun e => hk6 (h6i.1 e)))).trans (by rw [← hmap]))
            clear h6i HR3 hmap
            go_roundg n
            case measure => omega
            case rel => exact ⟨k6, _, a3, c3, HA10, HS10, .inr ⟨hk6, fun _ => by simp, HL2⟩⟩
      · have HXF := Lib.hid (HXm.out _ HL.out)
        have HKD : Hid (∀ W, Mod (fun _ => False) wr W → Calls Tryd.prog 52 #[.pointer (some ⟨R.b, 0, none⟩)] W fun e w' => e = .returned (.int .i64 (kindI R.S k')) ∧ Mod (fun _ => False) wr w') := fun W m => (HS.out.mod0 m).kindC.mono fun e w' ⟨h1, h2⟩ => ⟨h1, m.trans h2⟩
        obtain ⟨kd, hkd⟩ : ∃ kd, kd = kindI R.S k' := ⟨_, rfl⟩
        rw [← hkd] at HKD hk6 hk8
        have hb6 : (kd == 6) = false := by simpa using hk6
        clear hkd HL
        by_cases h88 : kd = 8
        · subst h88
          have hne := hk8 rfl
          have hnz : (((xs.length : Nat) : Int) == 0) = false := by
            cases xs with
            | nil => exact absurd rfl hne
            | cons y ys => simp; omega
          clear hk6 hk8 hb6
          go_wp2_with fail
          refine (HKD.out _ (Mod.refl _ _)).mono ?_
          rintro e v2' ⟨rfl, hM⟩
          have HM := Lib.hid hM; clear hM
          have q2 := cell_at (j := 2) (HA.out.call0 HM.out).b1 rfl
          go_wp2_with fail
          refine (HKD.out _ HM.out).mono ?_
          rintro e v3 ⟨rfl, hM⟩
          have HA3 := Lib.hid (HA.out.call0 hM)
          have HS3 := Lib.hid (HS.out.mod0 hM)
          clear hM HM HKD HA HS q2
          go_wp2_with fail
          have HT5 := Lib.hid (take1 R k' ag2 7 v3 (HS3).out (by omega) (v3).heap.size 7)
          go_wp2_with fail
          refine HT5.out.mono ?_
          rintro e wt (⟨x, hx, rfl, hE, hM⟩ | ⟨⟨s5, k5⟩, hx, ⟨rfl, hS⟩, hM⟩)
          · have HX := Lib.hid (show ruleR R.S k = .error x by rw [HXF.out, hx]; rfl)
            have HAt := Lib.hid ((HA3).out.call hM)
            have HE := Lib.hid hE
            clear hx hM hE HT5
            have HB0 := Lib.hid (HAt).out.b0
            have c0 := cell_at (j := 0) HB0.out rfl
            have c1 := cell_at (j := 1) HB0.out rfl
            have c2 := cell_at (j := 2) HB0.out rfl
            have f0 : (wt).frozen? ⟨w.heap.size, 0, none⟩ = false := frozen_at HB0.out
            have f1 : (wt).frozen? ⟨w.heap.size, 1, none⟩ = false := frozen_at HB0.out
            have f2 : (wt).frozen? ⟨w.heap.size, 2, none⟩ = false := frozen_at HB0.out
            have d0 := cell_at (j := 0) (HAt).out.b1 rfl
            have d1 := cell_at (j := 1) (HAt).out.b1 rfl
            have d2 := cell_at (j := 2) (HAt).out.b1 rfl
            have n01 : ¬ g1 = w.heap.size := by have := (HAt).out.hg; omega
            have n10 : ¬ w.heap.size = g1 := by have := (HAt).out.hg; omega
            go_wp2_with fail
            obtain ⟨vz, hvz⟩ : ∃ vz, vz = wt := ⟨_, rfl⟩
            have mZ0 : Mod (fun _ => False) wt vz := by rw [hvz]; exact Mod.refl _ wt
            have mZ : Mod (Far w) wt vz := mZ0.mono fun _ _ f => f.elim
            rw [← hvz] at HB0 ⊢
            clear hvz
            obtain ⟨w9, hw9⟩ : ∃ w9, w9 = (((vz.setCell ⟨w.heap.size, 0, none⟩ (.string p)).setCell ⟨w.heap.size, 1, none⟩ (.slice ha ts.length hc)).setCell ⟨w.heap.size, 2, none⟩ (.slice a xs.length c)) := ⟨_, rfl⟩
            obtain ⟨b9, m9⟩ := rule_put vz w.heap.size (.string p) (.slice ha ts.length hc) (.slice a xs.length c) HB0.out hw9
            have mF : Mod (Far w) vz w9 := m9.mono fun _ _ e => Nat.le_of_eq e.symm
            rw [← hw9]
            clear hw9
            have e0 := cell_at (j := 0) b9 rfl
            have e1 := cell_at (j := 1) b9 rfl
            have e2 := cell_at (j := 2) b9 rfl
            refine bodyPost_ret (v := .tuple #[.agg #[.string p, .slice ha ts.length hc, .slice a xs.length c], .bool false]) (by simp [results, Tryd.results54, go_sem, e0, e1, e2]) rfl ?_
            exact .inl ⟨x, HX.out, ⟨_, _, _, _, _, _, _, rfl⟩, HE.out.far H.out (mZ.trans mF), Mod.far HAt.out.md (mZ.trans mF)⟩
          · have HX := Lib.hid (show ruleR R.S k = .ok (⟨⟨p, ts⟩, xs.map Prod.fst⟩, k5, ag2) by rw [HXF.out, hx]; rfl)
            have HAt := Lib.hid ((HA3).out.call hM)
            have HS := Lib.hid hS
            clear hx hM hS HT5
            have HB0 := Lib.hid (HAt).out.b0
            have c0 := cell_at (j := 0) HB0.out rfl
            have c1 := cell_at (j := 1) HB0.out rfl
            have c2 := cell_at (j := 2) HB0.out rfl
            have f0 : (wt).frozen? ⟨w.heap.size, 0, none⟩ = false := frozen_at HB0.out
            have f1 : (wt).frozen? ⟨w.heap.size, 1, none⟩ = false := frozen_at HB0.out
            have f2 : (wt).frozen? ⟨w.heap.size, 2, none⟩ = false := frozen_at HB0.out
            have d0 := cell_at (j := 0) (HAt).out.b1 rfl
            have d1 := cell_at (j := 1) (HAt).out.b1 rfl
            have d2 := cell_at (j := 2) (HAt).out.b1 rfl
            have n01 : ¬ g1 = w.heap.size := by have := (HAt).out.hg; omega
            have n10 : ¬ w.heap.size = g1 := by have := (HAt).out.hg; omega
            go_wp2_with fail
            obtain ⟨vz, hvz⟩ : ∃ vz, vz = wt := ⟨_, rfl⟩
            have mZ0 : Mod (fun _ => False) wt vz := by rw [hvz]; exact Mod.refl _ wt
            have mZ : Mod (Far w) wt vz := mZ0.mono fun _ _ f => f.elim
            rw [← hvz] at HB0 ⊢
            clear hvz
            obtain ⟨w9, hw9⟩ : ∃ w9, w9 = (((vz.setCell ⟨w.heap.size, 0, none⟩ (.string p)).setCell ⟨w.heap.size, 1, none⟩ (.slice ha ts.length hc)).setCell ⟨w.heap.size, 2, none⟩ (.slice a xs.length c)) := ⟨_, rfl⟩
            obtain ⟨b9, m9⟩ := rule_put vz w.heap.size (.string p) (.slice ha ts.length hc) (.slice a xs.length c) HB0.out hw9
            have mF : Mod (Far w) vz w9 := m9.mono fun _ _ e => Nat.le_of_eq e.symm
            rw [← hw9]
            clear hw9
            have e0 := cell_at (j := 0) b9 rfl
            have e1 := cell_at (j := 1) b9 rfl
            have e2 := cell_at (j := 2) b9 rfl
            refine bodyPost_ret (v := .tuple #[.agg #[.string p, .slice ha ts.length hc, .slice a xs.length c], .bool true]) (by simp [results, Tryd.results54, go_sem, e0, e1, e2]) rfl ?_
            have hA9 := (HAt.out.call0 mZ0)
            have hfr := HAt.out.fr
            have hy := HB0.out
            have hTS : ∀ v us, TsG vz (w.heap.size + 1) v us → TsG w9 w.heap.size v us := fun v us h => (h.mod (m9 : Mod (fun b => b = w.heap.size) vz w9) (fun b hb e => by omega)).mono (by omega)
            refine .inr ⟨_, HX.out, ⟨_, _, rfl, hTS _ _ hA9.hd, ⟨_, _, xs, by rw [List.length_map], rfl, ?_, fun x hx => hTS _ _ (hA9.ts x hx), fun b hb => by have := hfr b hb; omega⟩, H.out.far HS.out (mZ.trans mF)⟩, Mod.far HAt.out.md (mZ.trans mF)⟩
            rw [List.length_map]
            exact hA9.own.mod m9 (fun b hb e => by have := hfr b hb; omega)
        · have hb8 : (kd == 8) = false := by simpa using h88
          clear hk6 hk8 h88
          go_wp2_with fail
          refine (HKD.out _ (Mod.refl _ _)).mono ?_
          rintro e v2' ⟨rfl, hM⟩
          have HM := Lib.hid hM; clear hM
          go_wp2_with fail
          refine (HKD.out _ HM.out).mono ?_
          rintro e v3 ⟨rfl, hM⟩
          have HA3 := Lib.hid (HA.out.call0 hM)
          have HS3 := Lib.hid (HS.out.mod0 hM)
          clear hM HM HKD HA HS
          go_wp2_with fail
          have HT5 := Lib.hid (take1 R k' ag2 7 v3 (HS3).out (by omega) (v3).heap.size 7)
          go_wp2_with fail
          refine HT5.out.mono ?_
          rintro e wt (⟨x, hx, rfl, hE, hM⟩ | ⟨⟨s5, k5⟩, hx, ⟨rfl, hS⟩, hM⟩)
          · have HX := Lib.hid (show ruleR R.S k = .error x by rw [HXF.out, hx]; rfl)
            have HAt := Lib.hid ((HA3).out.call hM)
            have HE := Lib.hid hE
            clear hx hM hE HT5
            have HB0 := Lib.hid (HAt).out.b0
            have c0 := cell_at (j := 0) HB0.out rfl
            have c1 := cell_at (j := 1) HB0.out rfl
            have c2 := cell_at (j := 2) HB0.out rfl
            have f0 : (wt).frozen? ⟨w.heap.size, 0, none⟩ = false := frozen_at HB0.out
            have f1 : (wt).frozen? ⟨w.heap.size, 1, none⟩ = false := frozen_at HB0.out
            have f2 : (wt).frozen? ⟨w.heap.size, 2, none⟩ = false := frozen_at HB0.out
            have d0 := cell_at (j := 0) (HAt).out.b1 rfl
            have d1 := cell_at (j := 1) (HAt).out.b1 rfl
            have d2 := cell_at (j := 2) (HAt).out.b1 rfl
            have n01 : ¬ g1 = w.heap.size := by have := (HAt).out.hg; omega
            have n10 : ¬ w.heap.size = g1 := by have := (HAt).out.hg; omega
            go_wp2_with fail
            obtain ⟨vz, hvz⟩ : ∃ vz, vz = wt := ⟨_, rfl⟩
            have mZ0 : Mod (fun _ => False) wt vz := by rw [hvz]; exact Mod.refl _ wt
            have mZ : Mod (Far w) wt vz := mZ0.mono fun _ _ f => f.elim
            rw [← hvz] at HB0 ⊢
            clear hvz
            obtain ⟨w9, hw9⟩ : ∃ w9, w9 = (((vz.setCell ⟨w.heap.size, 0, none⟩ (.string p)).setCell ⟨w.heap.size, 1, none⟩ (.slice ha ts.length hc)).setCell ⟨w.heap.size, 2, none⟩ (.slice a xs.length c)) := ⟨_, rfl⟩
            obtain ⟨b9, m9⟩ := rule_put vz w.heap.size (.string p) (.slice ha ts.length hc) (.slice a xs.length c) HB0.out hw9
            have mF : Mod (Far w) vz w9 := m9.mono fun _ _ e => Nat.le_of_eq e.symm
            rw [← hw9]
            clear hw9
            have e0 := cell_at (j := 0) b9 rfl
            have e1 := cell_at (j := 1) b9 rfl
            have e2 := cell_at (j := 2) b9 rfl
            refine bodyPost_ret (v := .tuple #[.agg #[.string p, .slice ha ts.length hc, .slice a xs.length c], .bool false]) (by simp [results, Tryd.results54, go_sem, e0, e1, e2]) rfl ?_
            exact .inl ⟨x, HX.out, ⟨_, _, _, _, _, _, _, rfl⟩, HE.out.far H.out (mZ.trans mF), Mod.far HAt.out.md (mZ.trans mF)⟩
          · have HX := Lib.hid (show ruleR R.S k = .ok (⟨⟨p, ts⟩, xs.map Prod.fst⟩, k5, ag2) by rw [HXF.out, hx]; rfl)
            have HAt := Lib.hid ((HA3).out.call hM)
            have HS := Lib.hid hS
            clear hx hM hS HT5
            have HB0 := Lib.hid (HAt).out.b0
            have c0 := cell_at (j := 0) HB0.out rfl
            have c1 := cell_at (j := 1) HB0.out rfl
            have c2 := cell_at (j := 2) HB0.out rfl
            have f0 : (wt).frozen? ⟨w.heap.size, 0, none⟩ = false := frozen_at HB0.out
            have f1 : (wt).frozen? ⟨w.heap.size, 1, none⟩ = false := frozen_at HB0.out
            have f2 : (wt).frozen? ⟨w.heap.size, 2, none⟩ = false := frozen_at HB0.out
            have d0 := cell_at (j := 0) (HAt).out.b1 rfl
            have d1 := cell_at (j := 1) (HAt).out.b1 rfl
            have d2 := cell_at (j := 2) (HAt).out.b1 rfl
            have n01 : ¬ g1 = w.heap.size := by have := (HAt).out.hg; omega
            have n10 : ¬ w.heap.size = g1 := by have := (HAt).out.hg; omega
            go_wp2_with fail
            obtain ⟨vz, hvz⟩ : ∃ vz, vz = wt := ⟨_, rfl⟩
            have mZ0 : Mod (fun _ => False) wt vz := by rw [hvz]; exact Mod.refl _ wt
            have mZ : Mod (Far w) wt vz := mZ0.mono fun _ _ f => f.elim
            rw [← hvz] at HB0 ⊢
            clear hvz
            obtain ⟨w9, hw9⟩ : ∃ w9, w9 = (((vz.setCell ⟨w.heap.size, 0, none⟩ (.string p)).setCell ⟨w.heap.size, 1, none⟩ (.slice ha ts.length hc)).setCell ⟨w.heap.size, 2, none⟩ (.slice a xs.length c)) := ⟨_, rfl⟩
            obtain ⟨b9, m9⟩ := rule_put vz w.heap.size (.string p) (.slice ha ts.length hc) (.slice a xs.length c) HB0.out hw9
            have mF : Mod (Far w) vz w9 := m9.mono fun _ _ e => Nat.le_of_eq e.symm
            rw [← hw9]
            clear hw9
            have e0 := cell_at (j := 0) b9 rfl
            have e1 := cell_at (j := 1) b9 rfl
            have e2 := cell_at (j := 2) b9 rfl
            refine bodyPost_ret (v := .tuple #[.agg #[.string p, .slice ha ts.length hc, .slice a xs.length c], .bool true]) (by simp [results, Tryd.results54, go_sem, e0, e1, e2]) rfl ?_
            have hA9 := (HAt.out.call0 mZ0)
            have hfr := HAt.out.fr
            have hy := HB0.out
            have hTS : ∀ v us, TsG vz (w.heap.size + 1) v us → TsG w9 w.heap.size v us := fun v us h => (h.mod (m9 : Mod (fun b => b = w.heap.size) vz w9) (fun b hb e => by omega)).mono (by omega)
            refine .inr ⟨_, HX.out, ⟨_, _, rfl, hTS _ _ hA9.hd, ⟨_, _, xs, by rw [List.length_map], rfl, ?_, fun x hx => hTS _ _ (hA9.ts x hx), fun b hb => by have := hfr b hb; omega⟩, H.out.far HS.out (mZ.trans mF)⟩, Mod.far HAt.out.md (mZ.trans mF)⟩
            rw [List.length_map]
            exact hA9.own.mod m9 (fun b hb e => by have := hfr b hb; omega)
  · have HXF := Lib.hid (show ruleR R.S k = (wordP R.S k2 [7]).bind fun z => .ok (⟨⟨p, ts⟩, ([] : List (Lm × Value)).map Prod.fst⟩, z.2, ag2) by
      rw [HX0.out]; unfold bodyR; rw [if_neg (fun e => h8 ((kindI_iff (c := 8) (by omega)).1 e))]; rfl)
    obtain ⟨kd, hkd⟩ : ∃ kd, kd = kindI R.S k2 := ⟨_, rfl⟩
    rw [← hkd] at HKD h8
    have hkb : (kd == 8) = false := by simpa using h8
    clear hkd h8 HX0
    go_wp2_with fail
    refine HKD.out.mono ?_
    rintro e v3 ⟨rfl, hM⟩
    obtain ⟨g1, hg1⟩ : ∃ g1, g1 = v2.heap.size + 1 := ⟨_, rfl⟩
    rw [← hg1] at HA ⊢
    have HA3 := Lib.hid (HA.out.call0 hM)
    have HS3 := Lib.hid (HS.out.mod0 hM)
    obtain ⟨a, ha'⟩ : ∃ a : Option Addr, a = none := ⟨_, rfl⟩
    obtain ⟨c, hc'⟩ : ∃ c : Nat, c = 0 := ⟨_, rfl⟩
    obtain ⟨xs, hxs⟩ : ∃ xs : List (Lm × Value), xs = [] := ⟨_, rfl⟩
    rw [← ha', ← hc', ← hxs] at HA3
    rw [← hxs] at HXF
    clear hM HKD HA HS hg1 ha' hc' hxs
    go_wp2_with fail
    have HT5 := Lib.hid (take1 R k2 ag2 7 v3 (HS3).out (by omega) (v3).heap.size 7)
    go_wp2_with fail
    refine HT5.out.mono ?_
    rintro e wt (⟨x, hx, rfl, hE, hM⟩ | ⟨⟨s5, k5⟩, hx, ⟨rfl, hS⟩, hM⟩)
    · have HX := Lib.hid (show ruleR R.S k = .error x by rw [HXF.out, hx]; rfl)
      have HAt := Lib.hid ((HA3).out.call hM)
      have HE := Lib.hid hE
      clear hx hM hE HT5
      have HB0 := Lib.hid (HAt).out.b0
      have c0 := cell_at (j := 0) HB0.out rfl
      have c1 := cell_at (j := 1) HB0.out rfl
      have c2 := cell_at (j := 2) HB0.out rfl
      have f0 : (wt).frozen? ⟨w.heap.size, 0, none⟩ = false := frozen_at HB0.out
      have f1 : (wt).frozen? ⟨w.heap.size, 1, none⟩ = false := frozen_at HB0.out
      have f2 : (wt).frozen? ⟨w.heap.size, 2, none⟩ = false := frozen_at HB0.out
      have d0 := cell_at (j := 0) (HAt).out.b1 rfl
      have d1 := cell_at (j := 1) (HAt).out.b1 rfl
      have d2 := cell_at (j := 2) (HAt).out.b1 rfl
      have n01 : ¬ g1 = w.heap.size := by have := (HAt).out.hg; omega
      have n10 : ¬ w.heap.size = g1 := by have := (HAt).out.hg; omega
      go_wp2_with fail
      obtain ⟨vz, hvz⟩ : ∃ vz, vz = wt := ⟨_, rfl⟩
      have mZ0 : Mod (fun _ => False) wt vz := by rw [hvz]; exact Mod.refl _ wt
      have mZ : Mod (Far w) wt vz := mZ0.mono fun _ _ f => f.elim
      rw [← hvz] at HB0 ⊢
      clear hvz
      obtain ⟨w9, hw9⟩ : ∃ w9, w9 = (((vz.setCell ⟨w.heap.size, 0, none⟩ (.string p)).setCell ⟨w.heap.size, 1, none⟩ (.slice ha ts.length hc)).setCell ⟨w.heap.size, 2, none⟩ (.slice a xs.length c)) := ⟨_, rfl⟩
      obtain ⟨b9, m9⟩ := rule_put vz w.heap.size (.string p) (.slice ha ts.length hc) (.slice a xs.length c) HB0.out hw9
      have mF : Mod (Far w) vz w9 := m9.mono fun _ _ e => Nat.le_of_eq e.symm
      rw [← hw9]
      clear hw9
      have e0 := cell_at (j := 0) b9 rfl
      have e1 := cell_at (j := 1) b9 rfl
      have e2 := cell_at (j := 2) b9 rfl
      refine bodyPost_ret (v := .tuple #[.agg #[.string p, .slice ha ts.length hc, .slice a xs.length c], .bool false]) (by simp [results, Tryd.results54, go_sem, e0, e1, e2]) rfl ?_
      exact .inl ⟨x, HX.out, ⟨_, _, _, _, _, _, _, rfl⟩, HE.out.far H.out (mZ.trans mF), Mod.far HAt.out.md (mZ.trans mF)⟩
    · have HX := Lib.hid (show ruleR R.S k = .ok (⟨⟨p, ts⟩, xs.map Prod.fst⟩, k5, ag2) by rw [HXF.out, hx]; rfl)
      have HAt := Lib.hid ((HA3).out.call hM)
      have HS := Lib.hid hS
      clear hx hM hS HT5
      have HB0 := Lib.hid (HAt).out.b0
      have c0 := cell_at (j := 0) HB0.out rfl
      have c1 := cell_at (j := 1) HB0.out rfl
      have c2 := cell_at (j := 2) HB0.out rfl
      have f0 : (wt).frozen? ⟨w.heap.size, 0, none⟩ = false := frozen_at HB0.out
      have f1 : (wt).frozen? ⟨w.heap.size, 1, none⟩ = false := frozen_at HB0.out
      have f2 : (wt).frozen? ⟨w.heap.size, 2, none⟩ = false := frozen_at HB0.out
      have d0 := cell_at (j := 0) (HAt).out.b1 rfl
      have d1 := cell_at (j := 1) (HAt).out.b1 rfl
      have d2 := cell_at (j := 2) (HAt).out.b1 rfl
      have n01 : ¬ g1 = w.heap.size := by have := (HAt).out.hg; omega
      have n10 : ¬ w.heap.size = g1 := by have := (HAt).out.hg; omega
      go_wp2_with fail
      obtain ⟨vz, hvz⟩ : ∃ vz, vz = wt := ⟨_, rfl⟩
      have mZ0 : Mod (fun _ => False) wt vz := by rw [hvz]; exact Mod.refl _ wt
      have mZ : Mod (Far w) wt vz := mZ0.mono fun _ _ f => f.elim
      rw [← hvz] at HB0 ⊢
      clear hvz
      obtain ⟨w9, hw9⟩ : ∃ w9, w9 = (((vz.setCell ⟨w.heap.size, 0, none⟩ (.string p)).setCell ⟨w.heap.size, 1, none⟩ (.slice ha ts.length hc)).setCell ⟨w.heap.size, 2, none⟩ (.slice a xs.length c)) := ⟨_, rfl⟩
      obtain ⟨b9, m9⟩ := rule_put vz w.heap.size (.string p) (.slice ha ts.length hc) (.slice a xs.length c) HB0.out hw9
      have mF : Mod (Far w) vz w9 := m9.mono fun _ _ e => Nat.le_of_eq e.symm
      rw [← hw9]
      clear hw9
      have e0 := cell_at (j := 0) b9 rfl
      have e1 := cell_at (j := 1) b9 rfl
      have e2 := cell_at (j := 2) b9 rfl
      refine bodyPost_ret (v := .tuple #[.agg #[.string p, .slice ha ts.length hc, .slice a xs.length c], .bool true]) (by simp [results, Tryd.results54, go_sem, e0, e1, e2]) rfl ?_
      have hA9 := (HAt.out.call0 mZ0)
      have hfr := HAt.out.fr
      have hy := HB0.out
      have hTS : ∀ v us, TsG vz (w.heap.size + 1) v us → TsG w9 w.heap.size v us := fun v us h => (h.mod (m9 : Mod (fun b => b = w.heap.size) vz w9) (fun b hb e => by omega)).mono (by omega)
      refine .inr ⟨_, HX.out, ⟨_, _, rfl, hTS _ _ hA9.hd, ⟨_, _, xs, by rw [List.length_map], rfl, ?_, fun x hx => hTS _ _ (hA9.ts x hx), fun b hb => by have := hfr b hb; omega⟩, H.out.far HS.out (mZ.trans mF)⟩, Mod.far HAt.out.md (mZ.trans mF)⟩
      rw [List.length_map]
      exact hA9.own.mod m9 (fun b hb e => by have := hfr b hb; omega)
theorem refRule_any (R : REnv) (k : Nat) (agg : Bool) (w : World) (h : RSt w R k agg) :
    Calls Tryd.prog 54 #[.pointer (some ⟨R.b, 0, none⟩)] w (QP R w (ruleP R.S k) noRm (ResRg R w.heap.size)) := by
  rw [← rule_eq h.bk.ok.wf]
  exact refRuleR_any R k agg w h
end Go.Proofs.YtgplagdehfhffaaDoor
