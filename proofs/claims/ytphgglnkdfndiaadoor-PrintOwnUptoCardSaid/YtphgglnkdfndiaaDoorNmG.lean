/-
  The map of names that a renamer keeps; strconv.Itoa.
-/
import Derived.Test.YtphgglnkdfndiaaDoorLayI
import Derived.Test.YtphgglnkdfndiaaDoorNormG
import Derived.Maps.StringElems
import Derived.Maps.Views
import Derived.Test.YtphgglnkdfndiaaDoorOrd
import Derived.Test.YtphgglnkdfndiaaDoorOwG
import Derived.Test.YtphgglnkdfndiaaDoorFamG
import Derived.Test.YtphgglnkdfndiaaDoorRefNorm
import Derived.Test.YtphgglnkdfndiaaDoorMayG
namespace Go.Proofs.YtphgglnkdfndiaaDoor
open Go Go.RowKit Go.Mine Go.Maps
set_option linter.unusedVariables false
set_option maxRecDepth 100000

/-- the library's table of powers -/
def Pow (w : World) : Prop := Lib.TabIs Tryd.prog w "internal/strconv.uint64pow10" .u64 Lib.pow10Tab
theorem Pow.mod {S : Nat → Prop} {w w' : World} (h : Pow w) (m : Mod S w w') (hs : ¬ S 0) : Pow w' := by
  unfold Pow Lib.TabIs World.var? at *
  have hg : Tryd.prog.globalNamed "internal/strconv.uint64pow10" = some 0 := by kernel_rfl
  rw [hg] at h ⊢
  simp only [Option.bind_some] at h ⊢
  have hlt : 0 < w.heap.size := by
    rcases Nat.lt_or_ge 0 w.heap.size with h3 | h3
    · exact h3
    · rw [Array.getElem?_eq_none h3] at h; cases h
  rw [m.block 0 hlt hs]; exact h
theorem Pow.mod0 {w w' : World} (h : Pow w) (m : Mod (fun _ => False) w w') : Pow w' := h.mod m id
theorem Pow.lt {w : World} (h : Pow w) : 0 < w.heap.size := by
  unfold Pow Lib.TabIs World.var? at h
  have hg : Tryd.prog.globalNamed "internal/strconv.uint64pow10" = some 0 := by kernel_rfl
  rw [hg] at h
  simp only [Option.bind_some] at h
  rcases Nat.lt_or_ge 0 w.heap.size with h3 | h3
  · exact h3
  · rw [Array.getElem?_eq_none h3] at h; cases h
theorem itoa_any (n : Nat) (w : World) (hn : n < 2 ^ 40) (hp : Pow w) :
    Calls Tryd.prog 48 #[.int .i64 n] w fun e w' => e = .returned (.string ⟨(Lib.decDigits n).toArray⟩) ∧ Mod (fun _ => False) w w' := by
  have h := Any.strconv_Itoa lays171 (n : Int) (by omega) (by omega) w hp
  have e : Lib.itoa (n : Int) = Lib.decDigits n := by
    unfold Lib.itoa
    rw [if_neg (by omega)]
    rfl
  rw [e] at h
  refine h.mono ?_
  rintro e w' ⟨h1, k, os, rfl⟩
  exact ⟨h1, rfl, rfl, rfl, by simp [Sort.grow], fun i hi _ => by
    show (w.heap ++ os)[i]? = _
    rw [Array.getElem?_append_left hi]⟩

theorem lawS : Keyed Tryd.prog 9 := string_keyed Tryd.underlying9
/-- the new name of a text, as bytes: none yet -/
def nmV (ns : List ByteArray) (x : ByteArray) : List UInt8 := if place x ns < ns.length then (vN (place x ns + 1)).data.toList else []
/-- the map in block B holds the names so far -/
def MapIs (w : World) (B : Nat) (ns : List ByteArray) : Prop :=
  ∃ D : DataW Unit, w.ownsMap Tryd.prog 9 (plainElem Tryd.prog 9) B ns.length D ∧ (∀ x : ByteArray, D.atKey (.string x.data.toList) (.lit (.string [])) = .lit (.string (nmV ns x))) ∧ size D = ns.length ∧ ∀ x : ByteArray, has D (.string x.data.toList) = decide (place x ns < ns.length)
theorem MapIs.made (w : World) : MapIs (w.alloc (.map #[] 0)) w.heap.size [] :=
  ⟨.map [], World.ownsMap_made _ _ _ _, fun x => by
    unfold nmV
    rw [if_neg (by simp [place])]
    exact WideAt.atKey_none _ (fun p h => by cases h), rfl, fun x => by simp [has, place]⟩
theorem MapIs.mod {S : Nat → Prop} {w w' : World} {B : Nat} {ns : List ByteArray} (h : MapIs w B ns) (m : Mod S w w') (hs : ¬ S B) : MapIs w' B ns := by
  obtain ⟨D, ho, h2, h3, h4⟩ := h
  refine ⟨D, ?_, h2, h3, h4⟩
  obtain ⟨es, clock, hb, rest⟩ := ho
  exact ⟨es, clock, m.at hb hs, rest⟩
theorem MapIs.lt {w : World} {B : Nat} {ns : List ByteArray} (h : MapIs w B ns) : B < w.heap.size := by
  obtain ⟨D, ho, _⟩ := h
  exact ho.lt
theorem MapIs.len {w : World} {B : Nat} {ns : List ByteArray} (h : MapIs w B ns) (ty : TypeId) : (Builtin.len_ #[68] ty #[.map (some B)]).run Tryd.prog w = .ok (.int .i64 ns.length) w := by
  obtain ⟨D, ho, _, h3, _⟩ := h
  rw [← h3]
  exact ho.len (k := 9) (e := 9) (by kernel_rfl) ty
theorem MapIs.look {w : World} {B : Nat} {ns : List ByteArray} (h : MapIs w B ns) (x : ByteArray) (hx : x.size ≤ maxLen) : (Instr.lookup 68 (.map (some B)) (.string x) false).run Tryd.prog w = .ok (.string ⟨(nmV ns x).toArray⟩) w := by
  obtain ⟨D, ho, h2, _, _⟩ := h
  have hz : (zeroValue 9).run Tryd.prog w = .ok (.string ByteArray.empty) w := by kernel_rfl
  obtain ⟨v, ps, hrun, hv⟩ := ho.lookup (e := 9) lawS (t := 68) (by kernel_rfl) hz (plainElem_string Tryd.underlying9 (by show 0 ≤ maxLen; exact Nat.zero_le _)) (WideMaps.keyOf_string_mk Tryd.underlying9 hx)
  obtain ⟨s, rfl, hc, _⟩ := plainElem_string_inv Tryd.underlying9 hv
  have e0 : ByteArray.empty.data.toList = [] := rfl
  rw [e0, h2 x] at hc
  simp only [Prod.mk.injEq, DataW.lit.injEq, Lit.string.injEq] at hc
  rw [hrun]
  congr 2
  apply ByteArray.ext
  apply Array.ext'
  simp [hc.1]
theorem MapIs.put {w : World} {B : Nat} {ns : List ByteArray} (h : MapIs w B ns) (x : ByteArray) (hx : x.size ≤ maxLen) (hn : ns.length < maxLen) (hnew : ¬ place x ns < ns.length) (hv : (vN (ns.length + 1)).size ≤ maxLen) :
    ∃ w', (Instr.mapUpdate 68 (.map (some B)) (.string x) (.string (vN (ns.length + 1)))).run Tryd.prog w = .ok () w' ∧ MapIs w' B (ns ++ [x]) ∧ Mod (fun b => b = B) w w' := by
  obtain ⟨D, ho, h2, h3, h4⟩ := h
  obtain ⟨w', hrun, ho', hg⟩ := ho.update (e := 9) lawS (t := 68) (by kernel_rfl) hn (WideMaps.keyOf_string_mk Tryd.underlying9 hx) (plainElem_string Tryd.underlying9 hv)
  have hpl : place x ns = ns.length := by
    by_cases hm : x ∈ ns
    · exact absurd (place_lt hm) hnew
    · exact place_out hm
  have hxn : x ∉ ns := fun hm => hnew (place_lt hm)
  have hkey : WideAt.IsKeyLit (.string x.data.toList) := lawS.key (WideMaps.keyOf_string_mk Tryd.underlying9 hx)
  have hinj : ∀ y : ByteArray, y ≠ x → (Lit.string y.data.toList) ≠ .string x.data.toList := fun y hne e => hne (by
    simp only [Lit.string.injEq] at e
    exact ByteArray.ext (Array.ext' e))
  have hplace : ∀ y, y ≠ x → (place y (ns ++ [x]) < (ns ++ [x]).length ↔ place y ns < ns.length) ∧ (place y ns < ns.length → place y (ns ++ [x]) = place y ns) := fun y hne => by
    by_cases hm : y ∈ ns
    · have h1 := place_lt hm
      rw [place_app hm]
      exact ⟨by simp; omega, fun _ => rfl⟩
    · have h1 : y ∉ ns ++ [x] := by simp [hm, hne]
      rw [place_out h1, place_out hm]
      exact ⟨by simp, fun h => by omega⟩
  refine ⟨w', hrun, ⟨_, by rw [List.length_append]; exact ho', fun y => ?_, ?_, fun y => ?_⟩, ⟨hg.os, hg.tape, hg.output, hg.size, fun k hk hs => hg.block k hk (fun e => hs (by cases e; rfl))⟩⟩
  · by_cases hy : y = x
    · subst hy
      rw [atKey_put_same ho.isMap hkey]
      unfold nmV
      rw [place_new hxn, if_pos (by simp)]
    · rw [atKey_put_other (hinj y hy), h2 y]
      unfold nmV
      by_cases hl : place y ns < ns.length
      · rw [if_pos hl, if_pos ((hplace y hy).1.2 hl), (hplace y hy).2 hl]
      · rw [if_neg hl, if_neg (fun h => hl ((hplace y hy).1.1 h))]
  · rw [size_put (ho.tidy lawS), h4 x, decide_eq_false hnew]
    simp [h3]
  · by_cases hy : y = x
    · subst hy
      rw [has_put_same ho.isMap hkey, place_new hxn]
      simp
    · rw [has_put_other (hinj y hy), h4 y]
      rw [decide_eq_decide]
      exact (hplace y hy).1.symm
end Go.Proofs.YtphgglnkdfndiaaDoor
/-
  print.renamer.term walked.
-/
namespace Go.Proofs.YtphgglnkdfndiaaDoor
open Go Go.RowKit Go.Mine
set_option linter.unusedVariables false
set_option maxHeartbeats 8000000
set_option maxRecDepth 100000

theorem nmV_old {ns : List ByteArray} {x : ByteArray} (h : place x ns < ns.length) : (⟨(nmV ns x).toArray⟩ : ByteArray) = vN (place x ns + 1) := by
  unfold nmV
  rw [if_pos h]
theorem nmV_new {ns : List ByteArray} {x : ByteArray} (h : ¬ place x ns < ns.length) : (⟨(nmV ns x).toArray⟩ : ByteArray) = ⟨#[]⟩ := by
  unfold nmV
  rw [if_neg h]
theorem vN_ne (n : Nat) : (vN n).toList.isEmpty = false := by
  rw [ByteArray.toList_eq]
  rfl
theorem vN_size (n : Nat) : (vN n).size ≤ n + 2 := by
  have := decDigits_le n
  show (86 :: Lib.decDigits n).length ≤ _
  simp
  omega
/-- the last stores: a new text, and what is answered -/
theorem put3 {w3 : World} {p : Nat} {ty : TypeId} {k : Int} {V : ByteArray} {x y : Value} (hq : w3.heap[p + 1]? = some (.cells #[x, y] ty (0, 0))) :
    Mod (fun k => k = p ∨ k = p + 1) w3 (((w3.setCell ⟨p, 1, none⟩ (.string V)).setCell ⟨p + 1, 0, none⟩ (.int .i64 k)).setCell ⟨p + 1, 1, none⟩ (.string V)) ∧
    (((w3.setCell ⟨p, 1, none⟩ (.string V)).setCell ⟨p + 1, 0, none⟩ (.int .i64 k)).setCell ⟨p + 1, 1, none⟩ (.string V)).cell? ⟨p + 1, 0, none⟩ = some (.int .i64 k) ∧
    (((w3.setCell ⟨p, 1, none⟩ (.string V)).setCell ⟨p + 1, 0, none⟩ (.int .i64 k)).setCell ⟨p + 1, 1, none⟩ (.string V)).cell? ⟨p + 1, 1, none⟩ = some (.string V) := by
  have hb2 := heap_setCell_at (j := 1) (.string V) (heap_setCell_at (j := 0) (.int .i64 k) (((Mod.refl (fun k => k = p) w3).setCell (p := ⟨p, 1, none⟩) (fun _ => rfl) (.string V)).at hq (by omega)))
  exact ⟨(((Mod.refl (fun k => k = p ∨ k = p + 1) w3).setCell (p := ⟨p, 1, none⟩) (fun _ => .inl rfl) _).setCell (p := ⟨p + 1, 0, none⟩) (fun _ => .inr rfl) _).setCell (p := ⟨p + 1, 1, none⟩) (fun _ => .inr rfl) _,
    cell_at (j := 0) (u := .int .i64 k) hb2 rfl, cell_at (j := 1) (u := .string V) hb2 rfl⟩
theorem MapIs.drew {w : World} {B : Nat} {ns : List ByteArray} (h : MapIs w B ns) : MapIs w.drew B ns := h.mod (Mod.refl (fun _ => False) w).drew id
theorem MapIs.drew_len {w : World} {B : Nat} {ns : List ByteArray} (h : MapIs w B ns) : (Builtin.len_ #[68] 3 #[.map (some B)]).run Tryd.prog w.drew = .ok (.int .i64 ns.length) w.drew := h.drew.len _
theorem rnterm_any (t : Tm) (ns : List ByteArray) (B : Nat) (w : World) (h1 : 1 ≤ t.kind) (h7 : t.kind ≤ 7) (hs : t.text.size < 2 ^ 30) (hn : ns.length < 2 ^ 30) (hm : MapIs w B ns) (hp : Pow w) (hB : B ≠ 0) :
    Calls Tryd.prog 25 #[.map (some B), tmV t] w fun e w' => e = .returned (tmV (nmTm ns t).1) ∧ MapIs w' B (nmTm ns t).2 ∧ Mod (fun b => b = B) w w' := by
  obtain ⟨tk, tx⟩ := t
  simp only at h1 h7 hs
  have hb0 : ((w.alloc (.cells #[.int .i64 tk, .string tx] 42)).alloc (.cells #[.int .i64 0, .string ⟨#[]⟩] 42)).heap[w.heap.size]? = some (.cells #[.int .i64 tk, .string tx] 42 (0, 0)) := by
    show ((w.heap.push _).push _)[w.heap.size]? = _
    simp [Array.getElem?_push]
  have hm0 : Mod (fun _ => False) w ((w.alloc (.cells #[.int .i64 tk, .string tx] 42)).alloc (.cells #[.int .i64 0, .string ⟨#[]⟩] 42)) := ((Mod.refl _ w).alloc _).alloc _
  have hBl := hm.lt
  have hm1 := hm.mod hm0 id
  have hp1 := hp.mod0 hm0
  by_cases hk : asIs tk
  · have hnt : nmTm ns ⟨tk, tx⟩ = (⟨tk, tx⟩, ns) := by unfold nmTm; rw [if_pos hk]
    rw [hnt]
    have HMw := Lib.hid hm
    clear hm1 hm0 hb0 hm hp hp1 hnt
    unfold tmV
    simp only
    have hcase : tk = 2 ∨ tk = 3 ∨ tk = 4 := hk
    clear hk
    rcases hcase with rfl | rfl | rfl
    all_goals
      go_enter Tryd.func25, Tryd.ntmps25
      go_wp2_with fail
      refine bodyPost_ret (v := .agg #[.int .i64 _, .string tx]) (by simp [results, Tryd.results25, go_sem]) rfl
        ⟨rfl, HMw.out.mod (((Mod.refl (fun _ => False) w).alloc _).alloc _) id, (((Mod.refl (fun _ => False) w).alloc _).alloc _).mono (fun _ _ h => h.elim)⟩
  · have hnt : nmTm ns ⟨tk, tx⟩ = (⟨tk, vN (place tx (more ns tx) + 1)⟩, more ns tx) := by unfold nmTm; rw [if_neg hk]
    rw [hnt]
    by_cases hold : place tx ns < ns.length
    · rw [more_old hold]
      have hl1 := hm1.look tx (by unfold maxLen; omega)
      rw [nmV_old hold] at hl1
      have hve := vN_ne (place tx ns + 1)
      have HMw := Lib.hid hm
      clear hm1 hm0 hb0 hm hp hp1 hnt hold
      generalize vN (place tx ns + 1) = V at *
      unfold tmV
      simp only
      have hcase : tk = 1 ∨ tk = 5 ∨ tk = 6 ∨ tk = 7 := by unfold asIs at hk; omega
      clear hk
      rcases hcase with rfl | rfl | rfl | rfl
      all_goals
        go_enter Tryd.func25, Tryd.ntmps25
        go_wp2_with fail
        refine bodyPost_ret (v := .agg #[.int .i64 _, .string V]) (by simp [results, Tryd.results25, go_sem]) rfl
          ⟨rfl, HMw.out.mod (((Mod.refl (fun _ => False) w).alloc _).alloc _) id, (((Mod.refl (fun _ => False) w).alloc _).alloc _).mono (fun _ _ h => h.elim)⟩
    · have hpl : place tx ns = ns.length := by
        by_cases hmm : tx ∈ ns
        · exact absurd (place_lt hmm) hold
        · exact place_out hmm
      obtain ⟨hmo, hpm⟩ := more_new hpl
      rw [hmo, hpm]
      have hl1 := hm1.look tx (by unfold maxLen; omega)
      rw [nmV_new hold] at hl1
      have hle := decDigits_le (ns.length + 1)
      have HV := Lib.hid (vN_cat (ns.length + 1))
      have HPUT : Hid (∀ wx, MapIs wx B ns → ∃ w', (Instr.mapUpdate 68 (.map (some B)) (.string tx) (.string (⟨#[86]⟩ ++ ⟨(Lib.decDigits (ns.length + 1)).toArray⟩))).run Tryd.prog wx = .ok () w' ∧ MapIs w' B (ns ++ [tx]) ∧ Mod (fun b => b = B) wx w') := fun wx hx => by
        rw [vN_cat]
        exact hx.put tx (by unfold maxLen; omega) (by unfold maxLen; omega) hold (by have := vN_size (ns.length + 1); unfold maxLen; omega)
      have HLK : Hid (∀ wx, MapIs wx B (ns ++ [tx]) → (Instr.lookup 68 (.map (some B)) (.string tx) false).run Tryd.prog wx = .ok (.string (⟨#[86]⟩ ++ ⟨(Lib.decDigits (ns.length + 1)).toArray⟩)) wx) := fun wx hx => by
        have := hx.look tx (by unfold maxLen; omega)
        rw [nmV_old (by rw [hpm]; simp), hpm, ← vN_cat] at this
        exact this
      have HIT : Hid (∀ wx, Pow wx → Calls Tryd.prog 48 #[.int .i64 ((ns.length : Int) + 1)] wx fun e w' => e = .returned (.string ⟨(Lib.decDigits (ns.length + 1)).toArray⟩) ∧ Mod (fun _ => False) wx w') := fun wx hx => itoa_any (ns.length + 1) wx (by omega) hx
      have HM1 := Lib.hid hm1; have HM0 := Lib.hid hm0; have HP1 := Lib.hid hp1
      have c1 := cell_at (j := 1) hb0 rfl
      have hlen1 := hm1.len 3
      generalize Lib.decDigits (ns.length + 1) = D at *
      have hno : ¬ 9223372036854775807 < 1 + D.length := by omega
      obtain ⟨w0, hw0⟩ : ∃ w0, w0 = ((w.alloc (.cells #[.int .i64 tk, .string tx] 42)).alloc (.cells #[.int .i64 0, .string ⟨#[]⟩] 42)) := ⟨_, rfl⟩
      have HB0 := Lib.hid hb0
      have hb1 : ((w.alloc (.cells #[.int .i64 tk, .string tx] 42)).alloc (.cells #[.int .i64 0, .string ⟨#[]⟩] 42)).heap[w.heap.size + 1]? = some (.cells #[.int .i64 0, .string ⟨#[]⟩] 42 (0, 0)) := by
        have := heap_alloc_new (w.alloc (.cells #[.int .i64 tk, .string tx] 42)) (.cells #[.int .i64 0, .string ⟨#[]⟩] 42)
        simpa using this
      have HB1 := Lib.hid hb1
      rw [← hw0] at HB0 HB1 HM0 HM1 HP1 c1 hlen1
      have HW0 := Lib.hid hw0
      clear hb1 hm1 hm0 hb0 hm hp hp1 hnt hold hpl hmo hpm hw0
      unfold tmV
      simp only
      have hcase : tk = 1 ∨ tk = 5 ∨ tk = 6 ∨ tk = 7 := by unfold asIs at hk; omega
      clear hk
      rcases hcase with rfl | rfl | rfl | rfl
      all_goals
        go_enter Tryd.func25, Tryd.ntmps25
        go_wp2_with fail
        rw [← HW0.out]
        refine wp_region_ord (fun w' => w'.cell? ⟨w.heap.size, 1, none⟩ = some (.string tx) ∧ (Builtin.len_ #[68] 3 #[.map (some B)]).run Tryd.prog w' = .ok (.int .i64 ns.length) w') [(0, 0), (0, 1), (1, 2), (0, 3), (1, 4), (0, 5), (2, 6), (0, 7), (3, 8)] (by kernel_rfl) (by kernel_rfl) ?_
        go_wp2_with (first
          | (refine ord_pure rfl rfl rfl (fun K hK => ?_); go_big_quiet_op; refine hK _ ?_; clear hK K)
                                                                | (refine ord_skip rfl rfl ?_; simp only [Act.put, List.setIfInBounds_toArray, List.set_cons_zero, List.set_cons_succ])
                                                                | (refine ord_held rfl rfl rfl (⟨by simpa using c1, HM1.out.drew_len⟩) (fun K hK => ?_); apply Exists.intro; refine ⟨fun w' hs => ?_, hK _ ?_⟩; (revert hs; dsimp only; (try simp only [and_imp]); intros; go_simp; rfl); clear hK K)
                                                                | (refine ord_keep rfl rfl (⟨by simpa using c1, HM1.out.drew_len⟩) (fun K hK => ?_))
                                                                | (refine ord_drop rfl rfl (fun K hK => ?_))
                                                                | (refine ord_nil ?_))
        refine (HIT.out _ (HP1.out.mod0 (Mod.refl (fun _ => False) w0).drew)).mono ?_
        rintro e w2 ⟨rfl, hM2⟩
        have hM02 : Mod (fun _ => False) w0 w2 := ((Mod.refl (fun _ => False) w0).drew).trans hM2
        have hm2 := HM1.out.mod hM02 id
        obtain ⟨w3, hput, hm3, hM3⟩ := HPUT.out w2 hm2
        refine hK _ _ ⟨hM02.cell c1 id, hm2.len _⟩ ?_; clear hK K
        have q0 := hM3.at (hM02.at HB0.out id) (by omega)
        have q1 := hM3.at (hM02.at HB1.out id) (by omega)
        have HMM := Lib.hid ((HM0.out.trans hM02).mono (T := fun b => b = B) (fun _ _ h => h.elim)); have HM3 := Lib.hid hM3; have HMP := Lib.hid hm3
        have hlk := HLK.out w3 hm3
        have t0 := cell_at (j := 0) q0 rfl
        have t1 := cell_at (j := 1) q0 rfl
        have ft : w3.frozen? ⟨w.heap.size, 1, none⟩ = false := frozen_at q0
        have r0 := cell_at (j := 0) q1 rfl
        have r1 := cell_at (j := 1) q1 rfl
        have g0 : w3.frozen? ⟨w.heap.size + 1, 0, none⟩ = false := frozen_at q1
        have g1 : w3.frozen? ⟨w.heap.size + 1, 1, none⟩ = false := frozen_at q1
        have Q1 := Lib.hid q1
        clear q0 q1 hM2 hM02 hm2 hM3 hm3 c1 hlen1
        go_wp2_with (first
          | (refine ord_pure rfl rfl rfl (fun K hK => ?_); go_big_quiet_op; refine hK _ ?_; clear hK K)
                                                                | (refine ord_skip rfl rfl ?_; simp only [Act.put, List.setIfInBounds_toArray, List.set_cons_zero, List.set_cons_succ])
                                                                | (refine ord_held rfl rfl rfl (trivial) (fun K hK => ?_); apply Exists.intro; refine ⟨fun w' hs => ?_, hK _ ?_⟩; (revert hs; dsimp only; (try simp only [and_imp]); intros; go_simp; rfl); clear hK K)
                                                                | (refine ord_keep rfl rfl (trivial) (fun K hK => ?_))
                                                                | (refine ord_drop rfl rfl (fun K hK => ?_))
                                                                | (refine ord_nil ?_))
        clear t0 t1 ft r0 r1 g0 g1 hlk
        have z0 := fun k V => (put3 (k := k) (V := V) Q1.out).2.1
        have z1 := fun k V => (put3 (k := k) (V := V) Q1.out).2.2
        refine bodyPost_ret (v := .agg #[.int .i64 _, .string (⟨#[86]⟩ ++ ⟨D.toArray⟩)]) (by simp [results, Tryd.results25, go_sem, z0, z1]; rfl) rfl
          ⟨by rw [HV.out], HMP.out.mod (put3 Q1.out).1 (by omega), ((HMM.out.trans HM3.out).step (put3 Q1.out).1 (fun i hi e => by omega))⟩
end Go.Proofs.YtphgglnkdfndiaaDoor
/-
  slices.Clone of terms; print.renamer.atom walked.
-/
namespace Go.Proofs.YtphgglnkdfndiaaDoor
open Go Go.RowKit Go.Mine
set_option linter.unusedVariables false
set_option maxHeartbeats 8000000
set_option maxRecDepth 100000

theorem clone_any (ts : List Tm) (s : Value) (w : World) (ht : TsAt w s ts) (hn : ts.length < 2 ^ 30) :
    Calls Tryd.prog 47 #[s] w fun e w' => ∃ a c, e = .returned (.slice a ts.length c) ∧ Mine.Own w' 42 2 a ts.length c (tmsC ts) ∧ Mod (fun _ => False) w w' ∧ (∀ b, blk a = some b → w.heap.size ≤ b) := by
  obtain ⟨a, c, rfl, hr⟩ := ht
  have q22 : ∀ (w : World) (a : Option Addr) (n c n' c' : Nat), (binOp .eql 33 (.slice a n c) (.slice none n' c')).run Tryd.prog w = .ok (.bool a.isNone) w := fun w a n c n' c' => Lib.run_eql_slice_nil w _ _ a n c n' c' Tryd.underlying33
  cases a with
  | none =>
    have hts : ts = [] := by
      cases ts with
      | nil => rfl
      | cons t ts => obtain ⟨b, o, e, _⟩ := hr 0 _ rfl; cases e
    subst hts
    clear hr
    go_enter Tryd.func47, Tryd.ntmps47
    go_wp2_with fail
    go_ret
    exact ⟨none, 0, rfl, Mine.Own.nil _ _ _, Mod.refl _ _, by simp⟩
  | some ad =>
    have HR := Lib.hid hr; clear hr
    go_enter Tryd.func47, Tryd.ntmps47
    go_wp2_with (at_builtin; refine wpL_append rfl (.tmp 5) (.tmp 6) 33 33 rfl tiT rfl (own_madeg w 42 2 w.heap.size rfl) rfl (Src.ofRd tiT.ht ts.length c (HR.out.mod ((Mod.refl (fun _ => False) w).alloc _) (fun _ _ => id)) (tmsC_length ts) (tmsC_one ts)) (by omega) (by unfold maxLen; omega) ?_; intro a2 c2 w2 hO2 hG2 _
                 simp only [Nat.zero_add, List.nil_append] at hO2
                 simp only [Nat.zero_add]
                 have HO2 := Lib.hid hO2; have HG2 := Lib.hid hG2; clear hO2 hG2)
    go_ret
    refine ⟨a2, c2, rfl, HO2.out, grow_mod0 ((Mod.refl (fun _ => False) w).alloc _) HG2.out (Nat.le_refl _), fun b hb => ?_⟩
    rcases HG2.out.pos with e | ⟨g, e, hg⟩
    · rw [e] at hb; simp at hb; omega
    · rw [e] at hb; cases hb; simp at hg; omega
theorem tms_set : ∀ (l : List Tm) (k : Nat) (t : Tm), k < l.length → ((tmsC l).set (k * 2) (.int .i64 t.kind)).set (k * 2 + 1) (.string t.text) = tmsC (l.set k t)
  | [], k, t, h => by simp at h
  | x :: l, 0, t, _ => rfl
  | x :: l, k + 1, t, h => by
    have e : tmsC (x :: l) = .int .i64 x.kind :: .string x.text :: tmsC l := rfl
    have e2 : tmsC (x :: l.set k t) = .int .i64 x.kind :: .string x.text :: tmsC (l.set k t) := rfl
    rw [List.set_cons_succ, e2, ← tms_set l k t (by simpa using h), e, show (k + 1) * 2 = k * 2 + 1 + 1 by omega, show k * 2 + 1 + 1 + 1 = (k * 2 + 1) + 1 + 1 by omega]
    rfl
theorem ratom_any (p : ByteArray) (ts : List Tm) (s : Value) (ns : List ByteArray) (B : Nat) (w0 w : World) (ht : TsAt w0 s ts) (hm0 : Mod (fun _ => False) w0 w) (hB : w0.heap.size ≤ B) (hB3 : B ≠ 0)
    (hk : ∀ t ∈ ts, 1 ≤ t.kind ∧ t.kind ≤ 7 ∧ t.text.size < 2 ^ 30) (hn : ns.length + ts.length < 2 ^ 30) (hm : MapIs w B ns) (hp : Pow w) :
    Calls Tryd.prog 24 #[.map (some B), .agg #[.string p, s]] w fun e w' => ∃ s', e = .returned (.agg #[.string p, s']) ∧ TsF w' (fun b => w.heap.size ≤ b) s' (nmTs ns ts).1 ∧ MapIs w' B (nmTs ns ts).2 ∧ Mod (fun b => b = B) w w' ∧ ∃ t : Sl, s' = t.val ∧ t.n = ts.length ∧ (tE t).P w' ∧ ∀ b, blk t.a = some b → w.heap.size ≤ b := by
  have hBl := hm.lt
  have hp3 := hp.lt
  have HT := Lib.hid (ht.mod0 hm0)
  obtain ⟨sa, sc, rfl, _⟩ := ht
  have hb0 : ((w.alloc (.cells #[.string p, .slice sa ts.length sc] 35)).alloc (.cells #[.string ⟨#[]⟩, .slice none 0 0] 35)).heap[w.heap.size]? = some (.cells #[.string p, .slice sa ts.length sc] 35 (0, 0)) := by
    show ((w.heap.push _).push _)[w.heap.size]? = _
    simp [Array.getElem?_push]
  have hb1 : ((w.alloc (.cells #[.string p, .slice sa ts.length sc] 35)).alloc (.cells #[.string ⟨#[]⟩, .slice none 0 0] 35)).heap[w.heap.size + 1]? = some (.cells #[.string ⟨#[]⟩, .slice none 0 0] 35 (0, 0)) := by
    have := heap_alloc_new (w.alloc (.cells #[.string p, .slice sa ts.length sc] 35)) (.cells #[.string ⟨#[]⟩, .slice none 0 0] 35)
    simpa using this
  have hm1 : Mod (fun _ => False) w ((w.alloc (.cells #[.string p, .slice sa ts.length sc] 35)).alloc (.cells #[.string ⟨#[]⟩, .slice none 0 0] 35)) := ((Mod.refl _ w).alloc _).alloc _
  have hz1 : ((w.alloc (.cells #[.string p, .slice sa ts.length sc] 35)).alloc (.cells #[.string ⟨#[]⟩, .slice none 0 0] 35)).heap.size = w.heap.size + 2 := by simp
  have HC := Lib.hid (clone_any ts _ _ (HT.out.mod0 hm1) (by omega))
  have HH := Lib.hid (And.intro hb0 (And.intro hb1 (And.intro hm1 (And.intro hz1 (And.intro (hm.mod hm1 id) (hp.mod0 hm1))))))
  have HK := Lib.hid hk
  clear hb0 hb1 hm1 hz1 hm hp hm0 hk
  go_enter Tryd.func24, Tryd.ntmps24
  go_wp2_with fail
  obtain ⟨w1, hw1⟩ : ∃ w1, w1 = ((w.alloc (.cells #[.string p, .slice sa ts.length sc] 35)).alloc (.cells #[.string ⟨#[]⟩, .slice none 0 0] 35)) := ⟨_, rfl⟩
  rw [← hw1] at HC HH ⊢
  clear hw1
  obtain ⟨hb0, hb1, hm1, hz1, hM1, hP1⟩ := HH.out
  refine HC.out.mono ?_
  rintro e w2 ⟨ac, cc, rfl, hOc, hM2, hfc⟩
  have k0 := hM2.at hb0 id
  have k1 := hM2.at hb1 id
  have c0 := cell_at (j := 0) k0 rfl
  have c1 := cell_at (j := 1) k0 rfl
  have f1 : w2.frozen? ⟨w.heap.size, 1, none⟩ = false := frozen_at k0
  have hms : Mod (fun b => b = w.heap.size) w2 (w2.setCell ⟨w.heap.size, 1, none⟩ (.slice ac ts.length cc)) := (Mod.refl (fun b => b = w.heap.size) w2).setCell (p := ⟨w.heap.size, 1, none⟩) (fun _ => rfl) _
  have hq0 := heap_setCell_at (j := 1) (.slice ac ts.length cc) k0
  have hq0' : (w2.setCell ⟨w.heap.size, 1, none⟩ (.slice ac ts.length cc)).heap[w.heap.size]? = some (.cells #[.string p, .slice ac ts.length cc] 35 (0, 0)) := hq0
  have hMM : Mod (fun _ => False) w (w2.setCell ⟨w.heap.size, 1, none⟩ (.slice ac ts.length cc)) := (hm1.trans hM2).step hms (fun i hi e => by omega)
  have HL := Lib.hid (And.intro hq0' (And.intro (hms.at k1 (by omega)) (And.intro (hOc.mod hms (fun b hb e => by have := hfc b hb; omega)) (And.intro ((hM1.mod hM2 id).mod hms (by omega)) (And.intro ((hP1.mod0 hM2).mod hms (by omega)) hMM)))))
  have hfc2 : ∀ b, blk ac = some b → w.heap.size + 2 ≤ b ∧ b ≠ 0 := fun b hb => by have := hfc b hb; omega
  have hz2 : w.heap.size + 2 ≤ (w2.setCell ⟨w.heap.size, 1, none⟩ (.slice ac ts.length cc)).heap.size := by have := hM2.size; simp; omega
  clear hms hq0 hq0' k0 k1 hOc hM2 hfc hM1 hP1 hm1 hz1 hb0 hb1 HC HH hMM
  go_wp2_with fail
  obtain ⟨w3, hw3⟩ : ∃ w3, w3 = w2.setCell ⟨w.heap.size, 1, none⟩ (.slice ac ts.length cc) := ⟨_, rfl⟩
  rw [← hw3] at HL hz2 ⊢
  clear hw3 c0 c1 f1
  obtain ⟨hq0, hq1, hO0, hM0, hP0, hMM⟩ := HL.out
  have HFC := Lib.hid hfc2
  have HQ0 := Lib.hid hq0; have HQ1 := Lib.hid hq1; have HO0 := Lib.hid hO0; have HM0 := Lib.hid hM0; have HP0 := Lib.hid hP0; have HMM := Lib.hid hMM
  clear hq0 hq1 hO0 hM0 hP0 hMM HL hfc2
  go_loopw [14] (fun iv wr => ∃ k : Nat, iv = .int .i64 k ∧ k ≤ ts.length ∧ Hid (Mine.Own wr 42 2 ac ts.length cc (tmsC ((nmTs ns (ts.take k)).1 ++ ts.drop k))) ∧ Hid (MapIs wr B (nmTs ns (ts.take k)).2) ∧
      Hid (Mod (fun b => b = B ∨ blk ac = some b) w3 wr)) (fun iv _ => ts.length - (intOf iv).toNat)
  case atStart => exact ⟨0, rfl, Nat.zero_le _, HO0, HM0, Lib.hid (Mod.refl _ _)⟩
  case round =>
    obtain ⟨k, rfl, hk, hO, hMp, hM⟩ := hrel
    have hac : ∀ b, b < w.heap.size + 2 → ¬ (blk ac = some b) := fun b hb e => by have := (HFC.out b e).1; omega
    have q0 := hM.out.at HQ0.out (by rintro (e | e); omega; exact hac _ (by omega) e)
    have q1 := hM.out.at HQ1.out (by rintro (e | e); omega; exact hac _ (by omega) e)
    have hpw := HP0.out.mod hM.out (by rintro (e | e); exact hB3 e.symm; exact (HFC.out _ e).2 rfl)
    have c0 := cell_at (j := 0) q0 rfl
    have c1 := cell_at (j := 1) q0 rfl
    have hsw : w.heap.size + 2 ≤ wr.heap.size := Nat.le_trans hz2 hM.out.size
    have HPW := Lib.hid hpw; have Q0 := Lib.hid q0; have Q1 := Lib.hid q1
    clear q0 q1 hpw hac
    by_cases hlt : k < ts.length
    · have hlen : ((nmTs ns (ts.take k)).1 ++ ts.drop k).length = ts.length := by
        rw [List.length_append, nmTs_len, List.length_take, List.length_drop]; omega
      have hget : ((nmTs ns (ts.take k)).1 ++ ts.drop k)[k]? = some ts[k] := by
        have h1 : (nmTs ns (ts.take k)).1.length = k := by rw [nmTs_len, List.length_take]; omega
        rw [List.getElem?_append_right (by omega), h1, Nat.sub_self, List.drop_eq_getElem_cons hlt]
        rfl
      obtain ⟨hg0, hg1⟩ := tmsC_get hget
      obtain ⟨gc, rfl⟩ := hO.out.atHead (by omega)
      obtain ⟨b, o, hbe, x0⟩ := hO.out.rd _ _ hg0
      cases hbe
      obtain ⟨b, o, hbe, x1⟩ := hO.out.rd _ _ hg1
      cases hbe
      rw [Nat.zero_add] at x0 x1
      have hst := nmTs_snoc ns (ts.take k) ts[k]
      rw [← List.take_succ_eq_append_getElem hlt] at hst
      have hset : ((nmTs ns (ts.take k)).1 ++ ts.drop k).set k (nmTm (nmTs ns (ts.take k)).2 ts[k]).1 = (nmTs ns (ts.take (k + 1))).1 ++ ts.drop (k + 1) := by
        have h1 : (nmTs ns (ts.take k)).1.length = k := by rw [nmTs_len, List.length_take]; omega
        rw [List.set_append_right _ _ (by omega), h1, Nat.sub_self, List.drop_eq_getElem_cons hlt, List.set_cons_zero, hst, List.append_assoc]
        rfl
      have hNl : (nmTs ns (ts.take k)).2.length < 2 ^ 30 := by
        have := nmTs_le ns (ts.take k)
        rw [List.length_take] at this
        omega
      have hkt := HK.out _ (List.getElem_mem hlt)
      have hmb : Mod (fun _ => False) wr (wr.alloc (.cells #[.int .i64 ts[k].kind, .string ts[k].text] 42)).drew := ((Mod.refl _ wr).alloc _).drew
      have HT1 := Lib.hid (rnterm_any ts[k] _ B _ hkt.1 hkt.2.1 hkt.2.2 hNl (hMp.out.mod hmb id) (HPW.out.mod0 hmb) hB3)
      unfold tmV at HT1
      have HST := Lib.hid hst; have HSET := Lib.hid hset; have HMB := Lib.hid hmb
      have HTL := Lib.hid hlen
      clear hg0 hg1 hst hset hkt hmb hget hlen
      obtain ⟨⟨t1k, t1⟩, ht1⟩ : ∃ t1, t1 = (nmTm (nmTs ns (ts.take k)).2 ts[k]).1 := ⟨_, rfl⟩
      rw [← ht1] at HT1 HST HSET
      clear ht1
      have hbx := heap_alloc_new wr (.cells #[.int .i64 ts[k].kind, .string ts[k].text] 42)
      have HBX := Lib.hid hbx
      clear hbx
      generalize ts[k] = t at *
      have c1' := HMB.out.cell c1 id
      have b0 : (wr.alloc (.cells #[.int .i64 t.kind, .string t.text] 42)).drew.cell? ⟨wr.heap.size, 0, none⟩ = some (.int .i64 t.kind) := cell_at (w := (wr.alloc (.cells #[.int .i64 t.kind, .string t.text] 42)).drew) HBX.out rfl
      have b1 : (wr.alloc (.cells #[.int .i64 t.kind, .string t.text] 42)).drew.cell? ⟨wr.heap.size, 1, none⟩ = some (.string t.text) := cell_at (w := (wr.alloc (.cells #[.int .i64 t.kind, .string t.text] 42)).drew) HBX.out rfl
      have HC1 := Lib.hid c1'; have HB0 := Lib.hid b0; have HB1 := Lib.hid b1
      clear c1' b0 b1
      go_wp2_with fail
      refine wp_region_ord (fun w' => w'.cell? ⟨w.heap.size, 1, none⟩ = some (.slice (some ⟨gc, 0, none⟩) ts.length cc) ∧ w'.cell? ⟨wr.heap.size, 0, none⟩ = some (.int .i64 t.kind) ∧ w'.cell? ⟨wr.heap.size, 1, none⟩ = some (.string t.text)) [(0, 0), (1, 1), (0, 2), (0, 3), (1, 4), (2, 5), (0, 6), (3, 7)] (by kernel_rfl) (by kernel_rfl) ?_
      go_wp2_with (first
        | (refine ord_pure rfl rfl rfl (fun K hK => ?_); go_big_quiet_op; refine hK _ ?_; clear hK K)
                                                                | (refine ord_skip rfl rfl ?_; simp only [Act.put, List.setIfInBounds_toArray, List.set_cons_zero, List.set_cons_succ])
                                                                | (refine ord_held rfl rfl rfl (⟨HC1.out, HB0.out, HB1.out⟩) (fun K hK => ?_); apply Exists.intro; refine ⟨fun w' hs => ?_, hK _ ?_⟩; (revert hs; dsimp only; (try simp only [and_imp]); intros; go_simp; rfl); clear hK K)
                                                                | (refine ord_keep rfl rfl (⟨HC1.out, HB0.out, HB1.out⟩) (fun K hK => ?_))
                                                                | (refine ord_drop rfl rfl (fun K hK => ?_))
                                                                | (refine ord_nil ?_))
      refine HT1.out.mono ?_
      rintro e w5 ⟨rfl, hm5, hM5⟩
      have hMt := HMB.out.mono (T := fun b => b = B) (fun _ _ h => h.elim)
      have hMr := hMt.trans hM5
      have hgB : gc ≠ B := by have := (HFC.out gc rfl).1; omega
      have hO5 := hO.out.mod hMr (fun b hb e => by cases hb; exact hgB e)
      have y0 := hMr.cell x0 (fun e => hgB e)
      have y1 := hMr.cell x1 (fun e => hgB e)
      have g0 := hO5.frozen (o := k * 2) (b := gc) rfl
      have g1 := hO5.frozen (o := k * 2 + 1) (b := gc) rfl
      refine hK _ _ ⟨hM5.cell HC1.out (by show ¬ w.heap.size = B; omega), hM5.cell HB0.out (by show ¬ wr.heap.size = B; omega), hM5.cell HB1.out (by show ¬ wr.heap.size = B; omega)⟩ ?_; clear hK K
      have HMR := Lib.hid hMr; have HO5 := Lib.hid hO5; have HM5 := Lib.hid hm5
      clear hMt hMr hO5 hm5 hM5 x0 x1
      go_wp2_with (first
        | (refine ord_pure rfl rfl rfl (fun K hK => ?_); go_big_quiet_op; refine hK _ ?_; clear hK K)
                                                                | (refine ord_skip rfl rfl ?_; simp only [Act.put, List.setIfInBounds_toArray, List.set_cons_zero, List.set_cons_succ])
                                                                | (refine ord_held rfl rfl rfl (trivial) (fun K hK => ?_); apply Exists.intro; refine ⟨fun w' hs => ?_, hK _ ?_⟩; (revert hs; dsimp only; (try simp only [and_imp]); intros; go_simp; rfl); clear hK K)
                                                                | (refine ord_keep rfl rfl (trivial) (fun K hK => ?_))
                                                                | (refine ord_drop rfl rfl (fun K hK => ?_))
                                                                | (refine ord_nil ?_))
      have hms : Mod (fun b => b = gc) w5 ((w5.setCell ⟨gc, k * 2, none⟩ (.int .i64 t1k)).setCell ⟨gc, k * 2 + 1, none⟩ (.string t1)) := ((Mod.refl (fun b => b = gc) w5).setCell (p := ⟨gc, k * 2, none⟩) (fun _ => rfl) _).setCell (p := ⟨gc, k * 2 + 1, none⟩) (fun _ => rfl) _
      have hOs := (HO5.out.store (k * 2) (.int .i64 t1k)).store (k * 2 + 1) (.string t1)
      have htt := tms_set _ k ⟨t1k, t1⟩ (by rw [HTL.out]; exact hlt)
      simp only at htt
      rw [htt, HSET.out] at hOs
      have H1 := Lib.hid hOs
      have H2 := Lib.hid (HM5.out.mod hms (fun e => hgB e.symm))
      have H3 : Hid (Mod (fun b => b = B ∨ blk (some (⟨gc, 0, none⟩ : Addr)) = some b) w3 ((w5.setCell ⟨gc, k * 2, none⟩ (.int .i64 t1k)).setCell ⟨gc, k * 2 + 1, none⟩ (.string t1))) := (hM.out.step HMR.out (fun i _ e => .inl e)).step hms (fun i _ e => .inr (by rw [e]; rfl))
      clear hOs htt hms y0 y1 g0 g1
      go_roundw
      case rel => exact ⟨k + 1, by go_num, hlt, H1, by rw [HST.out]; exact H2, H3⟩
      case measure => simp [intOf]; omega
    · obtain rfl : k = ts.length := by omega
      rw [List.take_length, List.drop_length, List.append_nil] at hO
      rw [List.take_length] at hMp
      have r0 := cell_at (j := 0) Q1.out rfl
      have r1 := cell_at (j := 1) Q1.out rfl
      have g0 : wr.frozen? ⟨w.heap.size + 1, 0, none⟩ = false := frozen_at Q1.out
      have g1 : wr.frozen? ⟨w.heap.size + 1, 1, none⟩ = false := frozen_at Q1.out
      go_wp2_with fail
      have hms : Mod (fun b => b = w.heap.size + 1) wr ((wr.setCell ⟨w.heap.size + 1, 0, none⟩ (.string p)).setCell ⟨w.heap.size + 1, 1, none⟩ (.slice ac ts.length cc)) := ((Mod.refl (fun b => b = w.heap.size + 1) wr).setCell (p := ⟨w.heap.size + 1, 0, none⟩) (fun _ => rfl) _).setCell (p := ⟨w.heap.size + 1, 1, none⟩) (fun _ => rfl) _
      have hb2 := heap_setCell_at (j := 1) (.slice ac ts.length cc) (heap_setCell_at (j := 0) (.string p) Q1.out)
      have z0 := cell_at (j := 0) (u := .string p) hb2 rfl
      have z1 := cell_at (j := 1) (u := .slice ac ts.length cc) hb2 rfl
      generalize (wr.setCell ⟨w.heap.size + 1, 0, none⟩ (.string p)).setCell ⟨w.heap.size + 1, 1, none⟩ (.slice ac ts.length cc) = W at *
      refine bodyPost_ret (v := .agg #[.string p, .slice ac ts.length cc]) (by simp [results, Tryd.results24, go_sem, z0, z1]) rfl
        ⟨_, rfl, ⟨ac, cc, by rw [nmTs_len], (hO.out.mod hms (fun b hb e => by have := (HFC.out b hb).1; omega)).rd, fun _ b hb => by have := (HFC.out b hb).1; omega⟩, hMp.out.mod hms (by omega), ?_, ⟨ac, ts.length, cc⟩, rfl, rfl, ⟨_, hO.out.mod hms (fun b hb e => by have := (HFC.out b hb).1; omega), trivial⟩, fun b hb => by have := (HFC.out b hb).1; omega⟩
      exact (HMM.out.mono (T := fun b => b = B) (fun _ _ h => h.elim)).step ((hM.out.mono (T := fun b => b = B ∨ w.heap.size ≤ b) (fun b _ h => h.imp id (fun e => by have := (HFC.out b e).1; omega))).step hms (fun i hi e => .inr (by omega))) (fun i hi e => by omega)
end Go.Proofs.YtphgglnkdfndiaaDoor
/-
  print.Normal walked.
-/
namespace Go.Proofs.YtphgglnkdfndiaaDoor
open Go Go.RowKit Go.Mine
set_option linter.unusedVariables false
set_option maxHeartbeats 8000000
set_option maxRecDepth 100000

theorem okTm_small {t : Tm} (h : OkTm t) : 1 ≤ t.kind ∧ t.kind ≤ 7 ∧ t.text.size < 2 ^ 30 := ⟨h.lo, h.hi, by have := h.len; omega⟩
/-- the normal form, its lists in blocks of their own -/
def NormRs (r : Rm) (w : World) (e : Ending) (w' : World) : Prop := ∃ s' b', e = .returned (.tuple #[rmV (nmR0 r) s' b', .int .i64 (mayRm r)]) ∧ RmF w' w.heap.size s' b' (nmR0 r) ∧ Mod (fun _ => False) w w' ∧ ∃ d : RD, s' = d.s.val ∧ b' = d.b.val ∧ RuO w' w.heap.size d
theorem RuO.weak {w : World} {L L' : Nat} {d : RD} (h : RuO w L d) (hl : L' ≤ L) : RuO w L' d := ⟨h.1, h.2.mono hl⟩
theorem NormalO_any (r : Rm) (s b : Value) (w : World) (hs : SmallRm r) (ht : TsAt w s r.head.terms) (hl : LsAt w b r.body) (hpw : Pow w) :
    Calls Tryd.prog 8 #[rmV r s b] w (NormRs r w) := by
  have HPW := Lib.hid hpw; clear hpw
  have HMay := Lib.hid (fun wx (m : Mod (fun _ => False) w wx) => MayRule_any r s b wx hs (ht.mod0 m) (hl.mod0 m))
  obtain ⟨⟨pr, hts⟩, ls⟩ := r
  unfold rmV at HMay ⊢
  simp only at ht hl HMay ⊢
  have HT := Lib.hid ht
  obtain ⟨sa, sc, rfl, _⟩ := ht
  obtain ⟨bd, bc, xv, rfl, hx, hrx, hxt⟩ := hl
  have HR := Lib.hid hrx; have HX := Lib.hid hx; have HXT := Lib.hid hxt
  clear hrx hx hxt
  have hb0 : ((w.alloc (.cells #[.string pr, .slice sa hts.length sc, .slice bd ls.length bc] 38)).alloc (.cells #[.string ⟨#[]⟩, .slice none 0 0, .slice none 0 0] 38)).heap[w.heap.size]? = some (.cells #[.string pr, .slice sa hts.length sc, .slice bd ls.length bc] 38 (0, 0)) := heap_two1 w _ _
  have hb1 : ((w.alloc (.cells #[.string pr, .slice sa hts.length sc, .slice bd ls.length bc] 38)).alloc (.cells #[.string ⟨#[]⟩, .slice none 0 0, .slice none 0 0] 38)).heap[w.heap.size + 1]? = some (.cells #[.string ⟨#[]⟩, .slice none 0 0, .slice none 0 0] 38 (0, 0)) := heap_two2 w _ _
  have hm0 : Mod (fun _ => False) w ((w.alloc (.cells #[.string pr, .slice sa hts.length sc, .slice bd ls.length bc] 38)).alloc (.cells #[.string ⟨#[]⟩, .slice none 0 0, .slice none 0 0] 38)) := ((Mod.refl _ w).alloc _).alloc _
  have hz0 : ((w.alloc (.cells #[.string pr, .slice sa hts.length sc, .slice bd ls.length bc] 38)).alloc (.cells #[.string ⟨#[]⟩, .slice none 0 0, .slice none 0 0] 38)).heap.size = w.heap.size + 2 := by simp
  have HC := Lib.hid (HMay.out _ hm0)
  have HB := Lib.hid (And.intro hb0 (And.intro hb1 (And.intro hm0 hz0)))
  clear HMay hb0 hb1 hm0 hz0
  obtain ⟨m, hm⟩ : ∃ m, m = mayRm ⟨⟨pr, hts⟩, ls⟩ := ⟨_, rfl⟩
  rw [← hm] at HC
  have HMR := Lib.hid hm; clear hm
  go_enter Tryd.func8, Tryd.ntmps8
  go_wp2_with fail
  obtain ⟨w0, hw0⟩ : ∃ w0, w0 = ((w.alloc (.cells #[.string pr, .slice sa hts.length sc, .slice bd ls.length bc] 38)).alloc (.cells #[.string ⟨#[]⟩, .slice none 0 0, .slice none 0 0] 38)) := ⟨_, rfl⟩
  obtain ⟨hb0, hb1, hm0, hz0⟩ := HB.out
  rw [← hw0] at hb0 hb1 hm0 hz0 HC ⊢
  clear hw0 HB
  refine HC.out.mono ?_
  rintro e w1 ⟨rfl, hM1⟩
  have k0 := hM1.at hb0 id
  have k1 := hM1.at hb1 id
  have hM := hm0.trans hM1
  have hz1 : w.heap.size + 2 ≤ w1.heap.size := by have := hM1.size; omega
  clear hb0 hb1 hm0 hz0 hM1 HC w0
  have c0 := cell_at (j := 0) k0 rfl
  have c1 := cell_at (j := 1) k0 rfl
  have r0 := cell_at (j := 0) k1 rfl
  have r1 := cell_at (j := 1) k1 rfl
  have r2 := cell_at (j := 2) k1 rfl
  have g0 : w1.frozen? ⟨w.heap.size + 1, 0, none⟩ = false := frozen_at k1
  have g1 : w1.frozen? ⟨w.heap.size + 1, 1, none⟩ = false := frozen_at k1
  have g2 : w1.frozen? ⟨w.heap.size + 1, 2, none⟩ = false := frozen_at k1
  have K0 := Lib.hid k0; have K1 := Lib.hid k1; have HM := Lib.hid hM
  clear k0 k1 hM
  by_cases hm : m = 0
  · subst hm
    have hmr := HMR.out
    obtain ⟨hmh, hbl, hml⟩ := may_rule hmr.symm
    have HML := Lib.hid hml
    have hah := (okAm hmh).few
    have HHL := Lib.hid hah
    have HKH := Lib.hid (fun t ht => okTm_small ((okAm hmh).all t ht))
    simp only at hbl hah
    clear hmr hmh hml
    clear r0 r1 r2 g0 g1 g2
    have hmm := @run_makeMap Tryd.prog
    have hma : Mod (fun _ => False) w1 (w1.alloc (.map #[] 0)) := (Mod.refl _ w1).alloc _
    have c0m := hma.cell c0 id
    have c1m := hma.cell c1 id
    have HMA := Lib.hid hma
    clear hma
    go_wp2_with fail
    have hMap := MapIs.made w1
    obtain ⟨B, hBe⟩ : ∃ B, B = w1.heap.size := ⟨_, rfl⟩
    rw [← hBe] at hMap ⊢
    have hB3 : B ≠ 0 := by have := HPW.out.lt; omega
    have hBlt := hMap.lt
    refine (ratom_any pr hts _ [] B w _ HT.out (HM.out.trans HMA.out) (by omega) hB3 HKH.out (by simp; omega) hMap (HPW.out.mod0 (HM.out.trans HMA.out))).mono ?_
    rintro e w2 ⟨sh, rfl, hTh, hMp, hMB, ⟨ta0, tn0, tc0⟩, hte0, htn0, htP0, htF0⟩
    have HTh := Lib.hid (hTh.mono (G' := fun b => B + 1 ≤ b) (fun b _ g => by have := g; simp at this; omega))
    obtain ⟨sha, shc, rfl, _⟩ := hTh
    obtain ⟨rfl, rfl, rfl⟩ : sha = ta0 ∧ (nmTs [] hts).1.length = tn0 ∧ shc = tc0 := by cases hte0; exact ⟨rfl, rfl, rfl⟩
    have HP0 := Lib.hid (And.intro htP0 htF0)
    clear hte0 htn0 htP0 htF0
    have hTl := nmTs_len [] hts
    have hTl0 := hTl
    obtain ⟨h', hh'⟩ : ∃ h', h' = (nmTs [] hts).1 := ⟨_, rfl⟩
    obtain ⟨N0, hN0⟩ : ∃ N0, N0 = (nmTs [] hts).2 := ⟨_, rfl⟩
    have hN0l : N0.length ≤ 64 := by have := nmTs_le [] hts; rw [← hN0] at this; simp at this; omega
    have HHN := Lib.hid (And.intro hh' hN0)
    rw [← hh'] at HTh hTl ⊢
    rw [hTl] at HTh
    rw [hTl0] at HP0
    rw [← hN0] at hMp
    clear hh' hN0 hTl0
    have HP1 : Hid ((tE ⟨sha, hts.length, shc⟩).P w2 ∧ ∀ b, blk sha = some b → B < b) := Lib.hid ⟨HP0.out.1, fun b hb => by have := HP0.out.2 b hb; simp at this; omega⟩
    clear HP0
    have k0 := hMB.at (HMA.out.at K0.out id) (by omega)
    have k1 := hMB.at (HMA.out.at K1.out id) (by omega)
    have hM2 : Mod (fun _ => False) w w2 := (HM.out.trans HMA.out).step hMB (fun i hi e => by omega)
    have hz2 : w.heap.size + 2 ≤ w2.heap.size := by have := hMB.size; simp at this; omega
    have hBl2 : B < w2.heap.size := hMp.lt
    have HG := Lib.hid (And.intro k0 (And.intro k1 hM2))
    have HMp := Lib.hid hMp
    have hlB : w.heap.size + 2 ≤ B := by omega
    have hc2 : (w2.alloc (.cells #[.string pr, .slice sha hts.length shc, .slice none 0 0] 38)).cell? ⟨w.heap.size, 2, none⟩ = some (.slice bd ls.length bc) := ((Mod.refl (fun _ => False) w2).alloc _).cell (cell_at (j := 2) k0 rfl) id
    clear k0 k1 hM2 hMp hMB K0 K1 HM c0 c1 c0m c1m hmm hMap hBlt hBe
    go_wp2_with fail
    clear hc2
    obtain ⟨k0, k1, hM2⟩ := HG.out
    have hmv : Mod (fun _ => False) w2 (w2.alloc (.cells #[.string pr, .slice sha hts.length shc, .slice none 0 0] 38)) := (Mod.refl _ w2).alloc _
    have hgo := heap_alloc_new w2 (.cells #[.string pr, .slice sha hts.length shc, .slice none 0 0] 38)
    obtain ⟨v, hv⟩ : ∃ v, v = w2.alloc (.cells #[.string pr, .slice sha hts.length shc, .slice none 0 0] 38) := ⟨_, rfl⟩
    rw [← hv] at hmv hgo ⊢
    clear hv
    have k0' := hmv.at k0 id
    have k1' := hmv.at k1 id
    have hN0 : NG v v (w.heap.size + 2) (fun b => b = B) 0 pr h' (.slice sha hts.length shc) w2.heap.size none 0 [] :=
      ⟨Mine.Own.nil _ _ _, (fun _ h => by cases h), HTh.out.step hmv (fun _ _ _ => id) (fun b hb g => ⟨by omega, by omega, by simp, by omega⟩), hgo, (fun b h => by simp at h), (fun b h => ⟨by omega, by omega⟩), by omega, Mod.refl _ _⟩
    have hNF0 : NF (w.heap.size + 2) v B w2.heap.size ⟨sha, hts.length, shc⟩ none 0 0 [] := NF.start (by omega) (by omega) (Array.getElem?_eq_some_iff.1 hgo).1 ((tE ⟨sha, hts.length, shc⟩).st _ _ _ HP1.out.1 hmv (fun _ _ => id)) (fun b hb => ⟨HP1.out.2 b hb, fun e => by
      have := (tE ⟨sha, hts.length, shc⟩).lt _ HP1.out.1 b hb
      omega⟩)
    have HF0 := Lib.hid hNF0
    clear hNF0 HP1
    have HN0 := Lib.hid hN0; have K0 := Lib.hid k0'; have K1 := Lib.hid k1'; have HMPv := Lib.hid (HMp.out.mod hmv id); have HMv := Lib.hid (hM2.trans hmv)
    have HPv := Lib.hid (HPW.out.mod0 HMv.out)
    have hzv : w.heap.size + 2 ≤ v.heap.size := Nat.le_trans hz2 hmv.size
    obtain ⟨go, hgoe⟩ : ∃ go, go = w2.heap.size := ⟨_, rfl⟩
    rw [← hgoe] at HN0 HF0 ⊢
    have hgo3 : go ≠ 0 := by have := HPW.out.lt; omega
    have hgoB : B < go := by omega
    clear k0 k1 k0' k1' hM2 hmv hgo hN0 HG HMp HTh hgoe
    have HRv : Hid (∀ wr, Mod (fun b => w.heap.size + 2 ≤ b) v wr → Mod (fun _ => False) w wr) := fun wr m => HMv.out.step m (fun i hi h => by omega)
    go_loopw [24] (fun iv wr => ∃ (k : Nat) (al : Option Addr) (cl : Nat) (xs : List (Lm × Value)), iv = .int .i64 k ∧ k ≤ ls.length ∧
        Hid (MapIs wr B (nmLs N0 (ls.take k)).2) ∧ Hid (NG v wr (w.heap.size + 2) (fun b => b = B) k pr h' (.slice sha hts.length shc) go al cl xs) ∧ Hid (xs.map Prod.fst = (nmLs N0 (ls.take k)).1) ∧ Hid (Pow wr) ∧ Hid (NF (w.heap.size + 2) wr B go ⟨sha, hts.length, shc⟩ al k cl xs)) (fun iv _ => ls.length - (intOf iv).toNat)
    case atStart => exact ⟨0, none, 0, [], rfl, Nat.zero_le _, HMPv, HN0, Lib.hid rfl, HPv, HF0⟩
    case round =>
      obtain ⟨k, al, cl, xs, rfl, hk, hMp, hNG, hxs, hPr, hNF⟩ := hrel
      have q0 := hNG.out.mod.at K0.out (by omega)
      have q1 := hNG.out.mod.at K1.out (by omega)
      have hMw := HRv.out wr hNG.out.mod
      have hsw : v.heap.size ≤ wr.heap.size := hNG.out.mod.size
      have hgol := hNG.out.ltgo
      have hgoo := hNG.out.out
      by_cases hlt : k < ls.length
      · have hBlt := hMp.out.lt
        obtain ⟨sk, hx, hmem⟩ := xs_get HX.out hlt
        obtain ⟨bb, o, rfl, x0, x1, x2, x3, x4, x5, x6, x7⟩ := rd_cell8 (HR.out.mod hMw (fun _ _ => id)) hx
        have HTS := Lib.hid (HXT.out _ hmem)
        have hmay := HML.out _ (List.getElem_mem hlt)
        have hst := nmLs_snoc N0 (ls.take k) ls[k]
        rw [← List.take_succ_eq_append_getElem hlt] at hst
        have hNl : (nmLs N0 (ls.take k)).2.length < 2 ^ 20 := by
          have := nmLs_le N0 (ls.take k) (fun l hl => HML.out l (List.mem_of_mem_take hl))
          rw [List.length_take] at this
          omega
        obtain ⟨N, hN⟩ : ∃ N, N = (nmLs N0 (ls.take k)).2 := ⟨_, rfl⟩
        rw [← hN] at hMp hst hNl
        clear hN
        have HST := Lib.hid hst
        have HMW := Lib.hid hMw; have Q0 := Lib.hid q0; have Q1 := Lib.hid q1; have HGO := Lib.hid hgoo
        clear hst hx hmem hMw q0 q1 hgoo
        generalize ls[k] = t at *
        obtain ⟨tk, ⟨tp, tts⟩, top, ⟨ll1, ll2⟩, ⟨lr1, lr2⟩⟩ := t
        simp only at x0 x1 x2 x3 x4 x5 x6 x7 HTS ⊢
        by_cases h3 : tk = 3
        · subst h3
          obtain ⟨hp0, ht0⟩ := may_none hmay rfl
          simp only at hp0 ht0
          subst hp0 ht0
          have hok : OkTm ⟨ll1, ll2⟩ ∧ OkTm ⟨lr1, lr2⟩ := by
            cases okLm hmay with
            | pos h _ => exact absurd h (by show ¬ ((3 : Int) = 1); decide)
            | neg h _ => exact absurd h (by show ¬ ((3 : Int) = 2); decide)
            | cmp _ _ _ h1 h2 => exact ⟨h1, h2⟩
          have hs1 := okTm_small hok.1
          have hs2 := okTm_small hok.2
          simp only at hs1 hs2
          obtain ⟨ka, kc, rfl, _⟩ := HTS.out
          try simp only [List.length_nil]
          have hmb : Mod (fun _ => False) wr (wr.alloc (.cells #[.int .i64 3, .string emptyB, .slice ka 0 kc, .int .i64 top, .int .i64 ll1, .string ll2, .int .i64 lr1, .string lr2] 44)).drew := ((Mod.refl _ wr).alloc _).drew
          have HA1 := Lib.hid (rnterm_any ⟨ll1, ll2⟩ N B _ hs1.1 hs1.2.1 hs1.2.2 (by omega) (hMp.out.mod hmb id) (hPr.out.mod0 hmb) hB3)
          have hlb : (wr.alloc (.cells #[.int .i64 3, .string emptyB, .slice ka 0 kc, .int .i64 top, .int .i64 ll1, .string ll2, .int .i64 lr1, .string lr2] 44)).drew.heap[wr.heap.size]? = some (.cells #[.int .i64 3, .string emptyB, .slice ka 0 kc, .int .i64 top, .int .i64 ll1, .string ll2, .int .i64 lr1, .string lr2] 44 (0, 0)) := heap_alloc_new wr _
          have hsd : ((wr.alloc (.cells #[.int .i64 3, .string emptyB, .slice ka 0 kc, .int .i64 top, .int .i64 ll1, .string ll2, .int .i64 lr1, .string lr2] 44)).drew.cell? ⟨wr.heap.size, 4, none⟩ = some (.int .i64 ll1)) ∧ ((wr.alloc (.cells #[.int .i64 3, .string emptyB, .slice ka 0 kc, .int .i64 top, .int .i64 ll1, .string ll2, .int .i64 lr1, .string lr2] 44)).drew.cell? ⟨wr.heap.size, 5, none⟩ = some (.string ll2)) ∧ ((wr.alloc (.cells #[.int .i64 3, .string emptyB, .slice ka 0 kc, .int .i64 top, .int .i64 ll1, .string ll2, .int .i64 lr1, .string lr2] 44)).drew.cell? ⟨wr.heap.size, 6, none⟩ = some (.int .i64 lr1)) ∧ ((wr.alloc (.cells #[.int .i64 3, .string emptyB, .slice ka 0 kc, .int .i64 top, .int .i64 ll1, .string ll2, .int .i64 lr1, .string lr2] 44)).drew.cell? ⟨wr.heap.size, 7, none⟩ = some (.string lr2)) :=
            ⟨cell_at (j := 4) hlb rfl, cell_at (j := 5) hlb rfl, cell_at (j := 6) hlb rfl, cell_at (j := 7) hlb rfl⟩
          have HSD := Lib.hid hsd
          have HLB := Lib.hid hlb; have HMB := Lib.hid hmb
          have HS2 := Lib.hid hs2
          clear hlb hmb hsd hs1 hs2 hok
          unfold tmV at HA1
          try simp only at HA1
          obtain ⟨⟨t1k, t1⟩, ht1⟩ : ∃ t1, t1 = (nmTm N ⟨ll1, ll2⟩).1 := ⟨_, rfl⟩
          obtain ⟨N1, hN1⟩ : ∃ N1, N1 = (nmTm N ⟨ll1, ll2⟩).2 := ⟨_, rfl⟩
          have hN1l : N1.length ≤ N.length + 1 := by rw [hN1]; exact nmTm_le _ _
          obtain ⟨⟨t2k, t2⟩, ht2⟩ : ∃ t2, t2 = (nmTm N1 ⟨lr1, lr2⟩).1 := ⟨_, rfl⟩
          obtain ⟨N2, hN2⟩ : ∃ N2, N2 = (nmTm N1 ⟨lr1, lr2⟩).2 := ⟨_, rfl⟩
          have hlm : nmLm N ⟨3, ⟨emptyB, []⟩, top, ⟨ll1, ll2⟩, ⟨lr1, lr2⟩⟩ = (⟨3, ⟨emptyB, []⟩, top, ⟨t1k, t1⟩, ⟨t2k, t2⟩⟩, N2) := by
            unfold nmLm
            rw [if_pos rfl]
            simp only
            rw [← hN1, ← ht1, ← ht2, ← hN2]
          rw [hlm] at HST
          rw [← ht1, ← hN1] at HA1
          have HE2 := Lib.hid (And.intro ht2 hN2)
          clear ht1 hN1 hlm ht2 hN2
          try simp only at HA1
          go_wp2_with fail
          refine wp_region_ord (fun w' => w'.cell? ⟨wr.heap.size, 4, none⟩ = some (.int .i64 ll1) ∧ w'.cell? ⟨wr.heap.size, 5, none⟩ = some (.string ll2) ∧ w'.cell? ⟨wr.heap.size, 6, none⟩ = some (.int .i64 lr1) ∧ w'.cell? ⟨wr.heap.size, 7, none⟩ = some (.string lr2)) [(0, 0), (0, 1), (1, 2), (0, 4), (0, 5), (1, 6), (0, 8), (2, 3), (0, 9), (3, 7), (3, 10), (0, 11), (3, 12), (0, 13), (3, 14)] (by kernel_rfl) (by kernel_rfl) ?_
          go_wp2_with (first
            | (refine ord_pure rfl rfl rfl (fun K hK => ?_); go_big_quiet_op; refine hK _ ?_; clear hK K)
                                                                | (refine ord_skip rfl rfl ?_; simp only [Act.put, List.setIfInBounds_toArray, List.set_cons_zero, List.set_cons_succ])
                                                                | (refine ord_held rfl rfl rfl (HSD.out) (fun K hK => ?_); apply Exists.intro; refine ⟨fun w' hs => ?_, hK _ ?_⟩; (revert hs; dsimp only; (try simp only [and_imp]); intros; go_simp; rfl); clear hK K)
                                                                | (refine ord_keep rfl rfl (HSD.out) (fun K hK => ?_))
                                                                | (refine ord_drop rfl rfl (fun K hK => ?_))
                                                                | (refine ord_nil ?_))
          refine HA1.out.mono ?_
          rintro e v1 ⟨rfl, hm1, hM1⟩
          have hbB : wr.heap.size ≠ B := by omega
          have kl1 := hM1.at HLB.out hbB
          have hc1 : v1.cell? ⟨wr.heap.size, 4, none⟩ = some (.int .i64 ll1) ∧ v1.cell? ⟨wr.heap.size, 5, none⟩ = some (.string ll2) ∧ v1.cell? ⟨wr.heap.size, 6, none⟩ = some (.int .i64 lr1) ∧ v1.cell? ⟨wr.heap.size, 7, none⟩ = some (.string lr2) :=
            ⟨cell_at (j := 4) kl1 rfl, cell_at (j := 5) kl1 rfl, cell_at (j := 6) kl1 rfl, cell_at (j := 7) kl1 rfl⟩
          have hM01 : Mod (fun b => b = B) wr v1 := (HMB.out.mono (T := fun b => b = B) (fun _ _ h => h.elim)).trans hM1
          have HA2 := Lib.hid (rnterm_any ⟨lr1, lr2⟩ N1 B v1 HS2.out.1 HS2.out.2.1 HS2.out.2.2 (by omega) hm1 (hPr.out.mod hM01 (fun e => hB3 e.symm)) hB3)
          unfold tmV at HA2
          rw [← HE2.out.1, ← HE2.out.2] at HA2
          try simp only at HA2
          refine hK _ _ hc1 ?_; clear hK K
          have KL1 := Lib.hid kl1; have HM01 := Lib.hid hM01
          clear kl1 hc1 hM01 hm1 hM1 HA1 HSD HLB
          go_wp2_with (first
            | (refine ord_pure rfl rfl rfl (fun K hK => ?_); go_big_quiet_op; refine hK _ ?_; clear hK K)
                                                                | (refine ord_skip rfl rfl ?_; simp only [Act.put, List.setIfInBounds_toArray, List.set_cons_zero, List.set_cons_succ])
                                                                | (refine ord_held rfl rfl rfl (trivial) (fun K hK => ?_); apply Exists.intro; refine ⟨fun w' hs => ?_, hK _ ?_⟩; (revert hs; dsimp only; (try simp only [and_imp]); intros; go_simp; rfl); clear hK K)
                                                                | (refine ord_keep rfl rfl (trivial) (fun K hK => ?_))
                                                                | (refine ord_drop rfl rfl (fun K hK => ?_))
                                                                | (refine ord_nil ?_))
          refine HA2.out.mono ?_
          rintro e v2 ⟨rfl, hm2, hM2⟩
          have kl := hM2.at KL1.out hbB
          have hM02 : Mod (fun b => b = B) wr v2 := HM01.out.trans hM2
          have kg := hM02.at HGO.out (by omega)
          have f1 : v2.frozen? ⟨wr.heap.size, 1, none⟩ = false := frozen_at kl
          have f2 : v2.frozen? ⟨wr.heap.size, 2, none⟩ = false := frozen_at kl
          have f4 : v2.frozen? ⟨wr.heap.size, 4, none⟩ = false := frozen_at kl
          have f5 : v2.frozen? ⟨wr.heap.size, 5, none⟩ = false := frozen_at kl
          have f6 : v2.frozen? ⟨wr.heap.size, 6, none⟩ = false := frozen_at kl
          have f7 : v2.frozen? ⟨wr.heap.size, 7, none⟩ = false := frozen_at kl
          have y0 := cell_at (j := 0) kl rfl
          have y1 := cell_at (j := 1) kl rfl
          have y2 := cell_at (j := 2) kl rfl
          have y3 := cell_at (j := 3) kl rfl
          have y4 := cell_at (j := 4) kl rfl
          have y5 := cell_at (j := 5) kl rfl
          have y6 := cell_at (j := 6) kl rfl
          have y7 := cell_at (j := 7) kl rfl
          have KL := Lib.hid kl; have KG := Lib.hid kg; have HM02 := Lib.hid hM02; have HM2' := Lib.hid hm2
          clear kl kg hM02 hm2 hM2 HA2 KL1 HM01
          have hms : Mod (fun b => b = wr.heap.size) v2 ((((((v2.setCell ⟨wr.heap.size, 4, none⟩ (.int .i64 t1k)).setCell ⟨wr.heap.size, 5, none⟩ (.string t1)).setCell ⟨wr.heap.size, 6, none⟩ (.int .i64 t2k)).setCell ⟨wr.heap.size, 7, none⟩ (.string t2)).setCell ⟨wr.heap.size, 1, none⟩ (.string ⟨#[]⟩)).setCell ⟨wr.heap.size, 2, none⟩ (.slice none 0 0)) := (((((((Mod.refl (fun b => b = wr.heap.size) v2).setCell (p := ⟨wr.heap.size, 4, none⟩) (fun _ => rfl) (.int .i64 t1k)).setCell (p := ⟨wr.heap.size, 5, none⟩) (fun _ => rfl) (.string t1)).setCell (p := ⟨wr.heap.size, 6, none⟩) (fun _ => rfl) (.int .i64 t2k)).setCell (p := ⟨wr.heap.size, 7, none⟩) (fun _ => rfl) (.string t2)).setCell (p := ⟨wr.heap.size, 1, none⟩) (fun _ => rfl) (.string ⟨#[]⟩)).setCell (p := ⟨wr.heap.size, 2, none⟩) (fun _ => rfl) (.slice none 0 0))
          have hk0 : (v2.setCell ⟨wr.heap.size, 4, none⟩ (.int .i64 t1k)).heap[wr.heap.size]? = some (.cells #[.int .i64 3, .string emptyB, .slice ka 0 kc, .int .i64 top, .int .i64 t1k, .string ll2, .int .i64 lr1, .string lr2] 44 (0, 0)) := heap_setCell_at (j := 4) (.int .i64 t1k) KL.out
          have hk1 : ((v2.setCell ⟨wr.heap.size, 4, none⟩ (.int .i64 t1k)).setCell ⟨wr.heap.size, 5, none⟩ (.string t1)).heap[wr.heap.size]? = some (.cells #[.int .i64 3, .string emptyB, .slice ka 0 kc, .int .i64 top, .int .i64 t1k, .string t1, .int .i64 lr1, .string lr2] 44 (0, 0)) := heap_setCell_at (j := 5) (.string t1) hk0
          have hk2 : (((v2.setCell ⟨wr.heap.size, 4, none⟩ (.int .i64 t1k)).setCell ⟨wr.heap.size, 5, none⟩ (.string t1)).setCell ⟨wr.heap.size, 6, none⟩ (.int .i64 t2k)).heap[wr.heap.size]? = some (.cells #[.int .i64 3, .string emptyB, .slice ka 0 kc, .int .i64 top, .int .i64 t1k, .string t1, .int .i64 t2k, .string lr2] 44 (0, 0)) := heap_setCell_at (j := 6) (.int .i64 t2k) hk1
          have hk3 : ((((v2.setCell ⟨wr.heap.size, 4, none⟩ (.int .i64 t1k)).setCell ⟨wr.heap.size, 5, none⟩ (.string t1)).setCell ⟨wr.heap.size, 6, none⟩ (.int .i64 t2k)).setCell ⟨wr.heap.size, 7, none⟩ (.string t2)).heap[wr.heap.size]? = some (.cells #[.int .i64 3, .string emptyB, .slice ka 0 kc, .int .i64 top, .int .i64 t1k, .string t1, .int .i64 t2k, .string t2] 44 (0, 0)) := heap_setCell_at (j := 7) (.string t2) hk2
          have hk4 : (((((v2.setCell ⟨wr.heap.size, 4, none⟩ (.int .i64 t1k)).setCell ⟨wr.heap.size, 5, none⟩ (.string t1)).setCell ⟨wr.heap.size, 6, none⟩ (.int .i64 t2k)).setCell ⟨wr.heap.size, 7, none⟩ (.string t2)).setCell ⟨wr.heap.size, 1, none⟩ (.string ⟨#[]⟩)).heap[wr.heap.size]? = some (.cells #[.int .i64 3, .string ⟨#[]⟩, .slice ka 0 kc, .int .i64 top, .int .i64 t1k, .string t1, .int .i64 t2k, .string t2] 44 (0, 0)) := heap_setCell_at (j := 1) (.string ⟨#[]⟩) hk3
          have hk5 : ((((((v2.setCell ⟨wr.heap.size, 4, none⟩ (.int .i64 t1k)).setCell ⟨wr.heap.size, 5, none⟩ (.string t1)).setCell ⟨wr.heap.size, 6, none⟩ (.int .i64 t2k)).setCell ⟨wr.heap.size, 7, none⟩ (.string t2)).setCell ⟨wr.heap.size, 1, none⟩ (.string ⟨#[]⟩)).setCell ⟨wr.heap.size, 2, none⟩ (.slice none 0 0)).heap[wr.heap.size]? = some (.cells #[.int .i64 3, .string ⟨#[]⟩, .slice none 0 0, .int .i64 top, .int .i64 t1k, .string t1, .int .i64 t2k, .string t2] 44 (0, 0)) := heap_setCell_at (j := 2) (.slice none 0 0) hk4
          have hkl := hk5
          clear hk0 hk1 hk2 hk3 hk4 hk5
          have HH := Lib.hid (And.intro hms hkl)
          clear hms hkl
          go_wp2_with fail
          refine ord_drop rfl rfl (fun K hK => ?_)
          go_wp2_with fail
          (refine ord_pure rfl rfl rfl (fun K hK => ?_); go_big_quiet_op; refine hK _ ?_; clear hK K)
          refine ord_drop rfl rfl (fun K hK => ?_)
          go_wp2_with fail
          (refine ord_pure rfl rfl rfl (fun K hK => ?_); go_big_quiet_op; refine hK _ ?_; clear hK K)
          refine ord_drop rfl rfl (fun K hK => ?_)
          go_wp2_with fail
          refine ord_nil ?_
          obtain ⟨hms, hkl⟩ := HH.out
          obtain ⟨u1, hu1⟩ : ∃ u1, u1 = ((((((v2.setCell ⟨wr.heap.size, 4, none⟩ (.int .i64 t1k)).setCell ⟨wr.heap.size, 5, none⟩ (.string t1)).setCell ⟨wr.heap.size, 6, none⟩ (.int .i64 t2k)).setCell ⟨wr.heap.size, 7, none⟩ (.string t2)).setCell ⟨wr.heap.size, 1, none⟩ (.string ⟨#[]⟩)).setCell ⟨wr.heap.size, 2, none⟩ (.slice none 0 0)) := ⟨_, rfl⟩
          rw [← hu1] at hms hkl
          rw [← hu1]
          have hGt : Mod (fun b => b = B) wr u1 := HM02.out.step hms (fun i hi e => by omega)
          have kg := hms.at KG.out (by omega)
          have hNG2 := hNG.out.named (NB' := fun b => b = B) hGt (fun b hb e => e) (fun b e => hNG.out.nb b e)
          have HNG2 := Lib.hid hNG2
          have HGT := Lib.hid hGt
          have HMU := Lib.hid (HM2'.out.mod hms (by omega)); have HPU := Lib.hid (hPr.out.mod hGt (fun e => hB3 e.symm))
          have hlo3 : 0 < w.heap.size := HPW.out.lt
          have HOL := Lib.hid hNG2.lits
          have HGOO := Lib.hid hNG2.out
          clear y0 y1 y2 y3 y4 y5 y6 y7 f1 f2 f4 f5 f6 f7
          have y0 := cell_at (j := 0) hkl rfl
          have y1 := cell_at (j := 1) hkl rfl
          have y2 := cell_at (j := 2) hkl rfl
          have y3 := cell_at (j := 3) hkl rfl
          have y4 := cell_at (j := 4) hkl rfl
          have y5 := cell_at (j := 5) hkl rfl
          have y6 := cell_at (j := 6) hkl rfl
          have y7 := cell_at (j := 7) hkl rfl
          have o2 := cell_at (j := 2) kg rfl
          clear kg hNG2 hGt hms hkl hu1 HH HM2' KL KG HM02 HMB x0 x1 x2 x3 x4 x5 x6 x7
          go_wp2_with (at_builtin; refine wpL_appendN (us := [.int .i64 3, .string ⟨#[]⟩, .slice none 0 0, .int .i64 top, .int .i64 t1k, .string t1, .int .i64 t2k, .string t2]) rfl (.tmp 49) (.tmp 51) 36 rfl tiL rfl HOL.out rfl rfl rfl (by omega) (by unfold maxLen; omega) ?_; intro a4 c4 w4 hO4 hG4 _
                       have hgg := hG4.mod.at HGOO.out (fun e => (HNG2.out.la _ e).2.2 rfl)
                       have z2 := cell_at (j := 2) hgg rfl
                       have fz : w4.frozen? ⟨go, 2, none⟩ = false := frozen_at hgg
                       have HNF := Lib.hid (hNF.out.push (x := ⟨3, ⟨emptyB, []⟩, top, ⟨t1k, t1⟩, ⟨t2k, t2⟩⟩) (t := Sl.nil) (v := .slice a4 (k + 1) c4) HGT.out ⟨[], Mine.Own.nil _ _ _, trivial⟩ (fun b hb => by cases hb) (by decide) hO4 hG4)
                       have HP := Lib.hid (HNG2.out.push (t := ⟨3, ⟨emptyB, []⟩, top, ⟨t1k, t1⟩, ⟨t2k, t2⟩⟩) (sv := .slice none 0 0) (Mod.refl _ _) (TsF.empty _ _ _ _) (fun b e => by subst e; exact HMU.out.lt) hO4 hG4)
                       have HMP := Lib.hid (HMU.out.mod hG4.mod (fun e => (HNG2.out.la _ e).2.1 rfl))
                       have HP4 := Lib.hid (HPU.out.mod hG4.mod (fun e => by have := (HNG2.out.la _ e).1; omega))
                       clear hO4 hG4 hgg)
          have HMF := Lib.hid (HMP.out.mod ((Mod.refl (fun b => b = go) w4).setCell (p := ⟨go, 2, none⟩) (fun _ => rfl) (.slice a4 (k + 1) c4)) (fun e => (HNG2.out.nb B rfl).2 e))
          have HPF := Lib.hid (HP4.out.mod ((Mod.refl (fun b => b = go) w4).setCell (p := ⟨go, 2, none⟩) (fun _ => rfl) (.slice a4 (k + 1) c4)) (fun e => hgo3 e.symm))
          clear z2 fz y0 y1 y2 y3 y4 y5 y6 y7
          go_roundw
          case rel => exact ⟨k + 1, a4, c4, _, by go_num, hlt, by rw [HST.out]; exact HMF, HP, by rw [HST.out]; exact Lib.hid (by rw [List.map_append, hxs.out]; rfl), HPF, HNF⟩
          case measure => simp [intOf]; omega
        · have hne : (tk == 3) = false := by simpa using h3
          have hfew : tts.length ≤ 64 ∧ ∀ t ∈ tts, 1 ≤ t.kind ∧ t.kind ≤ 7 ∧ t.text.size < 2 ^ 30 := by
            rcases okLm hmay with ⟨_, ha⟩ | ⟨_, ha⟩ | ⟨h3', _⟩
            · exact ⟨ha.few, fun t ht => okTm_small (ha.all t ht)⟩
            · exact ⟨ha.few, fun t ht => okTm_small (ha.all t ht)⟩
            · exact absurd h3' h3
          obtain ⟨ka, kc, hsk, _⟩ := HTS.out
          try simp only at hsk
          subst hsk
          have hmb : Mod (fun _ => False) wr (wr.alloc (.cells #[.int .i64 tk, .string tp, .slice ka tts.length kc, .int .i64 top, .int .i64 ll1, .string ll2, .int .i64 lr1, .string lr2] 44)) := (Mod.refl _ wr).alloc _
          have HA1 := Lib.hid (ratom_any tp tts _ N B w _ HTS.out (HMW.out.trans hmb) (by omega) hB3 hfew.2 (by have := hfew.1; omega) (hMp.out.mod hmb id) (hPr.out.mod0 hmb))
          have hlb := heap_alloc_new wr (.cells #[.int .i64 tk, .string tp, .slice ka tts.length kc, .int .i64 top, .int .i64 ll1, .string ll2, .int .i64 lr1, .string lr2] 44)
          have HLB := Lib.hid hlb; have HMB := Lib.hid hmb; have HFEW := Lib.hid hfew.1
          clear hlb hmb hfew
          obtain ⟨ts', hts'⟩ : ∃ ts', ts' = (nmTs N tts).1 := ⟨_, rfl⟩
          obtain ⟨N2, hN2⟩ : ∃ N2, N2 = (nmTs N tts).2 := ⟨_, rfl⟩
          have htl : ts'.length = tts.length := by rw [hts']; exact nmTs_len _ _
          have hlm : nmLm N ⟨tk, ⟨tp, tts⟩, top, ⟨ll1, ll2⟩, ⟨lr1, lr2⟩⟩ = (⟨tk, ⟨tp, ts'⟩, top, ⟨ll1, ll2⟩, ⟨lr1, lr2⟩⟩, N2) := by
            unfold nmLm
            rw [if_neg h3]
            simp only
            rw [← hts', ← hN2]
          rw [hlm] at HST
          rw [← hts', ← hN2] at HA1
          clear hts' hN2 hlm
          go_wp2_with fail
          refine HA1.out.mono ?_
          rintro e v1 ⟨s', rfl, hT1, hm1, hM1, ⟨ta1, tn1, tc1⟩, hte1, htn1, htP1, htF1⟩
          have hT1' := hT1.mono (G' := fun b => wr.heap.size + 1 ≤ b) (fun b _ g => by have := g; simp at this; omega)
          have HT1 := Lib.hid hT1'
          obtain ⟨ka', kc', hs', _⟩ := hT1
          rw [htl] at hs'
          subst hs'
          obtain ⟨rfl, rfl, rfl⟩ : ka' = ta1 ∧ tts.length = tn1 ∧ kc' = tc1 := by cases hte1; exact ⟨rfl, rfl, rfl⟩
          have HP1 := Lib.hid (And.intro htP1 htF1)
          clear hT1' hte1 htn1 htP1 htF1
          have hbB : wr.heap.size ≠ B := by omega
          have kl := hM1.at HLB.out hbB
          have hM01 : Mod (fun b => b = B) wr v1 := (HMB.out.mono (T := fun b => b = B) (fun _ _ h => h.elim)).trans hM1
          have kg := hM01.at HGO.out (by omega)
          have y0 := cell_at (j := 0) kl rfl
          have y1 := cell_at (j := 1) kl rfl
          have y2 := cell_at (j := 2) kl rfl
          have y3 := cell_at (j := 3) kl rfl
          have y4 := cell_at (j := 4) kl rfl
          have y5 := cell_at (j := 5) kl rfl
          have y6 := cell_at (j := 6) kl rfl
          have y7 := cell_at (j := 7) kl rfl
          have f1 : v1.frozen? ⟨wr.heap.size, 1, none⟩ = false := frozen_at kl
          have f2 : v1.frozen? ⟨wr.heap.size, 2, none⟩ = false := frozen_at kl
          have o2 := cell_at (j := 2) kg rfl
          have hms : Mod (fun b => b = wr.heap.size) v1 ((v1.setCell ⟨wr.heap.size, 1, none⟩ (.string tp)).setCell ⟨wr.heap.size, 2, none⟩ (.slice ka' tts.length kc')) := (((Mod.refl (fun b => b = wr.heap.size) v1).setCell (p := ⟨wr.heap.size, 1, none⟩) (fun _ => rfl) (.string tp)).setCell (p := ⟨wr.heap.size, 2, none⟩) (fun _ => rfl) (.slice ka' tts.length kc'))
          have hk0 : (v1.setCell ⟨wr.heap.size, 1, none⟩ (.string tp)).heap[wr.heap.size]? = some (.cells #[.int .i64 tk, .string tp, .slice ka tts.length kc, .int .i64 top, .int .i64 ll1, .string ll2, .int .i64 lr1, .string lr2] 44 (0, 0)) := heap_setCell_at (j := 1) (.string tp) kl
          have hk1 : ((v1.setCell ⟨wr.heap.size, 1, none⟩ (.string tp)).setCell ⟨wr.heap.size, 2, none⟩ (.slice ka' tts.length kc')).heap[wr.heap.size]? = some (.cells #[.int .i64 tk, .string tp, .slice ka' tts.length kc', .int .i64 top, .int .i64 ll1, .string ll2, .int .i64 lr1, .string lr2] 44 (0, 0)) := heap_setCell_at (j := 2) (.slice ka' tts.length kc') hk0
          have hGt : Mod (fun b => b = B) wr ((v1.setCell ⟨wr.heap.size, 1, none⟩ (.string tp)).setCell ⟨wr.heap.size, 2, none⟩ (.slice ka' tts.length kc')) := hM01.step hms (fun i hi e => by omega)
          have hNG2 := hNG.out.named (NB' := fun b => b = B) hGt (fun b hb e => e) (fun b e => hNG.out.nb b e)
          have hTF := HT1.out.step hms (G' := Gd (w.heap.size + 2) (fun b => b = B) al go) (fun b hb g e => by have h1 : wr.heap.size + 1 ≤ b := g; omega) (fun b hb g => by
            have h2 := hNG.out.lgo
            have h1 : wr.heap.size + 1 ≤ b := g
            refine ⟨by omega, by omega, fun e => ?_, by omega⟩
            have := hNG.out.lits.lt b e; omega)
          have HNG2 := Lib.hid hNG2; have HTF := Lib.hid hTF
          have HGT := Lib.hid hGt
          have HTP : Hid ((tE ⟨ka', tts.length, kc'⟩).P ((v1.setCell ⟨wr.heap.size, 1, none⟩ (.string tp)).setCell ⟨wr.heap.size, 2, none⟩ (.slice ka' tts.length kc')) ∧ ∀ b, blk ka' = some b → wr.heap.size ≤ b) := Lib.hid ⟨(tE ⟨ka', tts.length, kc'⟩).st _ _ _ HP1.out.1 hms (fun b hb e => by
            have := HP1.out.2 b hb
            simp at this
            omega), fun b hb => by
            have := HP1.out.2 b hb
            simp at this
            omega⟩
          clear HP1
          have HMU := Lib.hid (hm1.mod hms (by omega)); have HPU := Lib.hid (hPr.out.mod hGt (fun e => hB3 e.symm))
          have hlo3 : 0 < w.heap.size := HPW.out.lt
          have HOL := Lib.hid hNG2.lits
          have HGOO := Lib.hid hNG2.out
          clear kl kg hms hGt hNG2 hTF hm1 hM1 hM01 hk0 hk1 HA1 HLB HMB HT1 x0 x1 x2 x3 x4 x5 x6 x7
          go_wp2_with (at_builtin; refine wpL_appendN (us := [.int .i64 tk, .string tp, .slice ka' tts.length kc', .int .i64 top, .int .i64 ll1, .string ll2, .int .i64 lr1, .string lr2]) rfl (.tmp 49) (.tmp 51) 36 rfl tiL rfl HOL.out rfl rfl rfl (by omega) (by unfold maxLen; omega) ?_; intro a4 c4 w4 hO4 hG4 _
                       have hgg := hG4.mod.at HGOO.out (fun e => (HNG2.out.la _ e).2.2 rfl)
                       have z2 := cell_at (j := 2) hgg rfl
                       have fz : w4.frozen? ⟨go, 2, none⟩ = false := frozen_at hgg
                       have HNF := Lib.hid (hNF.out.push (x := ⟨tk, ⟨tp, ts'⟩, top, ⟨ll1, ll2⟩, ⟨lr1, lr2⟩⟩) (t := ⟨ka', tts.length, kc'⟩) (v := .slice a4 (k + 1) c4) HGT.out HTP.out.1 HTP.out.2 HFEW.out hO4 hG4)
                       have HP := Lib.hid (HNG2.out.push (t := ⟨tk, ⟨tp, ts'⟩, top, ⟨ll1, ll2⟩, ⟨lr1, lr2⟩⟩) (sv := .slice ka' tts.length kc') (Mod.refl _ _) HTF.out (fun b e => by subst e; exact HMU.out.lt) hO4 hG4)
                       have HMP := Lib.hid (HMU.out.mod hG4.mod (fun e => (HNG2.out.la _ e).2.1 rfl))
                       have HP4 := Lib.hid (HPU.out.mod hG4.mod (fun e => by have := (HNG2.out.la _ e).1; omega))
                       clear hO4 hG4 hgg)
          have HMF := Lib.hid (HMP.out.mod ((Mod.refl (fun b => b = go) w4).setCell (p := ⟨go, 2, none⟩) (fun _ => rfl) (.slice a4 (k + 1) c4)) (fun e => (HNG2.out.nb B rfl).2 e))
          have HPF := Lib.hid (HP4.out.mod ((Mod.refl (fun b => b = go) w4).setCell (p := ⟨go, 2, none⟩) (fun _ => rfl) (.slice a4 (k + 1) c4)) (fun e => hgo3 e.symm))
          clear z2 fz y0 y1 y2 y3 y4 y5 y6 y7
          go_roundw
          case rel => exact ⟨k + 1, a4, c4, _, by go_num, hlt, by rw [HST.out]; exact HMF, HP, by rw [HST.out]; exact Lib.hid (by rw [List.map_append, hxs.out]; rfl), HPF, HNF⟩
          case measure => simp [intOf]; omega
      · obtain rfl : k = ls.length := by omega
        rw [List.take_length] at hMp hxs
        have o0 := cell_at (j := 0) hgoo rfl
        have o1 := cell_at (j := 1) hgoo rfl
        have o2 := cell_at (j := 2) hgoo rfl
        have r0 := cell_at (j := 0) q1 rfl
        have r1 := cell_at (j := 1) q1 rfl
        have r2 := cell_at (j := 2) q1 rfl
        have g0 : wr.frozen? ⟨w.heap.size + 1, 0, none⟩ = false := frozen_at q1
        have g1 : wr.frozen? ⟨w.heap.size + 1, 1, none⟩ = false := frozen_at q1
        have g2 : wr.frozen? ⟨w.heap.size + 1, 2, none⟩ = false := frozen_at q1
        have Q1 := Lib.hid q1; have HMW := Lib.hid hMw
        clear q0 q1 hgoo hMw
        go_wp2_with fail
        have hms : Mod (fun b => b = w.heap.size + 1) wr (((wr.setCell ⟨w.heap.size + 1, 0, none⟩ (.string pr)).setCell ⟨w.heap.size + 1, 1, none⟩ (.slice sha hts.length shc)).setCell ⟨w.heap.size + 1, 2, none⟩ (.slice al ls.length cl)) :=
          (((Mod.refl (fun b => b = w.heap.size + 1) wr).setCell (p := ⟨w.heap.size + 1, 0, none⟩) (fun _ => rfl) _).setCell (p := ⟨w.heap.size + 1, 1, none⟩) (fun _ => rfl) _).setCell (p := ⟨w.heap.size + 1, 2, none⟩) (fun _ => rfl) _
        have hb2 := heap_setCell_at (j := 2) (.slice al ls.length cl) (heap_setCell_at (j := 1) (.slice sha hts.length shc) (heap_setCell_at (j := 0) (.string pr) Q1.out))
        have z0 := cell_at (j := 0) (u := .string pr) hb2 rfl
        have z1 := cell_at (j := 1) (u := .slice sha hts.length shc) hb2 rfl
        have z2 := cell_at (j := 2) (u := .slice al ls.length cl) hb2 rfl
        generalize (((wr.setCell ⟨w.heap.size + 1, 0, none⟩ (.string pr)).setCell ⟨w.heap.size + 1, 1, none⟩ (.slice sha hts.length shc)).setCell ⟨w.heap.size + 1, 2, none⟩ (.slice al ls.length cl)) = W at *
        refine bodyPost_ret (v := .tuple #[.agg #[.string pr, .slice sha hts.length shc, .slice al ls.length cl], .int .i64 0]) (by simp [results, Tryd.results8, go_sem, z0, z1, z2]) rfl ?_
        have hnr : nmR0 ⟨⟨pr, hts⟩, ls⟩ = ⟨⟨pr, h'⟩, (nmLs N0 ls).1⟩ := by
          unfold nmR0
          rw [if_pos HMR.out.symm]
          unfold nmRm
          simp only
          rw [← HHN.out.1, ← HHN.out.2]
        unfold NormRs
        rw [hnr, ← HMR.out]
        have hfin := hNG.out
        have hll := nmLs_len N0 ls
        rw [← hll] at hfin
        have hF := hfin.fin (l0 := w.heap.size + 2) (Nat.le_refl _) hxs.out
        rw [hll] at hF
        have hF2 := hF.step hms (fun x hx h e => by omega)
        have hNFm : NF (w.heap.size + 2) W B go ⟨sha, hts.length, shc⟩ al ls.length cl xs := by
          obtain ⟨ats, g1, g2, g3⟩ := hNF.out
          exact ⟨ats, g1, g2, g3.mod hms (fun i hi b hb e => by have := g3.lo i hi b hb; omega)⟩
        obtain ⟨d, e1, e2, hd⟩ := hNFm.fin HHL.out (by omega)
        exact ⟨_, _, rfl, ⟨hF2.1.mono (fun b _ g => by omega), hF2.2.step (Mod.refl (fun _ => False) W) (fun _ _ _ => id) (fun b _ g => by omega)⟩, HMW.out.step hms (fun i hi e => by omega), d, by rw [← e1]; rfl, by rw [e2]; rfl, hd.weak (by omega)⟩
  · have hmb : (m != 0) = true := by simpa using hm
    have hnr : nmR0 ⟨⟨pr, hts⟩, ls⟩ = emR := by unfold nmR0; rw [if_neg (by rw [← HMR.out]; exact hm)]
    have HNR := Lib.hid hnr
    clear hm hnr c0 c1
    go_wp2_with fail
    have hm2 : Mod (fun k => k = w.heap.size + 1) w1 (((w1.setCell ⟨w.heap.size + 1, 0, none⟩ (.string ⟨#[]⟩)).setCell ⟨w.heap.size + 1, 1, none⟩ (.slice none 0 0)).setCell ⟨w.heap.size + 1, 2, none⟩ (.slice none 0 0)) :=
      (((Mod.refl (fun k => k = w.heap.size + 1) w1).setCell (p := ⟨w.heap.size + 1, 0, none⟩) (fun _ => rfl) _).setCell (p := ⟨w.heap.size + 1, 1, none⟩) (fun _ => rfl) _).setCell (p := ⟨w.heap.size + 1, 2, none⟩) (fun _ => rfl) _
    have hb2 := heap_setCell_at (j := 2) (.slice none 0 0) (heap_setCell_at (j := 1) (.slice none 0 0) (heap_setCell_at (j := 0) (.string ⟨#[]⟩) K1.out))
    have z0 := cell_at (j := 0) (u := .string ⟨#[]⟩) hb2 rfl
    have z1 := cell_at (j := 1) (u := .slice none 0 0) hb2 rfl
    have z2 := cell_at (j := 2) (u := .slice none 0 0) hb2 rfl
    generalize (((w1.setCell ⟨w.heap.size + 1, 0, none⟩ (.string ⟨#[]⟩)).setCell ⟨w.heap.size + 1, 1, none⟩ (.slice none 0 0)).setCell ⟨w.heap.size + 1, 2, none⟩ (.slice none 0 0)) = W at *
    refine bodyPost_ret (v := .tuple #[.agg #[.string ⟨#[]⟩, .slice none 0 0, .slice none 0 0], .int .i64 m]) (by simp [results, Tryd.results8, go_sem, z0, z1, z2]) rfl ?_
    unfold NormRs
    rw [HNR.out, ← HMR.out]
    have hMf : Mod (fun _ => False) w W := HM.out.step hm2 (fun i hi e => by omega)
    exact ⟨_, _, rfl, RmF.em _ _, hMf, ⟨Sl.nil, Sl.nil, []⟩, rfl, rfl, RuO.em hMf.size⟩
theorem Normal_any (r : Rm) (s b : Value) (w : World) (hs : SmallRm r) (ht : TsAt w s r.head.terms) (hl : LsAt w b r.body) (hpw : Pow w) :
    Calls Tryd.prog 8 #[rmV r s b] w (NormRes r w) :=
  (NormalO_any r s b w hs ht hl hpw).mono fun e w' ⟨s', b', h1, h2, h3, _⟩ => ⟨s', b', h1, h2, h3⟩
end Go.Proofs.YtphgglnkdfndiaaDoor
