/-
  schema.arities.rule, walked.
-/
import Derived.Test.YteecbbnpgmceiaaGreatDoorUsesG
import Derived.Test.YteecbbnpgmceiaaGreatDoorOrd
import Derived.Test.YteecbbnpgmceiaaGreatDoorData
namespace Go.Proofs.YteecbbnpgmceiaaGreatDoor
open Go Go.RowKit Go.Mine
set_option linter.unusedVariables false
set_option maxHeartbeats 4000000
set_option maxRecDepth 100000

def SmallU (r : Rm) : Prop := (r.head.pred.size ≤ maxLen ∧ r.head.terms.length < 2 ^ 40) ∧ r.body.length < 2 ^ 30 ∧ ∀ l ∈ r.body, l.atom.pred.size ≤ maxLen ∧ l.atom.terms.length < 2 ^ 40
theorem uses_ok {r : Rm} (h : SmallU r) : ∀ x ∈ usesL r, x.1.size ≤ maxLen ∧ x.2 < 2 ^ 40 := by
  intro x hx
  rcases List.mem_cons.1 hx with rfl | hx
  · exact h.1
  · obtain ⟨l, hl, rfl⟩ := List.mem_map.1 hx
    exact h.2.2 l (List.mem_filter.1 hl).1
def usesU (r : Rm) (h : SmallU r) : List UU := (usesL r).pmap (fun x hx => ⟨x, hx⟩) (uses_ok h)
theorem usesU_val (r : Rm) (h : SmallU r) : (usesU r h).map (·.1) = usesL r := by
  unfold usesU
  rw [List.map_pmap]
  simp
theorem usesU_len (r : Rm) (h : SmallU r) : (usesU r h).length ≤ r.body.length + 1 := by
  unfold usesU
  rw [List.length_pmap]
  unfold usesL
  rw [List.length_cons, List.length_map]
  have := List.length_filter_le (fun l : Lm => decide (l.kind = 1 ∨ l.kind = 2)) r.body
  omega
theorem notedL_snoc (l : Ar) (xs : Ar) (x : ByteArray × Nat) : notedL l (xs ++ [x]) = (notedL l xs).bind fun L => if fitsL L x = true then some (noteL L x) else none := by
  induction xs generalizing l with
  | nil => rfl
  | cons y xs ih =>
    rw [List.cons_append, notedL, notedL]
    by_cases h : fitsL l y = true
    · rw [if_pos h, if_pos h, ih]
    · rw [if_neg h, if_neg h]; rfl
theorem notedL_app_none {l xs ys : Ar} (h : notedL l xs = none) : notedL l (xs ++ ys) = none := by
  induction xs generalizing l with
  | nil => cases h
  | cons y xs ih =>
    rw [List.cons_append, notedL]
    rw [notedL] at h
    by_cases hf : fitsL l y = true
    · rw [if_pos hf] at *; exact ih h
    · rw [if_neg hf]
theorem noteL_len (l : Ar) (x : ByteArray × Nat) : (noteL l x).length ≤ l.length + 1 := by
  unfold noteL
  split
  · omega
  · simp
/-- between two rounds -/
def AuI (w : World) (B : Nat) (l : Ar) (pre : List UU) (W : World) : Prop :=
  (∃ L, notedL l (pre.map (·.1)) = some L ∧ ArMap W B L ∧ L.length ≤ l.length + pre.length) ∧ Boxed W w.heap.size 124 (.map (some B)) ∧ Boxed W (w.heap.size + 1 + 1) 4 (.bool false) ∧ Mod (fun b => b = B) w W ∧ w.heap.size + 4 ≤ W.heap.size
/-- where it has left -/
def AuX (w : World) (B : Nat) (l : Ar) (c : Code) (pre : List UU) (W : World) : Prop :=
  c = .ret ∧ notedL l (pre.map (·.1)) = none ∧ Boxed W (w.heap.size + 1 + 1) 4 (.bool false) ∧ Mod (fun b => b = B) w W
theorem auI_own (w : World) (B : Nat) (l : Ar) (B0 : Nat) (hB : w.heap.size ≤ B0) (hl : B < w.heap.size) : OwnFrom B0 (AuI w B l) := by
  rintro pre W W' row ⟨⟨L, h1, h2, h3⟩, h4, h5, h6, h7⟩ hg hr
  have hr2 := fun r e => (hr r e).2
  exact ⟨⟨L, h1, h2.mod (Mod.ofGrown hg) (fun e => by have := (hr B e).1; omega), h3⟩, bx_turned h4 hg hr2, bx_turned h5 hg hr2, Mod.turned h6 hg (fun r e => Nat.le_trans hB (hr r e).1), Nat.le_trans h7 hg.size⟩
theorem auX_own (w : World) (B : Nat) (l : Ar) (c : Code) (B0 : Nat) (hB : w.heap.size ≤ B0) : OwnFrom B0 (AuX w B l c) := by
  rintro pre W W' row ⟨h1, h2, h5, h6⟩ hg hr
  have hr2 := fun r e => (hr r e).2
  exact ⟨h1, h2, bx_turned h5 hg hr2, Mod.turned h6 hg (fun r e => Nat.le_trans hB (hr r e).1)⟩

attribute [local go_sem] Oper.semAt_some
@[local go_sem, local simp] theorem wide_fn4 (f : FuncId) : Fence.wide.fn f = True := rfl
@[local go_sem, local simp] theorem wide_depth4 : Fence.wide.depth = none := rfl
@[local go_sem, local simp] theorem in_fn5 (l : Nat) (f : FuncId) : (Fence.wide.inRound l).fn f = True := rfl
@[local go_sem, local simp] theorem in_depth5 (l : Nat) : (Fence.wide.inRound l).depth = none := rfl

theorem arule_any (B : Nat) (l : Ar) (r : Rm) (s b : Value) (w : World) (hm : ArMap w B l) (ht : TsAt w s r.head.terms) (hl : LsAt w b r.body) (hu : SmallU r) (hln : l.length ≤ 2 ^ 41) :
    Calls Tryz.prog 66 #[.map (some B), rmV r s b] w fun e w' => ((∃ L, notedL l (usesL r) = some L ∧ e = .returned (.bool true) ∧ ArMap w' B L) ∨ (notedL l (usesL r) = none ∧ e = .returned (.bool false))) ∧ Mod (fun b => b = B) w w' := by
  have hval := usesU_val r hu
  have hlen := usesU_len r hu
  generalize usesU r hu = items at *
  obtain ⟨⟨pr, hts⟩, ls⟩ := r
  unfold rmV
  simp only at *
  obtain ⟨sa, sc, rfl, _⟩ := ht
  obtain ⟨ba, bc, xs, rfl, hx, hr, hxt⟩ := hl
  have hBl := hm.lt
  have hsl : ∀ x ∈ xs, ∃ a c, x.2 = .slice a x.1.atom.terms.length c := fun x hx => by obtain ⟨a, c, e, _⟩ := hxt x hx; exact ⟨a, c, e⟩
  have hbq : lmsC xs ≠ [] → ∀ q, blk ba = some q → q < w.heap.size ∧ q ≠ B := fun hne q hq => by
    cases hl0 : lmsC xs with
    | nil => exact absurd hl0 hne
    | cons u us =>
      obtain ⟨b', o, rfl, hc⟩ := hr 0 u (by rw [hl0]; rfl)
      cases hq
      exact ⟨World.block_lt_of_cell? w _ hc, fun e => by subst e; rw [hm.nocell] at hc; cases hc⟩
  refine (callsIn_wide (n := 3)).1 ?_
  refine callsIn_of_wp_marks Tryz.func66 rfl trivial ?_ rfl
  simp only [Tryz.ntmps66, List.size_toArray, List.length_cons, List.length_nil, Nat.reduceAdd, Nat.reduceSub, Array.replicate_succ, Array.replicate_zero, List.push_toArray, List.append_toArray, List.nil_append, List.cons_append]
  gi_wp2_with fail
  have b2 := ((Boxed.new w 124 (.map (some B))).alloc (.cells #[.string pr, .slice sa hts.length sc, .slice ba ls.length bc] 46)).alloc (.cells #[.bool false] 4)
  have b4 := Boxed.new ((w.alloc (.cells #[.map (some B)] 124)).alloc (.cells #[.string pr, .slice sa hts.length sc, .slice ba ls.length bc] 46)) 4 (.bool false)
  simp only [World.size_alloc] at b4
  have hm3 : Mod (fun _ => False) w (((w.alloc (.cells #[.map (some B)] 124)).alloc (.cells #[.string pr, .slice sa hts.length sc, .slice ba ls.length bc] 46)).alloc (.cells #[.bool false] 4)) := (((Mod.refl _ w).alloc _).alloc _).alloc _
  have hz3 : (((w.alloc (.cells #[.map (some B)] 124)).alloc (.cells #[.string pr, .slice sa hts.length sc, .slice ba ls.length bc] 46)).alloc (.cells #[.bool false] 4)).heap.size = w.heap.size + 3 := by simp
  obtain ⟨w3, hw3⟩ : ∃ v, v = (((w.alloc (.cells #[.map (some B)] 124)).alloc (.cells #[.string pr, .slice sa hts.length sc, .slice ba ls.length bc] 46)).alloc (.cells #[.bool false] 4)) := ⟨_, rfl⟩
  rw [← hw3] at b2 b4 hm3 hz3 ⊢
  clear hw3
  have hu5 := uses_any ⟨⟨pr, hts⟩, ls⟩ (.slice sa hts.length sc) (.slice ba ls.length bc) w3
  unfold rmV at hu5
  simp only at hu5
  refine (callsIn_wide.2 hu5).mono ?_
  rintro e w4 ⟨rfl, hw4⟩
  have hm4 : Mod (fun _ => False) w w4 := by rw [hw4]; exact hm3.alloc _
  have hz4 : w4.heap.size = w.heap.size + 4 := by rw [hw4, World.size_alloc, hz3]
  have hb4 : w4.heap[w.heap.size + 3]? = some (.cells #[.string pr, .slice sa hts.length sc, .slice ba ls.length bc] 46 (0, 0)) := by rw [hw4, ← hz3]; exact heap_alloc_new w3 _
  have hI0 : AuI w B l [] w4 := ⟨⟨l, rfl, hm.mod hm4 id, by simp⟩, by rw [hw4]; exact b2.alloc _, by rw [hw4]; exact b4.alloc _, hm4.mono (fun _ _ h => h.elim), by omega⟩
  have hSeq := uses_stops 2 (w.heap.size + 3) B pr hts.length sa sc ls ba bc xs items w4 hval (by omega) hb4 hx (hr.mod hm4 (fun _ _ => id)) (fun hne q hq => by have := hbq hne q hq; omega) hsl hu.2.1
  have hKb : ∀ (W : World) (l : Nat) (o o' : Obj), w4.heap.size ≤ l → W.heap[l]? = some o → o.isCells = false → o.isWalk = false → KpU w4.heap.size B W (W.putObj l o') := fun W l o o' hl _ _ _ => KpU.putObj W l o' hl
  rw [hz3]
  have HI0 := Lib.hid hI0; have HZ := Lib.hid hz4; have HV := Lib.hid hval; have HU := Lib.hid hu; have HLE := Lib.hid hlen; have HBL := Lib.hid hBl
  clear hI0 hm4 hw4 hb4 hu5 b2 b4 hm3 hz3 hz4 hr hxt hsl hbq hx hm hval hu hlen
  gi_wp2_with fail
  refine wpIn_rangeFunc_ownG rfl (by omega) (gf := 159) (lb := #[.pointer (some ⟨w.heap.size + 3, 0, none⟩)]) rfl trivial (enters_of Tryz.func159 (by kernel_rfl) rfl)
    hSeq (fun h k => KpU.trans h k) hKb (Below.refl _ _) (fun _ => rfl) (AuI w B l) (AuX w B l) (auI_own w B l _ (by rw [HZ.out]; omega) HBL.out) (fun c => auX_own w B l c _ (by rw [HZ.out]; omega)) HI0.out
    (fun x => { tmps := #[.map (some B), .agg #[.string pr, .slice sa hts.length sc, .slice ba ls.length bc], .pointer (some ⟨w.heap.size, 0, none⟩), .pointer (some ⟨w.heap.size + 1, 0, none⟩), .pointer (some ⟨w.heap.size + 1 + 1, 0, none⟩), .string x.1.1, .int .i64 x.1.2, .agg #[.string pr, .slice sa hts.length sc, .slice ba ls.length bc], .func (.func 159) #[] #[.pointer (some ⟨w.heap.size + 3, 0, none⟩)], .string x.1.1, .int .i64 x.1.2, undef, undef, undef, undef, undef], defers := [] })
    ?assign ?body ?done ?stop
  case assign =>
    rintro l1 x W K hK
    simp only [encU]
    gi_wp2
    exact hK
  case body =>
    rintro l1 pre x W ⟨⟨L, h1, h2, h3⟩, h4, h5, h6, h7⟩ hlt
    obtain ⟨⟨p, k⟩, hp, hk⟩ := x
    simp only at hp hk ⊢
    have hMB : w.heap.size ≠ B := by have := HBL.out; omega
    have hMB2 : ¬ w.heap.size + 1 + 1 = B := by have := HBL.out; omega
    have c2 := h4.cell
    have hLl : L.length < maxLen := by
      have := HLE.out; have := HU.out.2.1; simp only at this
      unfold maxLen; omega
    have hFI := fits_any B p k L W h2 hp hLl hk
    have hno := notedL_snoc l (pre.map (·.1)) (p, k)
    rw [h1] at hno
    have HNO := Lib.hid hno
    have H4 := Lib.hid h4; have H5 := Lib.hid h5; have H6 := Lib.hid h6
    have hsz : w4.heap.size ≤ W.heap.size := by rw [HZ.out]; exact h7
    clear h1 h2 h4 h5 h6 hSeq hKb hno hlt
    gi_wp2_with fail
    refine CallsIn.mono (CallsIn.inRound l1 (callsIn_wide.2 hFI)) ?_
    rintro e w5 ⟨rfl, hA5, hg5⟩
    have hB4 : ∀ j, some B = some j → j < w4.heap.size := fun j e => by cases e; have := HBL.out; rw [HZ.out]; omega
    have hm5 := grown_mod hg5
    by_cases hf : fitsL L (p, k) = true
    · rw [hf]
      have hm6 : (pre ++ [(⟨(p, k), hp, hk⟩ : UU)]).map (·.1) = pre.map (·.1) ++ [(p, k)] := by simp
      have hno2 := HNO.out
      rw [Option.bind_some, if_pos hf] at hno2
      gi_wp2
      exact ⟨KeepsFrom.of_grownBy hg5 hB4, KpU.ofMod hm5 hsz (fun _ _ e => e), ⟨noteL L (p, k), by rw [hm6]; exact hno2, hA5, by have := noteL_len L (p, k); simp; omega⟩, bx_mod H4.out hm5 hMB, bx_mod H5.out hm5 hMB2, H6.out.trans hm5, Nat.le_trans h7 hg5.size⟩
    · have hff : fitsL L (p, k) = false := by simpa using hf
      rw [hff]
      have hm6 : (pre ++ [(⟨(p, k), hp, hk⟩ : UU)]).map (·.1) = pre.map (·.1) ++ [(p, k)] := by simp
      have hno2 := HNO.out
      rw [Option.bind_some, if_neg hf] at hno2
      have hb5 := bx_mod H5.out hm5 hMB2
      have c5 := hb5.cell
      have f5 := hb5.frozen
      have HB5 := Lib.hid hb5
      clear hb5
      gi_wp2
      have hs5 : Mod (fun k => k = w.heap.size + 1 + 1) w5 (w5.setCell ⟨w.heap.size + 1 + 1, 0, none⟩ (.bool false)) := (Mod.refl (fun k => k = w.heap.size + 1 + 1) w5).setCell (p := ⟨w.heap.size + 1 + 1, 0, none⟩) (fun _ => rfl) _
      refine ⟨(KeepsFrom.of_grownBy hg5 hB4).trans (keepsFrom_mod hs5 ?_), rfl, by rw [hm6]; exact hno2, bx_put HB5.out _, (H6.out.trans hm5).step hs5 (fun i hi e => by omega)⟩
      rintro k rfl o ho
      have := HB5.out; unfold Boxed at this; rw [this] at ho; cases ho; rfl
  case done =>
    rintro D ys W hD rfl ⟨⟨L, h1, h2, h3⟩, h4, h5, h6, h7⟩ hK
    have c5 := h5.cell
    have f5 := h5.frozen
    have H1 := Lib.hid h1; have H2 := Lib.hid h2; have H5 := Lib.hid h5; have H6 := Lib.hid h6; have HK := Lib.hid hK; have HD := Lib.hid hD
    clear h1 h2 h4 h5 h6 hK hSeq hKb hD
    gi_wp2
    have hD := HD.out
    rw [HZ.out] at hD
    have hBL := HBL.out
    have hs5 : Mod (fun k => k = w.heap.size + 1 + 1) W (W.setCell ⟨w.heap.size + 1 + 1, 0, none⟩ (.bool true)) := (Mod.refl (fun k => k = w.heap.size + 1 + 1) W).setCell (p := ⟨w.heap.size + 1 + 1, 0, none⟩) (fun _ => rfl) _
    have hb5 := bx_put H5.out (.bool true)
    generalize W.setCell ⟨w.heap.size + 1 + 1, 0, none⟩ (.bool true) = W' at *
    have hK' := hs5.at HK.out (by omega)
    have hG := Mod.ofGrown (grownBy_putObj' W' D (.deferred none))
    refine ⟨by simp, .inl ⟨_, _, rfl, run_takeDeferred hK', ?_⟩⟩
    have c6 := (bx_mod hb5 hG (fun e => by cases e; omega)).cell
    refine ⟨.bool true, ?_, .inl ⟨L, by rw [← HV.out]; exact H1.out, rfl, (H2.out.mod hs5 (by omega)).mod hG (fun e => by cases e; omega)⟩, (H6.out.step hs5 (fun i hi e => by omega)).step hG (fun i hi e => by cases e; omega)⟩
    simp [results, Tryz.f66, go_sem, c6]
  case stop =>
    rintro D cc pre W hD hpre ⟨rfl, h1, h5, h6⟩ hK
    have H1 := Lib.hid h1; have H5 := Lib.hid h5; have H6 := Lib.hid h6; have HK := Lib.hid hK; have HD := Lib.hid hD; have HPR := Lib.hid hpre
    clear h1 h5 h6 hK hSeq hKb hD hpre
    gi_wp2
    have hD := HD.out
    rw [HZ.out] at hD
    have hG := Mod.ofGrown (grownBy_putObj' W D (.deferred none))
    refine ⟨by simp, .inl ⟨_, _, rfl, run_takeDeferred HK.out, ?_⟩⟩
    have c6 := (bx_mod H5.out hG (fun e => by cases e; omega)).cell
    refine ⟨.bool false, ?_, .inr ⟨?_, rfl⟩, H6.out.step hG (fun i hi e => by cases e; omega)⟩
    · simp [results, Tryz.f66, go_sem, c6]
    · obtain ⟨ys, hys⟩ := HPR.out
      rw [← HV.out, ← hys, List.map_append]
      exact notedL_app_none H1.out
end Go.Proofs.YteecbbnpgmceiaaGreatDoor
