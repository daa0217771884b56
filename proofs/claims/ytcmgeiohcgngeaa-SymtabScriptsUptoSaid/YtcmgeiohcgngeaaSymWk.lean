/-
  walk over a table, walked.
-/
import Derived.Test.YtcmgeiohcgngeaaSymTA
namespace Go.Proofs.Ytcmgeiohcgngeaa
open Go Go.RowKit Go.Mine Go.Maps Go.Shelf
set_option linter.unusedVariables false
set_option maxHeartbeats 8000000
set_option maxRecDepth 100000
attribute [local go_sem] Oper.semAt_some
@[local go_sem, local simp] theorem wide_fnY (f : FuncId) : Fence.wide.fn f = True := rfl
@[local go_sem, local simp] theorem wide_depthY : Fence.wide.depth = none := rfl

/-- what walk's rounds speak of -/
structure WkP where
  w : World
  T : Nat
  M : Nat
  B : Nat
  a : Option Addr
  a2 : Option Addr
  l : List ByteArray
  xs : List ByteArray
  ta : Option Addr
  tc : Nat
  kd : Int
  wh : Int
  N : Int
  V : Nat
  E : Nat
  Z : Nat
/-- its boxes -/
structure WkB (P : WkP) (W : World) (nx : Nat) : Prop where
  b3 : W.heap[P.w.heap.size]? = some (.cells #[.pointer (some ⟨P.T, 0, none⟩)] 27 (0, 0))
  b4 : W.heap[P.w.heap.size + 1]? = some (.cells #[.pointer (some ⟨P.M, 0, none⟩)] 29 (0, 0))
  b5 : W.heap[P.w.heap.size + 1 + 1]? = some (.cells #[.int .i64 P.kd, .int .i64 P.wh, .slice P.ta P.xs.length P.tc, .int .i64 P.N] 34 (0, 0))
  b6 : W.heap[P.w.heap.size + 1 + 1 + 1]? = some (.cells #[.bool false] 4 (0, 0))
  bV : W.heap[P.V]? = some (.cells #[.pointer (some ⟨P.T, 0, none⟩)] 27 (0, 0))
  b8 : W.heap[P.E]? = some (.cells #[.int .i64 (P.l.length : Nat)] 3 (0, 0))
  b9 : W.heap[P.E + 1]? = some (.cells #[.int .i64 (nx : Nat)] 3 (0, 0))
structure WkZ (P : WkP) : Prop where
  v1 : P.w.heap.size ≤ P.V
  v2 : P.V < P.Z
  e1 : P.w.heap.size + 4 ≤ P.E
  e2 : P.E + 1 < P.Z
  ve : P.V < P.E
  v4 : P.w.heap.size + 4 ≤ P.V
theorem WkB.mod {P : WkP} {S : Nat → Prop} {W W' : World} {nx : Nat} (h : WkB P W nx) (z : WkZ P) (m : Mod S W W') (hs : ∀ k, P.w.heap.size ≤ k → k < P.Z → ¬ S k) : WkB P W' nx := by
  have h1 := z.v1; have h2 := z.v2; have h3 := z.e1; have h4 := z.e2
  exact ⟨m.at h.b3 (hs _ (by omega) (by omega)), m.at h.b4 (hs _ (by omega) (by omega)), m.at h.b5 (hs _ (by omega) (by omega)), m.at h.b6 (hs _ (by omega) (by omega)), m.at h.bV (hs _ (by omega) (by omega)), m.at h.b8 (hs _ (by omega) (by omega)), m.at h.b9 (hs _ (by omega) (by omega))⟩
/-- the pair as the rounds find it -/
def WkT (P : WkP) (W : World) : Prop :=
  ∃ a' c' a2' c2' l', PrAt W P.T P.M P.B a' c' a2' c2' l' ∧ (l' = P.l ∨ (longT P.xs = false ∧ l' = (putT P.l P.xs).2)) ∧ Mod (PrF P.T P.M P.B P.a P.a2) P.w W ∧ ∀ b, PrF P.T P.M P.B a' a2' b → PrF P.T P.M P.B P.a P.a2 b ∨ P.Z ≤ b
def WkI (P : WkP) (pre : List (Nat × ByteArray)) (W : World) : Prop := WkB P W pre.length ∧ WkT P W
def WkX (P : WkP) (c : Code) (pre : List (Nat × ByteArray)) (W : World) : Prop :=
  c = .ret ∧ ((W.heap[P.w.heap.size + 1 + 1 + 1]? = some (.cells #[.bool false] 4 (0, 0)) ∧ ¬ pre <+: itmT P.l) ∨ (W.heap[P.w.heap.size + 1 + 1 + 1]? = some (.cells #[.bool true] 4 (0, 0)) ∧ WkT P W))
theorem prAt_turned {W W' : World} {row : Option Nat} {T M B : Nat} {a : Option Addr} {c : Nat} {a2 : Option Addr} {c2 : Nat} {l : List ByteArray} (h : PrAt W T M B a c a2 c2 l) (hg : W.grownBy W' row) (hr : ∀ r, row = some r → ∃ o : Obj, W.heap[r]? = some o ∧ o.isCells = false) (hB : ∀ r, row = some r → r ≠ B) : PrAt W' T M B a c a2 c2 l := by
  refine h.mod (Mod.ofGrown hg) fun b hb e => ?_
  rcases hb with (rfl | hb | rfl) | (rfl | hb)
  · exact cells_ne hr h.tb.box e
  · obtain ⟨cur, hc⟩ := Mine.Own.blk_cells h.tb.own b hb
    exact cells_ne hr hc e
  · exact hB _ e rfl
  · exact cells_ne hr h.rb.box e
  · obtain ⟨cur, hc⟩ := Mine.Own.blk_cells h.rb.own b hb
    exact cells_ne hr hc e
theorem wkT_own {P : WkP} (z : WkZ P) (hB : P.B < P.w.heap.size) {W W' : World} {row : Option Nat} (h : WkT P W) (hg : W.grownBy W' row) (hr : ∀ r, row = some r → P.Z ≤ r ∧ ∃ o : Obj, W.heap[r]? = some o ∧ o.isCells = false) : WkT P W' := by
  obtain ⟨a', c', a2', c2', l', hp, hl, hm, hf⟩ := h
  have h1 := z.v1; have h2 := z.v2
  exact ⟨a', c', a2', c2', l', prAt_turned hp hg (fun r e => (hr r e).2) (fun r e => by have := (hr r e).1; omega), hl, Mod.turned hm hg (fun r e => by have := (hr r e).1; omega), hf⟩
theorem wkI_own {P : WkP} (z : WkZ P) (hB : P.B < P.w.heap.size) : OwnFrom P.Z (WkI P) := by
  rintro pre W W' row ⟨hb, ht⟩ hg hr
  exact ⟨hb.mod z (Mod.ofGrown hg) (fun k _ hk e => by have := (hr k e).1; omega), wkT_own z hB ht hg hr⟩
theorem wkX_own {P : WkP} (z : WkZ P) (hB : P.B < P.w.heap.size) (c : Code) : OwnFrom P.Z (WkX P c) := by
  rintro pre W W' row ⟨hc, h⟩ hg hr
  refine ⟨hc, ?_⟩
  have h1 := z.v4; have h2 := z.v2
  rcases h with ⟨hb, hn⟩ | ⟨hb, ht⟩
  · exact .inl ⟨(Mod.ofGrown hg).at hb (fun e => by have := (hr _ e).1; omega), hn⟩
  · exact .inr ⟨(Mod.ofGrown hg).at hb (fun e => by have := (hr _ e).1; omega), wkT_own z hB ht hg hr⟩
theorem own_uniq {w : World} {a : Option Addr} {n c : Nat} {e : TypeId} {xs ys : List Value} (h : Mine.Own w e 1 a n c xs) (k : Mine.Own w e 1 a n c ys) : xs = ys := by
  rcases h.2 with ⟨rfl, h0, _⟩ | ⟨b, cur, rfl, hg, _, _, _, h6⟩
  · have h1 := h.1; have h2 := k.1
    subst h0
    have e1 : xs = [] := List.eq_nil_of_length_eq_zero (by simpa using h1)
    have e2 : ys = [] := List.eq_nil_of_length_eq_zero (by simpa using h2)
    rw [e1, e2]
  · rcases k.2 with ⟨e0, _⟩ | ⟨b2, cur2, e0, hg2, _, _, _, k6⟩
    · cases e0
    · cases e0
      rw [hg] at hg2; cases hg2
      rw [← h6, ← k6]
theorem sts_inj {l m : List ByteArray} (h : sts l = sts m) : l = m := by
  unfold sts at h
  exact List.map_inj_right (fun x y e => by cases e; rfl) |>.1 h
theorem TbAt.uniq {w : World} {T B : Nat} {a : Option Addr} {c : Nat} {l : List ByteArray} {a' : Option Addr} {c' : Nat} {l' : List ByteArray} (h : TbAt w T a c B l) (k : TbAt w T a' c' B l') : a = a' ∧ c = c' ∧ l = l' := by
  have h1 := h.box
  rw [k.box] at h1
  simp only [Option.some.injEq, Obj.cells.injEq, Array.mk.injEq, List.cons.injEq, Value.slice.injEq, and_true] at h1
  obtain ⟨e1, e2, e3⟩ := h1
  subst e1 e3
  have ho := h.own
  rw [← e2] at ho
  exact ⟨rfl, rfl, sts_inj (own_uniq ho k.own)⟩
theorem WkT.mod {P : WkP} (hL : ∀ b, PrF P.T P.M P.B P.a P.a2 b → b < P.w.heap.size) {S : Nat → Prop} {W W' : World} (h : WkT P W) (m : Mod S W W') (hs : ∀ k, S k → P.w.heap.size ≤ k ∧ k < P.Z) : WkT P W' := by
  obtain ⟨a', c', a2', c2', l', hp, hl, hm, hf⟩ := h
  refine ⟨a', c', a2', c2', l', hp.mod m (fun b hb e => ?_), hl, hm.step m (fun i hi e => by have := hs i e; omega), hf⟩
  have h1 := hs b e
  rcases hf b hb with h | h
  · have := hL b h; omega
  · omega
theorem wkT_post {P : WkP} (z : WkZ P) (hB : P.B < P.w.heap.size) {W W' : World} {row : Option Nat} (h : WkT P W) (hg : W.grownBy W' row) (hr : ∀ r, row = some r → P.Z ≤ r ∧ ∃ o : Obj, W.heap[r]? = some o ∧ o.isCells = false) : DPost P.T P.M P.B P.a P.a2 P.l P.xs P.w (.returned (.bool true)) W' := by
  obtain ⟨a', c', a2', c2', l', hp, hl, hm, hf⟩ := wkT_own z hB h hg hr
  have h1 := z.v1; have h2 := z.v2
  exact ⟨rfl, a', c', a2', c2', l', hp, hl, hm, fun b hb => (hf b hb).imp id (fun h => by omega)⟩
theorem wk_keeps {P : WkP} {W W' : World} {a' : Option Addr} {c' : Nat} {a2' : Option Addr} {c2' : Nat} {l' : List ByteArray} (hp : PrAt W P.T P.M P.B a' c' a2' c2' l') (hB : P.B < P.Z) (m : Mod (fun k => PrF P.T P.M P.B a' a2' k ∨ k < P.Z) W W') : KeepsFrom P.Z W W' := by
  refine ⟨m.size, fun k o hk hko ho => m.at hko fun hs => ?_⟩
  rcases hs with ((rfl | e | rfl) | (rfl | e)) | e
  · rw [hp.tb.box] at hko; cases hko; cases ho
  · obtain ⟨cur, hc⟩ := Mine.Own.blk_cells hp.tb.own k e
    rw [hc] at hko; cases hko; cases ho
  · omega
  · rw [hp.rb.box] at hko; cases hko; cases ho
  · obtain ⟨cur, hc⟩ := Mine.Own.blk_cells hp.rb.own k e
    rw [hc] at hko; cases hko; cases ho
  · omega
theorem wk_kp {W W' : World} {T B V : Nat} {a' : Option Addr} {c' : Nat} {l' ln : List ByteArray} {an : Option Addr} {cn : Nat} {S : Nat → Prop} (ht : TbAt W T a' c' B l') (hn : TbAt W' T an cn B ln) (hpre : l' <+: ln) (m : Mod S W W') (hV : ¬ S V) : KpW V T B W W' :=
  ⟨m.size, fun p e => m.at e hV, fun l a c h => by
    obtain ⟨rfl, rfl, rfl⟩ := ht.uniq h
    exact ⟨ln, an, cn, hpre, hn⟩⟩
theorem itm_pre {l : List ByteArray} {pre : List (Nat × ByteArray)} {x : Nat × ByteArray} (hlt : pre.length < l.length) (h : pre ++ [x] <+: itmT l) : x.1 = pre.length ∧ x.2 = l[pre.length] := by
  obtain ⟨r, hr⟩ := h
  have h1 : (itmT l)[pre.length]? = some x := by rw [← hr]; simp
  rw [List.getElem?_eq_getElem (by simpa using hlt), itmT_get hlt] at h1
  cases h1
  exact ⟨rfl, rfl⟩
theorem walk_tb {w : World} {T M B : Nat} {a : Option Addr} {c : Nat} {a2 : Option Addr} {c2 : Nat} {l : List ByteArray} (kd wh N : Int) (ta : Option Addr) (tc : Nat) (xs : List ByteArray) (hp : PrAt w T M B a c a2 c2 l) (hr : Rd w ta (sts xs)) (hta : ∀ b, blkX ta xs = some b → b < w.heap.size ∧ ¬ PrF T M B a a2 b) (hn : l.length + xs.length ≤ 2 ^ 20) (hs : ∀ x ∈ xs, x.size < 2 ^ 60) :
    Calls Try.prog 23 #[.pointer (some ⟨T, 0, none⟩), .pointer (some ⟨M, 0, none⟩), .agg #[.int .i64 kd, .int .i64 wh, .slice ta xs.length tc, .int .i64 N]] w (DPost T M B a a2 l xs w) := by
  have HP := Lib.hid hp; have HR := Lib.hid hr; have HTA := Lib.hid hta; have HS := Lib.hid hs
  have HBL : Hid (B < w.heap.size) := Lib.hid (hp.lt (.inl (.inr (.inr rfl))))
  clear hp hr hta hs
  refine (callsIn_wide (n := 3)).1 ?_
  refine callsIn_of_wp_marks Try.func23 rfl trivial ?_ rfl
  simp only [Try.ntmps23, List.size_toArray, List.length_cons, List.length_nil, Nat.reduceAdd, Nat.reduceSub, Array.replicate_succ, Array.replicate_zero, List.push_toArray, List.append_toArray, List.nil_append, List.cons_append]
  have m4 : Mod (fun _ => False) w ((((w.alloc (.cells #[.pointer (some ⟨T, 0, none⟩)] 27)).alloc (.cells #[.pointer (some ⟨M, 0, none⟩)] 29)).alloc (.cells #[.int .i64 kd, .int .i64 wh, .slice ta xs.length tc, .int .i64 N] 34)).alloc (.cells #[.bool false] 4)) := ((((Mod.refl _ w).alloc _).alloc _).alloc _).alloc _
  have b1 := ((((Boxed.new w 27 (.pointer (some ⟨T, 0, none⟩))).alloc (.cells #[.pointer (some ⟨M, 0, none⟩)] 29)).alloc (.cells #[.int .i64 kd, .int .i64 wh, .slice ta xs.length tc, .int .i64 N] 34)).alloc (.cells #[.bool false] 4))
  have b2 := ((Boxed.new (w.alloc (.cells #[.pointer (some ⟨T, 0, none⟩)] 27)) 29 (.pointer (some ⟨M, 0, none⟩))).alloc (.cells #[.int .i64 kd, .int .i64 wh, .slice ta xs.length tc, .int .i64 N] 34)).alloc (.cells #[.bool false] 4)
  have b3 := ((Mod.refl (fun _ => False) _).alloc (.cells #[.bool false] 4)).at (heap_alloc_new ((w.alloc (.cells #[.pointer (some ⟨T, 0, none⟩)] 27)).alloc (.cells #[.pointer (some ⟨M, 0, none⟩)] 29)) (.cells #[.int .i64 kd, .int .i64 wh, .slice ta xs.length tc, .int .i64 N] 34)) id
  have b4 := Boxed.new (((w.alloc (.cells #[.pointer (some ⟨T, 0, none⟩)] 27)).alloc (.cells #[.pointer (some ⟨M, 0, none⟩)] 29)).alloc (.cells #[.int .i64 kd, .int .i64 wh, .slice ta xs.length tc, .int .i64 N] 34)) 4 (.bool false)
  simp only [World.size_alloc] at b2 b3 b4
  gi_wp2_with fail
  obtain ⟨w4, hw4⟩ : ∃ v, v = ((((w.alloc (.cells #[.pointer (some ⟨T, 0, none⟩)] 27)).alloc (.cells #[.pointer (some ⟨M, 0, none⟩)] 29)).alloc (.cells #[.int .i64 kd, .int .i64 wh, .slice ta xs.length tc, .int .i64 N] 34)).alloc (.cells #[.bool false] 4)) := ⟨_, rfl⟩
  have hz4 : w4.heap.size = w.heap.size + 4 := by rw [hw4]; simp
  have HZ4 := Lib.hid hz4
  rw [← hw4] at m4 b1 b2 b3 b4 ⊢
  clear hw4 hz4
  refine (callsIn_wide.2 (all_any (some ⟨T, 0, none⟩) w4)).mono ?_
  rintro e w5 ⟨rfl, hw5⟩
  have m5 : Mod (fun _ => False) w4 w5 := by rw [hw5]; exact (Mod.refl _ w4).alloc _
  have hV : w5.heap[w4.heap.size]? = some (.cells #[.pointer (some ⟨T, 0, none⟩)] 27 (0, 0)) := by rw [hw5]; exact heap_alloc_new w4 _
  have hz5 : w5.heap.size = w4.heap.size + 1 := by rw [hw5]; simp
  have d2 := (bx_mod b2 m5 id).cell
  have HB1 := Lib.hid (bx_mod b1 m5 id); have HB2 := Lib.hid (bx_mod b2 m5 id); have HB3 := Lib.hid (m5.at b3 id); have HB4 := Lib.hid (bx_mod b4 m5 id); have HV := Lib.hid hV; have HM := Lib.hid (m4.trans m5)
  have hsn := seq_nil w4.heap.size
  have HLN := Lib.hid (rlen_tb (HP.out.rb.mod0 (m4.trans m5)))
  have HZ5 := Lib.hid hz5
  clear hw5 b1 b2 b3 b4 m4 m5 hV hz5
  gi_wp2_with fail
  refine (callsIn_wide.2 HLN.out).mono ?_
  rintro e w6 ⟨rfl, hw6⟩
  obtain rfl : w5 = w6 := hw6
  gi_wp2_with fail
  clear hsn d2
  have m7 : Mod (fun _ => False) w5 ((w5.alloc (.cells #[.int .i64 (l.length : Nat)] 3)).alloc (.cells #[.int .i64 0] 3)) := ((Mod.refl _ w5).alloc _).alloc _
  have b8 := (Boxed.new w5 3 (.int .i64 (l.length : Nat))).alloc (.cells #[.int .i64 0] 3)
  have b9 := Boxed.new (w5.alloc (.cells #[.int .i64 (l.length : Nat)] 3)) 3 (.int .i64 0)
  simp only [World.size_alloc] at b9
  have hz7 : ((w5.alloc (.cells #[.int .i64 (l.length : Nat)] 3)).alloc (.cells #[.int .i64 0] 3)).heap.size = w5.heap.size + 2 := by simp
  obtain ⟨w7, hw7⟩ : ∃ v, v = (w5.alloc (.cells #[.int .i64 (l.length : Nat)] 3)).alloc (.cells #[.int .i64 0] 3) := ⟨_, rfl⟩
  rw [← hw7] at m7 b8 b9 hz7 ⊢
  clear hw7
  have hSeq := all_stops 2 w4.heap.size T B l a c w7 (by omega) (m7.at HV.out id) (HP.out.tb.mod0 (HM.out.trans m7))
  have hKb : ∀ (W : World) (l : Nat) (o o' : Obj), w7.heap.size ≤ l → W.heap[l]? = some o → o.isCells = false → o.isWalk = false → KpW w4.heap.size T B W (W.putObj l o') := fun W l o o' _ h1 h2 h3 => KpW.putObj W l o o' h1 h2 h3
  obtain ⟨P, hP⟩ : ∃ P : WkP, P = ⟨w, T, M, B, a, a2, l, xs, ta, tc, kd, wh, N, w4.heap.size, w5.heap.size, w7.heap.size⟩ := ⟨_, rfl⟩
  have hZ : WkZ P := by
    have := HZ4.out; have := HZ5.out
    rw [hP]
    exact ⟨by show w.heap.size ≤ w4.heap.size; omega, by show w4.heap.size < w7.heap.size; omega, by show w.heap.size + 4 ≤ w5.heap.size; omega, by show w5.heap.size + 1 < w7.heap.size; omega, by show w4.heap.size < w5.heap.size; omega, by show w.heap.size + 4 ≤ w4.heap.size; omega⟩
  have HI0 : Hid (WkI P [] w7) := by
    rw [hP]
    exact Lib.hid ⟨⟨bx_mod HB1.out m7 id, bx_mod HB2.out m7 id, m7.at HB3.out id, bx_mod HB4.out m7 id, m7.at HV.out id, b8, b9⟩, a, c, a2, c2, l, HP.out.mod (HM.out.trans m7) (fun _ _ => id), .inl rfl, (HM.out.trans m7).mono (fun _ _ h => h.elim), fun b hb => .inl hb⟩
  have HPP := Lib.hid hP; have HZZ := Lib.hid hZ; have HZ7 := Lib.hid hz7
  have hBP : P.B < P.w.heap.size := by rw [hP]; exact HBL.out
  have hPZ : P.Z = w7.heap.size := by rw [hP]
  have HPL : Hid (∀ b, PrF P.T P.M P.B P.a P.a2 b → b < P.w.heap.size) := by rw [hP]; exact Lib.hid (fun b hb => HP.out.lt hb)
  have HBP := Lib.hid hBP
  have ho1 := wkI_own hZ hBP; have ho2 := wkX_own hZ hBP
  rw [hPZ] at ho1 ho2
  clear m7 b8 b9 hz7 HB1 HB2 HB3 HB4 HV hP hZ hPZ hBP HLN
  refine wpIn_rangeFunc_ownG rfl (by omega) (gf := 32) (lb := #[.pointer (some ⟨w4.heap.size, 0, none⟩)]) rfl trivial (enters_of Try.func32 (by kernel_rfl) rfl)
    hSeq (fun h k => KpW.trans h k) hKb (Below.refl _ _) (fun _ => rfl) (WkI P) (WkX P) ho1 ho2 HI0.out
    (fun x => { tmps := #[.pointer (some ⟨T, 0, none⟩), .pointer (some ⟨M, 0, none⟩), .agg #[.int .i64 kd, .int .i64 wh, .slice ta xs.length tc, .int .i64 N], .pointer (some ⟨w.heap.size, 0, none⟩), .pointer (some ⟨w.heap.size + 1, 0, none⟩), .pointer (some ⟨w.heap.size + 1 + 1, 0, none⟩), .pointer (some ⟨w.heap.size + 1 + 1 + 1, 0, none⟩), .func (.func 32) #[] #[.pointer (some ⟨w4.heap.size, 0, none⟩)], .pointer (some ⟨w5.heap.size, 0, none⟩), .pointer (some ⟨w5.heap.size + 1, 0, none⟩), .int .i64 (x.1 : Nat), .string x.2, undef, undef, undef, undef, undef, undef, .pointer (some ⟨T, 0, none⟩), .func (.func 32) #[] #[.pointer (some ⟨w4.heap.size, 0, none⟩)], .func (.func 32) #[] #[.pointer (some ⟨w4.heap.size, 0, none⟩)], .bool false, .pointer (some ⟨M, 0, none⟩), .int .i64 (l.length : Nat), .func (.func 32) #[] #[.pointer (some ⟨w4.heap.size, 0, none⟩)], .int .i64 (x.1 : Nat), .string x.2, undef, undef, undef, undef, undef, undef, undef, undef, undef, undef, undef, undef, undef, undef, undef, undef, undef, undef, undef, undef, undef, undef, undef, undef, undef, undef, undef, undef, undef, undef, undef, undef, undef, undef, undef, undef, undef, undef, undef, undef, undef, undef, undef, undef, undef, undef, undef, undef, undef, undef, undef], defers := [] })
    ?assign ?body ?done ?stop
  case assign =>
    rintro l1 x W K hK
    simp only [encW]
    gi_wp2
    exact hK
  case body =>
    rintro l1 pre x W ⟨hb, ht⟩ hlt
    obtain ⟨a', c', a2', c2', l', hp, hl', hm, hf⟩ := ht
    obtain ⟨k, hk⟩ : ∃ k, k = pre.length := ⟨_, rfl⟩
    rw [← hk] at hb hlt
    rw [HPP.out] at hb hp hl' hm hf
    have hp' : PrAt W T M B a' c' a2' c2' l' := hp
    have hl2 : l' = l ∨ (longT xs = false ∧ l' = (putT l xs).2) := hl'
    have hm' : Mod (PrF T M B a a2) w W := hm
    have hf' : ∀ b, PrF T M B a' a2' b → PrF T M B a a2 b ∨ w7.heap.size ≤ b := hf
    have hpl : l <+: l' := by
      rcases hl2 with rfl | ⟨_, rfl⟩
      · exact List.prefix_refl _
      · exact putT_pre _ _
    have hkl : k < l'.length := Nat.lt_of_lt_of_le hlt hpl.length_le
    have hlk : l'.getD k ⟨#[]⟩ = l[k] := by
      obtain ⟨r, rfl⟩ := hpl
      rw [List.getD_eq_getElem?_getD, List.getElem?_append_left hlt, List.getElem?_eq_getElem hlt]; rfl
    have htx : txtT l' (k : Int) = (l[k], true) := by
      unfold txtT
      rw [if_pos ⟨by omega, by omega⟩, Int.toNat_natCast, hlk]
    have HRT := Lib.hid (rtext_tb hp'.rb (k : Int))
    rw [htx] at HRT
    have d4 : W.cell? ⟨w.heap.size + 1, 0, none⟩ = some (.pointer (some ⟨M, 0, none⟩)) := cell_at hb.b4 rfl
    have d3 : W.cell? ⟨w.heap.size, 0, none⟩ = some (.pointer (some ⟨T, 0, none⟩)) := cell_at hb.b3 rfl
    have d52 : W.cell? ⟨w.heap.size + 1 + 1, 2, none⟩ = some (.slice ta xs.length tc) := cell_at hb.b5 rfl
    have d53 : W.cell? ⟨w.heap.size + 1 + 1, 3, none⟩ = some (.int .i64 N) := cell_at hb.b5 rfl
    have d9 : W.cell? ⟨w5.heap.size + 1, 0, none⟩ = some (.int .i64 (k : Nat)) := cell_at hb.b9 rfl
    have d8 : W.cell? ⟨w5.heap.size, 0, none⟩ = some (.int .i64 (l.length : Nat)) := cell_at hb.b8 rfl
    have hb6 : W.heap[w.heap.size + 1 + 1 + 1]? = some (.cells #[.bool false] 4 (0, 0)) := hb.b6
    have d6 := cell_at (j := 0) hb6 rfl
    have f6 := frozen_at (j := 0) hb6
    have hlx : (k : Int) < (l.length : Nat) := by omega
    have HPR := Lib.hid hp'; have HL2 := Lib.hid hl2; have HMW := Lib.hid hm'; have HFR := Lib.hid hf'; have HB := Lib.hid hb; have HK := Lib.hid hk; have HLT := Lib.hid hlt; have HB6 := Lib.hid hb6; have HPX := Lib.hid hpl
    clear hb hp hl' hm hf hp' hl2 hm' hf' hpl hkl hlk htx hb6 ho1 ho2 hSeq hKb hk
    obtain ⟨x1, x2⟩ := x
    simp only at *
    by_cases hx : x1 = k ∧ x2 = l[k]
    · obtain ⟨rfl, rfl⟩ := hx
      generalize l[x1] = s at *
      have HRD : Hid (Rd W ta (sts xs)) := Lib.hid (rd_modX HR.out HMW.out (fun b hb => (HTA.out b hb).2))
      have HSP : Hid (∀ b, blkX ta xs = some b → ¬ PrF T M B a' a2' b) := Lib.hid (fun b hb hs => by
        have h1 := HTA.out b hb
        rcases HFR.out b hs with h | h
        · exact h1.2 h
        · have h2 := HZ4.out; have h3 := HZ5.out; have h4 := HZ7.out; have := h1.1; omega)
      have FIN : Hid (∀ (W3 : World) (an : Option Addr) (cn : Nat) (a2n : Option Addr) (c2n : Nat) (ln : List ByteArray), PrAt W3 T M B an cn a2n c2n ln → (ln = l ∨ (longT xs = false ∧ ln = (putT l xs).2)) → l' <+: ln → Mod (PrF T M B a' a2') W W3 → (∀ b, PrF T M B an a2n b → PrF T M B a' a2' b ∨ W.heap.size ≤ b) →
          WkB P W3 x1 ∧ (KeepsFrom w7.heap.size W (W3.setCell ⟨w5.heap.size + 1, 0, none⟩ (.int .i64 (x1 + 1))) ∧ KpW w4.heap.size T B W (W3.setCell ⟨w5.heap.size + 1, 0, none⟩ (.int .i64 (x1 + 1))) ∧ WkI P (pre ++ [(x1, s)]) (W3.setCell ⟨w5.heap.size + 1, 0, none⟩ (.int .i64 (x1 + 1)))) ∧
          (KeepsFrom w7.heap.size W ((W3.setCell ⟨w5.heap.size + 1, 0, none⟩ (.int .i64 (x1 + 1))).setCell ⟨w.heap.size + 1 + 1 + 1, 0, none⟩ (.bool true)) ∧ WkX P .ret (pre ++ [(x1, s)]) ((W3.setCell ⟨w5.heap.size + 1, 0, none⟩ (.int .i64 (x1 + 1))).setCell ⟨w.heap.size + 1 + 1 + 1, 0, none⟩ (.bool true)))) := by
        intro W3 an cn a2n c2n ln hp3 hl3 hpre hm3 hf3
        have z4 := HZ4.out; have z5 := HZ5.out; have z7 := HZ7.out
        have hPl : ∀ b, PrF T M B a a2 b → b < w.heap.size := fun b hb => HP.out.lt hb
        have hzz := HZZ.out
        rw [HPP.out] at hzz ⊢
        have hB3 := HB.out.mod hzz hm3 (fun k h1 h2 hs => by
          have h1' : w.heap.size ≤ k := h1
          have h2' : k < w7.heap.size := h2
          rcases HFR.out k hs with h | h
          · have := hPl k h; omega
          · omega)
        have hWz : w5.heap.size + 1 < W.heap.size := (Array.getElem?_eq_some_iff.1 HB.out.b9).1
        have q9 : W3.heap[w5.heap.size + 1]? = some (.cells #[.int .i64 (x1 : Nat)] 3 (0, 0)) := hB3.b9
        have m4 : Mod (fun k => k = w5.heap.size + 1) W3 (W3.setCell ⟨w5.heap.size + 1, 0, none⟩ (.int .i64 (x1 + 1))) := (Mod.refl (fun k => k = w5.heap.size + 1) W3).setCell (p := ⟨w5.heap.size + 1, 0, none⟩) (fun _ => rfl) _
        have hb9 := bx_put (B := w5.heap.size + 1) q9 (.int .i64 (x1 + 1))
        generalize W3.setCell ⟨w5.heap.size + 1, 0, none⟩ (.int .i64 (x1 + 1)) = W4 at *
        have hnp : ∀ b, PrF T M B an a2n b → b ≠ w5.heap.size + 1 := fun b hb e => by
          rcases hf3 b hb with h | h
          · rcases HFR.out b h with h | h
            · have := hPl b h; omega
            · omega
          · omega
        have hp4 : PrAt W4 T M B an cn a2n c2n ln := hp3.mod m4 hnp
        have hB4 : WkB ⟨w, T, M, B, a, a2, l, xs, ta, tc, kd, wh, N, w4.heap.size, w5.heap.size, w7.heap.size⟩ W4 (pre ++ [(x1, s)]).length := by
          refine ⟨m4.at hB3.b3 (by show ¬ w.heap.size = _; omega), m4.at hB3.b4 (by show ¬ w.heap.size + 1 = _; omega), m4.at hB3.b5 (by show ¬ w.heap.size + 1 + 1 = _; omega), m4.at hB3.b6 (by show ¬ w.heap.size + 1 + 1 + 1 = _; omega), m4.at hB3.bV (by show ¬ w4.heap.size = _; omega), m4.at hB3.b8 (by show ¬ w5.heap.size = _; omega), ?_⟩
          have e : (((pre ++ [(x1, s)]).length : Nat) : Int) = x1 + 1 := by rw [List.length_append, ← HK.out]; simp
          rw [e]
          exact hb9
        have hT4 : WkT ⟨w, T, M, B, a, a2, l, xs, ta, tc, kd, wh, N, w4.heap.size, w5.heap.size, w7.heap.size⟩ W4 := by
          refine ⟨an, cn, a2n, c2n, ln, hp4, hl3, (HMW.out.step hm3 (fun i hi e => (HFR.out i e).resolve_right (by omega))).step m4 (fun i hi e => by omega), fun b hb => ?_⟩
          rcases hf3 b hb with h | h
          · exact HFR.out b h
          · exact .inr (by show w7.heap.size ≤ b; omega)
        have mA : Mod (fun k => PrF T M B a' a2' k ∨ k < w7.heap.size) W W4 := (hm3.mono (fun _ _ h => .inl h)).step m4 (fun b hb h => .inr (by omega))
        have hBZ : B < w7.heap.size := by have := HBL.out; omega
        refine ⟨hB3, ⟨wk_keeps (P := ⟨w, T, M, B, a, a2, l, xs, ta, tc, kd, wh, N, w4.heap.size, w5.heap.size, w7.heap.size⟩) HPR.out hBZ mA, ?_, hB4, hT4⟩, ?_⟩
        · have mV : Mod (fun k => PrF T M B a' a2' k ∨ k = w5.heap.size + 1) W W4 := (hm3.mono (fun _ _ h => .inl h)).step m4 (fun b hb h => .inr h)
          refine wk_kp HPR.out.tb hp4.tb hpre mV (fun hV => ?_)
          rcases hV with h | h
          · rcases HFR.out _ h with h | h
            · have := hPl _ h; omega
            · omega
          · omega
        · have m5 : Mod (fun k => k = w.heap.size + 1 + 1 + 1) W4 (W4.setCell ⟨w.heap.size + 1 + 1 + 1, 0, none⟩ (.bool true)) := (Mod.refl (fun k => k = w.heap.size + 1 + 1 + 1) W4).setCell (p := ⟨w.heap.size + 1 + 1 + 1, 0, none⟩) (fun _ => rfl) _
          have hb6 := bx_put (B := w.heap.size + 1 + 1 + 1) hB4.b6 (.bool true)
          refine ⟨wk_keeps (P := ⟨w, T, M, B, a, a2, l, xs, ta, tc, kd, wh, N, w4.heap.size, w5.heap.size, w7.heap.size⟩) HPR.out hBZ (mA.step m5 (fun b hb h => .inr (by show b < w7.heap.size; omega))), rfl, .inr ⟨hb6, hT4.mod hPl m5 (fun k e => ⟨by show w.heap.size ≤ k; omega, by show k < w7.heap.size; omega⟩)⟩⟩
      have hpR := HPR.out
      gi_wp2_with fail
      refine CallsIn.mono (CallsIn.inRound l1 (callsIn_wide.2 HRT.out)) ?_
      rintro e w8 ⟨rfl, hw8⟩
      obtain rfl : W = w8 := hw8
      gi_wp2_with fail
      by_cases hlong : longT xs = true
      · refine CallsIn.mono (CallsIn.inRound l1 (callsIn_wide.2 (put_long hpR.tb ta tc xs HRD.out (by omega) HS.out hlong))) ?_
        rintro e w8 ⟨rfl, hw8⟩
        obtain rfl : W = w8 := hw8
        have HRP := Lib.hid ((rput_any hpR.rb ta tc xs HRD.out (by omega) (by
          rcases HL2.out with h | ⟨h, _⟩
          · rw [h]; omega
          · rw [hlong] at h; cases h) HS.out (fun b hb h => HSP.out b hb (.inr h))).mono (fun e w' h => h.1 hlong))
        have HIN := Lib.hid (ints_same (w := W) (l := []) (Mine.Own.nil W 3 1) (Mine.Own.nil W 3 1) (by decide))
        have hl0 : l' = l := by
          rcases HL2.out with h | ⟨h, _⟩
          · exact h
          · rw [hlong] at h; cases h
        have HL0 := Lib.hid hl0
        clear hlong hl0 hpR
        gi_wp2_with fail
        refine CallsIn.mono (CallsIn.inRound l1 (callsIn_wide.2 HRP.out)) ?_
        rintro e w8 ⟨rfl, hw8⟩
        obtain rfl : W = w8 := hw8
        gi_wp2_with fail
        refine CallsIn.mono (CallsIn.inRound l1 (callsIn_wide.2 HIN.out)) ?_
        rintro e w9 ⟨rfl, hm9⟩
        obtain ⟨hB9, hF1, hF2⟩ := FIN.out w9 a' c' a2' c2' l' (HPR.out.mod hm9 (fun _ _ => id)) HL2.out (List.prefix_refl _) (hm9.mono (fun _ _ h => h.elim)) (fun b hb => .inl hb)
        have HF1 := Lib.hid hF1; have HF2 := Lib.hid hF2
        rw [HPP.out] at hB9
        have g9 : w9.heap[w5.heap.size + 1]? = some (.cells #[.int .i64 (x1 : Nat)] 3 (0, 0)) := hB9.b9
        have g5 : w9.heap[w.heap.size + 1 + 1]? = some (.cells #[.int .i64 kd, .int .i64 wh, .slice ta xs.length tc, .int .i64 N] 34 (0, 0)) := hB9.b5
        have g6 : w9.heap[w.heap.size + 1 + 1 + 1]? = some (.cells #[.bool false] 4 (0, 0)) := hB9.b6
        have e9 := cell_at (j := 0) g9 rfl; have f9 := frozen_at (j := 0) g9
        have e53 := cell_at (j := 3) g5 rfl
        have e6 := cell_at (j := 0) g6 rfl; have f66 := frozen_at (j := 0) g6
        have mS : Mod (fun k => k = w5.heap.size + 1) w9 (w9.setCell ⟨w5.heap.size + 1, 0, none⟩ (.int .i64 (x1 + 1))) := (Mod.refl (fun k => k = w5.heap.size + 1) w9).setCell (p := ⟨w5.heap.size + 1, 0, none⟩) (fun _ => rfl) _
        have g64 := mS.at g6 (by have := HZ4.out; have := HZ5.out; omega)
        have e64 := cell_at (j := 0) g64 rfl; have f64 := frozen_at (j := 0) g64
        clear hB9 hF1 hF2 g9 g5 g6 g64 mS hm9 d3 d4 d52 d53 d9 d8 d6 f6
        by_cases hN : (x1 : Int) + 1 = N
        · rw [hN] at HF2 e64 f64
          gi_wp2_with fail
          exact HF2.out
        · gi_wp2_with fail
          exact HF1.out
      · have hlg : longT xs = false := by simpa using hlong
        have hll : l'.length ≤ 2 ^ 20 := by
          rcases HL2.out with h | ⟨_, h⟩
          · rw [h]; omega
          · rw [h]; have := (putT_le l xs).2; omega
        refine CallsIn.mono (CallsIn.inRound l1 (callsIn_wide.2 (put_tb hpR.tb ta tc xs HRD.out (by omega) hll HS.out hlg (fun b hb h => HSP.out b hb (.inl h))))) ?_
        rintro e w8 hP1
        obtain ⟨oa, oc, b', d', rfl, hMid⟩ := pr_put1 hpR hP1
        have HPT := Lib.hid (fun e w' => pr_put2 (e := e) (w2 := w') hpR hMid)
        have hrd8 : Rd w8 ta (sts xs) := rd_modX HRD.out hMid.mod (fun b hb h => HSP.out b hb (.inl h))
        have HRP := Lib.hid ((rput_any hMid.rb ta tc xs hrd8 (by omega) hll HS.out (fun b hb h => HSP.out b hb (.inr h))).mono (fun e w' h => h.2 hlg))
        have hB8 : WkB P w8 x1 := by
          rw [HPP.out]
          have hzz := HZZ.out
          rw [HPP.out] at hzz
          refine HB.out.mod hzz hMid.mod (fun k h1 h2 hs => ?_)
          have h1' : w.heap.size ≤ k := h1
          have h2' : k < w7.heap.size := h2
          rcases HFR.out k (.inl hs) with h | h
          · have := HP.out.lt h; omega
          · omega
        rw [HPP.out] at hB8
        have c4 : w8.cell? ⟨w.heap.size + 1, 0, none⟩ = some (.pointer (some ⟨M, 0, none⟩)) := cell_at hB8.b4 rfl
        have c52 : w8.cell? ⟨w.heap.size + 1 + 1, 2, none⟩ = some (.slice ta xs.length tc) := cell_at hB8.b5 rfl
        have HLL : Hid (((putT l' xs).2 = l ∨ (longT xs = false ∧ (putT l' xs).2 = (putT l xs).2))) := by
          refine Lib.hid (.inr ⟨hlg, ?_⟩)
          rcases HL2.out with h | ⟨_, h⟩
          · rw [h]
          · rw [h, putT_twice]
        clear hlong hlg hpR hP1 hMid hrd8 hB8 hll d3 d4 d52 d53 d9 d8 d6 f6
        gi_wp2_with fail
        refine CallsIn.mono (CallsIn.inRound l1 (callsIn_wide.2 HRP.out)) ?_
        rintro e w10 hP2
        obtain ⟨ob, od, b2, d2, rfl, hBo⟩ := HPT.out _ _ hP2
        have hgl : (putT l' xs).1.length = xs.length := putT_len _ _
        have hin := ints_same (w := w10) (l := (putT l' xs).1) (a1 := oa) (a2 := ob) (c1 := oc) (c2 := od) (by rw [hgl]; exact hBo.got) (by rw [hgl]; exact hBo.said) (by rw [hgl]; omega)
        rw [hgl] at hin
        have HIN := Lib.hid hin
        have HBO := Lib.hid hBo
        clear hP2 hgl hin hBo HPT HRP c4 c52
        gi_wp2_with fail
        refine CallsIn.mono (CallsIn.inRound l1 (callsIn_wide.2 HIN.out)) ?_
        rintro e w9 ⟨rfl, hm9⟩
        obtain ⟨hB9, hF1, hF2⟩ := FIN.out w9 b' d' b2 d2 (putT l' xs).2 (HBO.out.pr.mod hm9 (fun _ _ => id)) HLL.out (putT_pre _ _) (HBO.out.mod.step hm9 (fun _ _ h => h.elim)) HBO.out.f1
        have HF1 := Lib.hid hF1; have HF2 := Lib.hid hF2
        rw [HPP.out] at hB9
        have g9 : w9.heap[w5.heap.size + 1]? = some (.cells #[.int .i64 (x1 : Nat)] 3 (0, 0)) := hB9.b9
        have g5 : w9.heap[w.heap.size + 1 + 1]? = some (.cells #[.int .i64 kd, .int .i64 wh, .slice ta xs.length tc, .int .i64 N] 34 (0, 0)) := hB9.b5
        have g6 : w9.heap[w.heap.size + 1 + 1 + 1]? = some (.cells #[.bool false] 4 (0, 0)) := hB9.b6
        have e9 := cell_at (j := 0) g9 rfl; have f9 := frozen_at (j := 0) g9
        have e53 := cell_at (j := 3) g5 rfl
        have e6 := cell_at (j := 0) g6 rfl; have f66 := frozen_at (j := 0) g6
        have mS : Mod (fun k => k = w5.heap.size + 1) w9 (w9.setCell ⟨w5.heap.size + 1, 0, none⟩ (.int .i64 (x1 + 1))) := (Mod.refl (fun k => k = w5.heap.size + 1) w9).setCell (p := ⟨w5.heap.size + 1, 0, none⟩) (fun _ => rfl) _
        have g64 := mS.at g6 (by have := HZ4.out; have := HZ5.out; omega)
        have e64 := cell_at (j := 0) g64 rfl; have f64 := frozen_at (j := 0) g64
        clear hB9 hF1 hF2 g9 g5 g6 g64 mS hm9
        by_cases hN : (x1 : Int) + 1 = N
        · rw [hN] at HF2 e64 f64
          gi_wp2_with fail
          exact HF2.out
        · gi_wp2_with fail
          exact HF1.out
    · have HNO : Hid (¬ pre ++ [(x1, x2)] <+: itmT l) := Lib.hid (fun h => by
        have h1 := itm_pre (by rw [← HK.out]; exact HLT.out) h
        refine hx ⟨by rw [HK.out]; exact h1.1, ?_⟩
        have h2 := h1.2
        simp only [← HK.out] at h2
        exact h2)
      have FIN : Hid (KeepsFrom w7.heap.size W (W.setCell ⟨w.heap.size + 1 + 1 + 1, 0, none⟩ (.bool false)) ∧ WkX P .ret (pre ++ [(x1, x2)]) (W.setCell ⟨w.heap.size + 1 + 1 + 1, 0, none⟩ (.bool false))) := by
        have hs5 : Mod (fun k => k = w.heap.size + 1 + 1 + 1) W (W.setCell ⟨w.heap.size + 1 + 1 + 1, 0, none⟩ (.bool false)) := (Mod.refl (fun k => k = w.heap.size + 1 + 1 + 1) W).setCell (p := ⟨w.heap.size + 1 + 1 + 1, 0, none⟩) (fun _ => rfl) _
        refine Lib.hid ⟨keepsFrom_mod hs5 ?_, rfl, .inl ⟨?_, ?_⟩⟩
        · rintro k rfl o ho
          rw [HB6.out] at ho; cases ho; rfl
        · rw [HPP.out]; exact bx_put HB6.out (.bool false)
        · rw [HPP.out]; exact HNO.out
      by_cases h1 : x1 = k
      · have h2 : (x2.toList == l[k].toList) = false := by
          rw [baEq]
          simp only [decide_eq_false_iff_not]
          exact fun h2 => hx ⟨h1, h2⟩
        subst h1
        clear hx
        generalize l[x1] = s at *
        gi_wp2_with fail
        refine CallsIn.mono (CallsIn.inRound l1 (callsIn_wide.2 HRT.out)) ?_
        rintro e w8 ⟨rfl, hw8⟩
        obtain rfl : W = w8 := hw8
        gi_wp2_with fail
        exact FIN.out
      · clear hx
        generalize l[k] = s at *
        gi_wp2_with fail
        refine CallsIn.mono (CallsIn.inRound l1 (callsIn_wide.2 HRT.out)) ?_
        rintro e w8 ⟨rfl, hw8⟩
        obtain rfl : W = w8 := hw8
        gi_wp2_with fail
        exact FIN.out
  case done =>
    rintro D ys W hD he ⟨hb, ht⟩ hK
    have hlen : ys.length = l.length := by
      have he2 : ys = itmT l := he
      rw [he2, itmT_len]
    have c8 : W.cell? ⟨w5.heap.size, 0, none⟩ = some (.int .i64 (l.length : Nat)) := by have := cell_at (j := 0) hb.b8 rfl; rw [HPP.out] at this; exact this
    have c9 : W.cell? ⟨w5.heap.size + 1, 0, none⟩ = some (.int .i64 (l.length : Nat)) := by have := cell_at (j := 0) hb.b9 rfl; rw [HPP.out, hlen] at this; exact this
    have b6 : W.heap[w.heap.size + 1 + 1 + 1]? = some (.cells #[.bool false] 4 (0, 0)) := by have := hb.b6; rw [HPP.out] at this; exact this
    have c6 := cell_at (j := 0) b6 rfl
    have f6 := frozen_at (j := 0) b6
    have HT := Lib.hid ht; have HB6 := Lib.hid b6; have HK := Lib.hid hK; have HD := Lib.hid hD
    clear hb ht hK hKb hSeq hD b6 ho1 ho2 hlen he
    gi_wp2
    have hD := HD.out; have hZ5 := HZ5.out; have hZ4 := HZ4.out; have hZ7 := HZ7.out
    have hs5 : Mod (fun k => k = w.heap.size + 1 + 1 + 1) W (W.setCell ⟨w.heap.size + 1 + 1 + 1, 0, none⟩ (.bool true)) := (Mod.refl (fun k => k = w.heap.size + 1 + 1 + 1) W).setCell (p := ⟨w.heap.size + 1 + 1 + 1, 0, none⟩) (fun _ => rfl) _
    have hb5 := bx_put HB6.out (.bool true)
    have ht5 : WkT P (W.setCell ⟨w.heap.size + 1 + 1 + 1, 0, none⟩ (.bool true)) := HT.out.mod HPL.out hs5 (fun k e => by rw [HPP.out]; show w.heap.size ≤ k ∧ k < w7.heap.size; omega)
    generalize W.setCell ⟨w.heap.size + 1 + 1 + 1, 0, none⟩ (.bool true) = W' at *
    have hK' := hs5.at HK.out (by omega)
    have hg := grownBy_putObj' W' D (.deferred none)
    have hG := Mod.ofGrown hg
    refine ⟨by simp, .inl ⟨_, _, rfl, run_takeDeferred hK', ?_⟩⟩
    have c6 := (bx_mod hb5 hG (fun e => by cases e; omega)).cell
    refine ⟨.bool true, ?_, ?_⟩
    · simp [results, Try.f23, go_sem, c6]
    · have h1 := wkT_post HZZ.out HBP.out ht5 hg (fun r e => by cases e; exact ⟨by rw [HPP.out]; exact hD, _, hK', rfl⟩)
      rw [HPP.out] at h1
      exact h1
  case stop =>
    rintro D cc pre W hD hpre ⟨rfl, h⟩ hK
    rcases h with ⟨_, hn⟩ | ⟨hb, ht⟩
    · rw [HPP.out] at hn
      exact absurd hpre hn
    · have HT := Lib.hid ht; have HB6 := Lib.hid hb; have HK := Lib.hid hK; have HD := Lib.hid hD
      clear hb ht hK hKb hSeq hD ho1 ho2 hpre
      gi_wp2
      have hD := HD.out; have hZ5 := HZ5.out; have hZ4 := HZ4.out; have hZ7 := HZ7.out
      have hg := grownBy_putObj' W D (.deferred none)
      have hG := Mod.ofGrown hg
      refine ⟨by simp, .inl ⟨_, _, rfl, run_takeDeferred HK.out, ?_⟩⟩
      have hb6 : Boxed W (w.heap.size + 1 + 1 + 1) 4 (.bool true) := by have := HB6.out; rw [HPP.out] at this; exact this
      have c6 := (bx_mod hb6 hG (fun e => by cases e; omega)).cell
      refine ⟨.bool true, ?_, ?_⟩
      · simp [results, Try.f23, go_sem, c6]
      · have h1 := wkT_post HZZ.out HBP.out HT.out hg (fun r e => by cases e; exact ⟨by rw [HPP.out]; exact hD, _, HK.out, rfl⟩)
        rw [HPP.out] at h1
        exact h1
end Go.Proofs.Ytcmgeiohcgngeaa
