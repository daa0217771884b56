/- LexEach answers true of any bytes and any int, of bulk at most 1048576, where the tables of utf8 lie. -/
import Derived.Test.YtidgpcjnfkhjoaaDoorLexLaw
import Derived.Test.YtidgpcjnfkhjoaaDoorScan
import Derived.Laws.StructEq
import Derived.Deep.LoopGhost
namespace Go.Proofs.YtidgpcjnfkhjoaaDoor
open Go Go.RowKit Go.Mine
set_option maxHeartbeats 4000000
set_option maxRecDepth 100000
set_option linter.unusedVariables false

@[local go_sem, local simp] theorem wide_fn4 (f : FuncId) : Fence.wide.fn f = True := rfl
@[local go_sem, local simp] theorem wide_depth4 : Fence.wide.depth = none := rfl
@[local go_sem, local simp] theorem in_fn4 (l : Nat) (f : FuncId) : (Fence.wide.inRound l).fn f = True := rfl
@[local go_sem, local simp] theorem in_depth4 (l : Nat) : (Fence.wide.inRound l).depth = none := rfl
attribute [local go_sem] Oper.semAt_some
theorem name_frame {c : Code} {F : Fence} {n : Nat} {P : Program} {Q : Exit → Act → World → Prop} {T : Array Value} {ds : List Deferred} {w : World} (h : ∀ T', T' = T → c.wpIn F n P Q { tmps := T', defers := ds } w) : c.wpIn F n P Q { tmps := T, defers := ds } w := h T rfl

/-- what comes, at each place -/
theorem ea_len (r : List Tok × Nat × Nat) : (seqOf r).length = r.1.length + if r.2.2 = 0 then 0 else 1 := by
  unfold seqOf
  split <;> simp
theorem ea_head {r : List Tok × Nat × Nat} {pre : List (Tok × Nat)} {x : Tok × Nat} (h : pre ++ [x] <+: seqOf r) (hn : pre.length < r.1.length) : x = (r.1[pre.length], 0) := by
  obtain ⟨m, hm⟩ := h
  have h1 : (seqOf r)[pre.length]? = some x := by rw [← hm]; simp
  unfold seqOf at h1
  rw [List.getElem?_append_left (by simpa using hn), List.getElem?_map, List.getElem?_eq_getElem hn] at h1
  simpa using h1.symm
theorem ea_last {r : List Tok × Nat × Nat} {pre : List (Tok × Nat)} {x : Tok × Nat} (h : pre ++ [x] <+: seqOf r) (hn : r.1.length ≤ pre.length) : pre.length = r.1.length ∧ r.2.2 ≠ 0 ∧ x = (⟨0, ⟨#[]⟩, r.2.1⟩, r.2.2) := by
  obtain ⟨m, hm⟩ := h
  have h1 : (seqOf r)[pre.length]? = some x := by rw [← hm]; simp
  unfold seqOf at h1
  rw [List.getElem?_append_right (by simpa using hn), List.length_map] at h1
  split at h1
  · simp at h1
  · rename_i h0
    have hl : pre.length - r.1.length < 1 := (List.getElem?_eq_some_iff.1 h1).1
    have he : pre.length - r.1.length = 0 := by omega
    rw [he] at h1
    exact ⟨by omega, h0, by simpa using h1.symm⟩
theorem tok_iff (x y : Tok) : x = y ↔ x.kind = y.kind ∧ x.text = y.text ∧ x.at_ = y.at_ := by
  obtain ⟨a, b, c⟩ := x
  obtain ⟨d, e, f⟩ := y
  simp
theorem same_any (t u : Tok) (w : World) (b : Bool) (hb : b = true ↔ t = u) : Calls Tryd.prog 18 #[encT t, encT u] w fun e w' => e = .returned (.bool b) ∧ Mod (fun _ => False) w w' := by
  obtain ⟨k, s, p⟩ := t
  obtain ⟨k2, s2, p2⟩ := u
  have HB := Lib.hid hb; clear hb
  unfold encT
  simp only
  by_cases h1 : k = k2
  · subst h1
    by_cases h2 : s = s2
    · subst h2
      have e1 : ((p : Int) == (p2 : Int)) = b := by
        rw [Bool.eq_iff_iff, HB.out, tok_iff]
        simp
        omega
      clear HB
      go_enter Tryd.func18, Tryd.ntmps18
      go_wp2
      go_ret
      exact ⟨rfl, ((Mod.refl _ w).alloc _).alloc _⟩
    · obtain rfl : b = false := by
        cases b
        · rfl
        · exact absurd (congrArg Tok.text (HB.out.1 rfl)) h2
      have e1 : (s.toList == s2.toList) = false := by rw [baEq]; simpa using h2
      clear HB h2
      go_enter Tryd.func18, Tryd.ntmps18
      go_wp2
      go_ret
      exact ⟨rfl, ((Mod.refl _ w).alloc _).alloc _⟩
  · obtain rfl : b = false := by
      cases b
      · rfl
      · exact absurd (congrArg Tok.kind (HB.out.1 rfl)) h1
    have e1 : ((k : Int) == (k2 : Int)) = false := by simp; omega
    clear HB h1
    go_enter Tryd.func18, Tryd.ntmps18
    go_wp2
    go_ret
    exact ⟨rfl, ((Mod.refl _ w).alloc _).alloc _⟩
/-- shutting the blocks of what was put off -/
theorem leavesM_all {F : Fence} {n : Nat} {P : Program} {fn : Func} {tmps : Array Value} {R : Ending → World → Prop} : ∀ (Ds : List Nat) (w : World), Ds.Nodup → (∀ D ∈ Ds, w.heap[D]? = some (.deferred (some []))) →
    (∀ w', Mod (fun b => b ∈ Ds) w w' → LeavesIn F n P fn tmps R [] .returning w') → LeavesInM F n P fn tmps R (Ds.map fun D => { target := .collected D, args := #[] }) .returning w
  | [], w, _, _, h => h w (Mod.refl _ w)
  | D :: Ds, w, hn, hD, h => by
    rw [List.nodup_cons] at hn
    have hK := hD D (List.mem_cons_self ..)
    have hG : Mod (fun b => b = D) w (w.putObj D (.deferred none)) := (Mod.ofGrown (grownBy_putObj' w D (.deferred none))).mono (fun k _ e => by cases e; rfl)
    refine ⟨by simp, .inl ⟨D, _, rfl, run_takeDeferred hK, ?_⟩⟩
    refine leavesM_all Ds _ hn.2 (fun D' h' => hG.at (hD D' (List.mem_cons_of_mem _ h')) (fun e => hn.1 (by rw [← e]; exact h'))) fun w' m => h w' ?_
    exact (hG.mono (fun k _ e => by rw [e]; exact List.mem_cons_self ..)).step m (fun i _ hs => List.mem_cons_of_mem _ hs)
theorem tok_eq (a b c d : Int) (s t : ByteArray) (w : World) : (Op.equalIn 10000 32 (.agg #[.int .i64 a, .string s, .int .i64 b]) (.agg #[.int .i64 c, .string t, .int .i64 d])).run Tryd.prog w = .ok (a == c && (s.toList == t.toList && b == d)) w := by
  have u3 := Tryd.underlying3
  have hS : Tryd.prog.underlying 32 = some (.struct (Tryd.prog.fieldsOf 32)) := by kernel_rfl
  have hp : Tryd.prog.stoodInHeld 32 = false := by kernel_rfl
  rw [show (10000 : Nat) = 9999 + 1 from rfl, run_equalIn_agg w 9999 32 _ _ hS hp]
  simp only [Program.fieldsOf, Tryd.underlying32]
  go_simp
  by_cases h1 : a = c <;> by_cases h2 : s.toList = t.toList <;> by_cases h3 : b = d <;> simp [h1, h2, h3]
@[local go_sem] theorem tok_neq (a b : Int) (s : ByteArray) (w : World) : (binOp .neq 32 (.agg #[.int .i64 a, .string s, .int .i64 b]) (.agg #[.int .i64 a, .string s, .int .i64 b])).run Tryd.prog w = .ok (.bool false) w := by
  rw [run_neq_struct, tok_eq]
  simp
theorem tok_ne (x y : Tok) (h : x ≠ y) (w : World) : (binOp .neq 32 (.agg #[.int .i64 x.kind, .string x.text, .int .i64 x.at_]) (.agg #[.int .i64 y.kind, .string y.text, .int .i64 y.at_])).run Tryd.prog w = .ok (.bool true) w := by
  rw [run_neq_struct, tok_eq]
  simp only [Result.andThen_ok]
  congr 1
  obtain ⟨xk, xt, xa⟩ := x
  obtain ⟨yk, yt, ya⟩ := y
  simp only [Value.bool.injEq, Bool.not_eq_true', Bool.and_eq_false_iff, beq_eq_false_iff_ne, ne_eq]
  by_cases h1 : xk = yk
  · by_cases h2 : xt = yt
    · right; right
      intro h3
      exact h (by subst h1 h2; congr 1; omega)
    · right; left
      intro h3
      exact h2 (by rw [ByteArray.toList_eq, ByteArray.toList_eq] at h3; exact ByteArray.ext (Array.ext' h3))
  · left; omega
def NdW (lo : Nat) (Ds : List Nat) : Prop := Ds.Nodup ∧ ∀ D ∈ Ds, lo ≤ D
theorem NdW.cons {lo D : Nat} {Ds : List Nat} (h : NdW lo Ds) (hn : D ∉ Ds) (hl : lo ≤ D) : NdW lo (D :: Ds) :=
  ⟨List.nodup_cons.2 ⟨hn, h.1⟩, fun D' hD => by
    rcases List.mem_cons.1 hD with rfl | hD
    · exact hl
    · exact h.2 _ hD⟩
def EaD (lim : Nat) (Ds : List Nat) (W : World) : Prop := ∀ D ∈ Ds, D < lim ∧ W.heap[D]? = some (.deferred (some []))
theorem EaD.mod' {S : Nat → Prop} {lim : Nat} {Ds : List Nat} {W W' : World} (h : EaD lim Ds W) (m : Mod S W W') (hs : ∀ k, S k → ∀ o : Obj, W.heap[k]? = some o → o.isCells = true) : EaD lim Ds W' := fun D hD => by
  obtain ⟨h1, h2⟩ := h D hD
  exact ⟨h1, m.at h2 (fun s => by have := hs D s _ h2; simp [Obj.isCells] at this)⟩
theorem EaD.turned {lim B : Nat} {Ds : List Nat} {W W' : World} {row : Option Nat} (h : EaD lim Ds W) (hl : lim ≤ B) (hg : W.grownBy W' row) (hr : ∀ r, row = some r → B ≤ r) : EaD lim Ds W' := fun D hD => by
  obtain ⟨h1, h2⟩ := h D hD
  exact ⟨h1, (Mod.ofGrown hg).at h2 (fun e => by have := hr D e; omega)⟩
theorem found_n (l : List UInt8) (n : Nat) (hn : l.length = n) (hl : n < 2 ^ 30) (a0 : Option Addr) (c : Nat) (w : World) (hRd : Rd w a0 (bts l)) :
    Calls Tryd.prog 15 #[.slice a0 n c] w fun e w' => ∃ (a' : Option Addr) (c' : Nat), e = .returned (.tuple #[.slice a' (foundL ⟨l.toArray⟩).1.length c', .int .i64 (foundL ⟨l.toArray⟩).2.1, .int .i64 (foundL ⟨l.toArray⟩).2.2]) ∧
      Mine.Own w' 36 3 a' (foundL ⟨l.toArray⟩).1.length c' (toksC (foundL ⟨l.toArray⟩).1) ∧ Mod (fun _ => False) w w' ∧ (∀ b, blk a' = some b → w.heap.size ≤ b) := by
  subst hn
  exact found_any a0 c l w hRd hl
theorem each_n (l : List UInt8) (n : Nat) (hn : l.length = n) (a : Option Addr) (c : Nat) (w : World) (hR : Rd w a (bts l)) :
    Calls Tryd.prog 14 #[.slice a n c] w fun e w' => e = .returned (.func (.func 59) #[] #[.pointer (some ⟨w.heap.size, 0, none⟩)]) ∧ w' = w.alloc (.cells #[.string ⟨l.toArray⟩] 9) := by
  subst hn; exact each_any a c l w hR
/-- what the law's call has laid ahead of its loops -/
structure EaP where
  w : World
  gB : Nat
  gW : Nat
  gP : Nat
  gF : Nat
  g : Nat
  c5 : Nat
  cW : Nat
  K0 : Nat
  aW : Option Addr
  l : List UInt8
  early : Int
  r : List Tok × Nat × Nat
structure EaC (E : EaP) (W : World) : Prop where
  bE : Boxed W E.w.heap.size 3 (.int .i64 E.early)
  bR : Boxed W (E.w.heap.size + 1) 4 (.bool false)
  bB : Boxed W E.gB 9 (.string ⟨E.l.toArray⟩)
  bW : Boxed W E.gW 27 (.slice E.aW E.r.1.length E.cW)
  bP : Boxed W E.gP 3 (.int .i64 E.r.2.1)
  bF : Boxed W E.gF 3 (.int .i64 E.r.2.2)
  own : Mine.Own W 36 3 E.aW E.r.1.length E.cW (toksC E.r.1)
  txt : Mine.Own W 5 1 (some ⟨E.g, 0, none⟩) (E.l.length + 2) E.c5 (bts (List.replicate E.l.length 122 ++ [201, 77]))
  mod : Mod (fun _ => False) E.w W
  l1 : E.w.heap.size + 1 < E.K0
  l2 : E.gB < E.K0
  l3 : E.gW < E.K0
  l4 : E.gP < E.K0
  l5 : E.gF < E.K0
  l6 : ∀ b, blk E.aW = some b → b < E.K0
  l7 : E.g < E.K0
  sz : E.K0 ≤ W.heap.size
theorem EaC.mod' {S : Nat → Prop} {E : EaP} {W W' : World} (h : EaC E W) (m : Mod S W W') (hs : ∀ b, b < E.K0 → ¬ S b) : EaC E W' := by
  have h1 := h.l1
  exact ⟨bx_mod h.bE m (hs _ (by omega)), bx_mod h.bR m (hs _ (by omega)), bx_mod h.bB m (hs _ h.l2), bx_mod h.bW m (hs _ h.l3), bx_mod h.bP m (hs _ h.l4), bx_mod h.bF m (hs _ h.l5),
    h.own.mod m (fun b hb => hs b (h.l6 b hb)), h.txt.mod m (fun b hb => by cases hb; exact hs _ h.l7), h.mod.step m (fun i hi s => (hs i (by omega) s).elim), h1, h.l2, h.l3, h.l4, h.l5, h.l6, h.l7, Nat.le_trans h.sz m.size⟩
theorem EaC.turned {E : EaP} {W W' : World} {row : Option Nat} (h : EaC E W) (hg : W.grownBy W' row) (hr : ∀ r, row = some r → E.K0 ≤ r) : EaC E W' :=
  h.mod' (Mod.ofGrown hg) (fun b hb e => by have := hr b e; omega)

/-- what a round finds -/
def EaI1 (E : EaP) (gN gO lim : Nat) (Ds : List Nat) (pre : List (Tok × Nat)) (W : World) : Prop :=
  EaC E W ∧ Boxed W gN 3 (.int .i64 (min pre.length E.r.1.length : Nat)) ∧ Boxed W gO 4 (.bool (decide (E.r.1.length < pre.length))) ∧ EaD lim Ds W
theorem eaI1_own {E : EaP} {gN gO lim : Nat} {Ds : List Nat} {B : Nat} (h0 : E.K0 ≤ B) (hl : lim ≤ B) : OwnFrom B (EaI1 E gN gO lim Ds) := by
  rintro pre W W' row ⟨h1, h2, h3, h4⟩ hg hr
  have hr2 := fun r e => (hr r e).2
  exact ⟨h1.turned hg (fun r e => Nat.le_trans h0 (hr r e).1), bx_turned h2 hg hr2, bx_turned h3 hg hr2, h4.turned hl hg (fun r e => (hr r e).1)⟩
def EaI2 (E : EaP) (gN lim : Nat) (Ds : List Nat) (pre : List (Tok × Nat)) (W : World) : Prop :=
  EaC E W ∧ Boxed W gN 3 (.int .i64 pre.length) ∧ EaD lim Ds W
theorem eaI2_own {E : EaP} {gN lim : Nat} {Ds : List Nat} {B : Nat} (h0 : E.K0 ≤ B) (hl : lim ≤ B) : OwnFrom B (EaI2 E gN lim Ds) := by
  rintro pre W W' row ⟨h1, h2, h4⟩ hg hr
  have hr2 := fun r e => (hr r e).2
  exact ⟨h1.turned hg (fun r e => Nat.le_trans h0 (hr r e).1), bx_turned h2 hg hr2, h4.turned hl hg (fun r e => (hr r e).1)⟩
def EaX2 (E : EaP) (gN lim : Nat) (Ds : List Nat) (b : Nat) (c : Code) (pre : List (Tok × Nat)) (W : World) : Prop := c = .exit b ∧ EaI2 E gN lim Ds pre W
theorem eaX2_own {E : EaP} {gN lim : Nat} {Ds : List Nat} {b : Nat} {B : Nat} (c : Code) (h0 : E.K0 ≤ B) (hl : lim ≤ B) : OwnFrom B (EaX2 E gN lim Ds b c) :=
  fun pre W W' row h hg hr => ⟨h.1, eaI2_own h0 hl pre W W' row h.2 hg hr⟩
theorem KpL.refl (B : Nat) (W : World) : KpL B W W := ⟨Nat.le_refl _, rfl, rfl, rfl, fun _ _ _ _ => rfl⟩
def EaI3 (E : EaP) (gN gX lim : Nat) (aX : Option Addr) (cX : Nat) (ts : List Tok) (Ds : List Nat) (pre : List (Tok × Nat)) (W : World) : Prop :=
  EaC E W ∧ Boxed W gN 3 (.int .i64 pre.length) ∧ Boxed W gX 27 (.slice aX ts.length cX) ∧ Mine.Own W 36 3 aX ts.length cX (toksC ts) ∧ EaD lim Ds W ∧ lim + 1 ≤ W.heap.size
theorem eaI3_own {E : EaP} {gN gX lim : Nat} {aX : Option Addr} {cX : Nat} {ts : List Tok} {Ds : List Nat} {B : Nat} (h0 : E.K0 ≤ B) (hl : lim ≤ B) : OwnFrom B (EaI3 E gN gX lim aX cX ts Ds) := by
  rintro pre W W' row ⟨h1, h2, h3, h5, h4, h6⟩ hg hr
  have hr2 := fun r e => (hr r e).2
  exact ⟨h1.turned hg (fun r e => Nat.le_trans h0 (hr r e).1), bx_turned h2 hg hr2, bx_turned h3 hg hr2, Mine.Own.turned h5 hg hr2, h4.turned hl hg (fun r e => (hr r e).1), Nat.le_trans h6 hg.size⟩

theorem lexEach_walk (a : Option Addr) (c : Nat) (l : List UInt8) (early : Int) (w : World) (hr : Rd w a (bts l)) (hT : Lib.Utf8Tabs 1 2 w) (hn : l.length ≤ 1048576) (he0 : -9223372036854775808 ≤ early) (he1 : early ≤ 9223372036854775807) :
    Calls Tryd.prog 3 #[.slice a l.length c, .int .i64 early] w fun e w' => e = .returned (.bool true) ∧ Mod (fun _ => False) w w' := by
  have HR := Lib.hid hr; clear hr
  have HT := Lib.hid hT; clear hT
  have HN := Lib.hid num_any
  have H2w := Lib.hid (tabs_lt HT.out)
  obtain ⟨r, hr0⟩ : ∃ r, r = foundL ⟨l.toArray⟩ := ⟨_, rfl⟩
  have hrl : r.1.length ≤ l.length + 1 := by rw [hr0]; exact foundL_len ⟨l.toArray⟩
  have HF := Lib.hid (fun w h => found_any a c l w h (by omega))
  rw [← hr0] at HF
  have HR0 := Lib.hid hr0; clear hr0
  have HFO := Lib.hid (fun a0 c0 w h => found_n (List.replicate l.length 122) l.length List.length_replicate (by omega) a0 c0 w h)
  have hrl2 := foundL_len ⟨(List.replicate l.length (122 : UInt8)).toArray⟩
  have hrl2 : (foundL ⟨(List.replicate l.length (122 : UInt8)).toArray⟩).1.length ≤ l.length + 1 := by
    have e : (⟨(List.replicate l.length (122 : UInt8)).toArray⟩ : ByteArray).size = l.length := by show (List.replicate l.length (122 : UInt8)).length = _; exact List.length_replicate
    rw [e] at hrl2; exact hrl2
  obtain ⟨r2, hr2⟩ : ∃ r2, r2 = foundL ⟨(List.replicate l.length (122 : UInt8)).toArray⟩ := ⟨_, rfl⟩
  rw [← hr2] at HFO hrl2
  have HR2 := Lib.hid hr2; clear hr2
  refine (callsIn_wide (n := 3)).1 ?_
  refine callsIn_of_wp_marks Tryd.func3 rfl trivial ?_ rfl
  simp only [Tryd.ntmps3, List.size_toArray, List.length_cons, List.length_nil, Nat.reduceAdd, Nat.reduceSub, Array.replicate_succ, Array.replicate_zero, List.push_toArray, List.append_toArray, List.nil_append, List.cons_append]
  refine (wpIn_wide (n := 3)).2 ?_
  go_wp2_with fail
  have b0 := (Boxed.new w 3 (.int .i64 early)).alloc (.cells #[.bool false] 4)
  have b1 := Boxed.new (w.alloc (.cells #[.int .i64 early] 3)) 4 (.bool false)
  simp only [World.size_alloc] at b1
  have hm0 : Mod (fun _ => False) w ((w.alloc (.cells #[.int .i64 early] 3)).alloc (.cells #[.bool false] 4)) := ((Mod.refl _ w).alloc _).alloc _
  have hz0 : ((w.alloc (.cells #[.int .i64 early] 3)).alloc (.cells #[.bool false] 4)).heap.size = w.heap.size + 2 := by simp
  obtain ⟨v0, hv0⟩ : ∃ v0, v0 = (w.alloc (.cells #[.int .i64 early] 3)).alloc (.cells #[.bool false] 4) := ⟨_, rfl⟩
  rw [← hv0] at b0 b1 hm0 hz0 ⊢
  clear hv0
  refine (lentB_any a c l v0 (HR.out.mod hm0 (fun _ _ => id)) (by omega)).mono ?_
  rintro e v1 ⟨g, c5, rfl, hg, hgc, hO1, hM1⟩
  go_wp2_with fail
  refine (each_any _ _ l _ (Own.bytes hO1)).mono ?_
  rintro e v2 ⟨rfl, hv2⟩
  have hM12 : Mod (fun _ => False) v1 v2 := by rw [hv2]; exact (Mod.refl _ v1).alloc _
  have hB2 : Boxed v2 v1.heap.size 9 (.string ⟨l.toArray⟩) := by rw [hv2]; exact Boxed.new v1 _ _
  have hz2 : v2.heap.size = v1.heap.size + 1 := by rw [hv2]; simp
  have hM2 := hM1.trans hM12
  have hO2 := hO1.mod hM12 (fun _ _ => id)
  have b0' := bx_mod b0 hM2 id
  have b1' := bx_mod b1 hM2 id
  have hMw2 := hm0.trans hM2
  have hz1 := hM1.size
  have hgl := hO1.lt g rfl
  have HA := Lib.hid (And.intro hB2 (And.intro hO2 (And.intro b0' (And.intro b1' hMw2))))
  clear hv2 hM12 hB2 hM2 hO2 b0 b1 b0' b1' hMw2 hO1 hM1 hm0
  go_wp2_with fail
  refine (HF.out _ (HR.out.mod HA.out.2.2.2.2 (fun _ _ => id))).mono ?_
  rintro e v3 ⟨aW, cW, rfl, hOW, hM3, hFW⟩
  have hz3 := hM3.size
  have hlW := hOW.lt
  have HB := Lib.hid (And.intro hOW (And.intro hM3 (And.intro hFW hlW)))
  clear hOW hM3 hFW hlW HF
  go_wp2_with fail
  obtain ⟨hB2, hO2, b0, b1, hMw2⟩ := HA.out
  obtain ⟨hOW, hM3, hFW, hlW⟩ := HB.out
  have bW := ((Boxed.new v3 27 (.slice aW r.1.length cW)).alloc (.cells #[.int .i64 r.2.1] 3)).alloc (.cells #[.int .i64 r.2.2] 3)
  have bP := (Boxed.new (v3.alloc (.cells #[.slice aW r.1.length cW] 27)) 3 (.int .i64 r.2.1)).alloc (.cells #[.int .i64 r.2.2] 3)
  have bF := Boxed.new ((v3.alloc (.cells #[.slice aW r.1.length cW] 27)).alloc (.cells #[.int .i64 r.2.1] 3)) 3 (.int .i64 r.2.2)
  have hM4 : Mod (fun _ => False) v3 (((v3.alloc (.cells #[.slice aW r.1.length cW] 27)).alloc (.cells #[.int .i64 r.2.1] 3)).alloc (.cells #[.int .i64 r.2.2] 3)) := (((Mod.refl _ v3).alloc _).alloc _).alloc _
  have hz4 : (((v3.alloc (.cells #[.slice aW r.1.length cW] 27)).alloc (.cells #[.int .i64 r.2.1] 3)).alloc (.cells #[.int .i64 r.2.2] 3)).heap.size = v3.heap.size + 3 := by simp
  simp only [World.size_alloc] at bP bF
  obtain ⟨v4, hv4⟩ : ∃ v4, v4 = ((v3.alloc (.cells #[.slice aW r.1.length cW] 27)).alloc (.cells #[.int .i64 r.2.1] 3)).alloc (.cells #[.int .i64 r.2.2] 3) := ⟨_, rfl⟩
  rw [← hv4] at bW bP bF hM4 hz4 ⊢
  clear hv4
  have hM24 := hM3.trans hM4
  refine (keptB_true g c5 a c l v4 (hO2.mod hM24 (fun _ _ => id)) (HR.out.mod (hMw2.trans hM24) (fun _ _ => id)) (by omega)).mono ?_
  rintro e v5 ⟨rfl, hO5, hM5⟩
  have hz5 := hM5.size
  have hgw : w.heap.size ≤ g := by omega
  have hC : EaC ⟨w, v1.heap.size, v3.heap.size, v3.heap.size + 1, v3.heap.size + 1 + 1, g, c5, cW, v5.heap.size, aW, l, early, r⟩ v5 :=
    ⟨bx_mod (bx_mod b0 hM24 id) hM5 (by show ¬ w.heap.size = g; omega), bx_mod (bx_mod b1 hM24 id) hM5 (by show ¬ w.heap.size + 1 = g; omega), bx_mod (bx_mod hB2 hM24 id) hM5 (by show ¬ v1.heap.size = g; omega), bx_mod bW hM5 (by show ¬ v3.heap.size = g; omega), bx_mod bP hM5 (by show ¬ v3.heap.size + 1 = g; omega), bx_mod bF hM5 (by show ¬ v3.heap.size + 1 + 1 = g; omega),
      (hOW.mod hM4 (fun _ _ => id)).mod hM5 (fun b hb e => by have := hFW b hb; omega), hO5, (hMw2.trans hM24).step hM5 (fun i hi e => by omega),
      (by show w.heap.size + 1 < v5.heap.size; omega), (by show v1.heap.size < v5.heap.size; omega), (by show v3.heap.size < v5.heap.size; omega), (by show v3.heap.size + 1 < v5.heap.size; omega), (by show v3.heap.size + 1 + 1 < v5.heap.size; omega), (fun b hb => by have := hlW b hb; show b < v5.heap.size; omega), (by show g < v5.heap.size; omega), Nat.le_refl _⟩
  have HC := Lib.hid hC
  have hw5 : w.heap.size + 2 ≤ v5.heap.size := by omega
  clear hB2 hO2 b0 b1 hMw2 hOW hM3 hFW hlW bW bP bF hM4 hz4 hM24 hO5 hM5 hz5 hgw hC HA HB HR hz0 hz1 hz2 hz3 hg hgc hgl
  have hfn : ∀ w', (binOp .eql 25 (.func (.func 59) #[] #[.pointer (some ⟨v1.heap.size, 0, none⟩)]) .nilFunc).run Tryd.prog w' = .ok (.bool false) w' := fun _ => by kernel_rfl
  go_wp2_with fail
  refine wp_loop_ghost_k (fun k act wr => ∃ (t : Nat) (Ds : List Nat) (u11 u12 u39 u40 u41 u42 u43 u79 u80 u81 u82 u83 u84 u85 u86 u87 u88 : Value), act = { tmps := #[.slice a l.length c, .int .i64 early, undef, .pointer (some ⟨w.heap.size, 0, none⟩), .pointer (some ⟨w.heap.size + 1, 0, none⟩), .slice (some ⟨g, 0, none⟩) l.length c5, .func (.func 59) #[] #[.pointer (some ⟨v1.heap.size, 0, none⟩)], .pointer (some ⟨v3.heap.size, 0, none⟩), .pointer (some ⟨v3.heap.size + 1, 0, none⟩), .pointer (some ⟨v3.heap.size + 1 + 1, 0, none⟩), .int .i64 t, u11, u12, undef, undef, undef, undef, undef, undef, undef, undef, .slice a l.length c, .slice (some ⟨g, 0, none⟩) l.length c5, .slice (some ⟨g, 0, none⟩) l.length c5, .func (.func 59) #[] #[.pointer (some ⟨v1.heap.size, 0, none⟩)], .tuple #[.slice aW r.1.length cW, .int .i64 r.2.1, .int .i64 r.2.2], .slice a l.length c, .tuple #[.slice aW r.1.length cW, .int .i64 r.2.1, .int .i64 r.2.2], .slice aW r.1.length cW, .int .i64 r.2.1, .int .i64 r.2.2, .slice (some ⟨g, 0, none⟩) l.length c5, .slice a l.length c, .bool true, .bool false, .bool false, .func (.func 59) #[] #[.pointer (some ⟨v1.heap.size, 0, none⟩)], .bool false, .bool false, u39, u40, u41, u42, u43, undef, undef, undef, undef, undef, undef, undef, undef, undef, undef, undef, undef, undef, undef, undef, undef, undef, undef, undef, undef, undef, undef, undef, undef, undef, undef, undef, undef, undef, undef, undef, undef, undef, undef, undef, u79, u80, u81, u82, u83, u84, u85, u86, u87, u88, undef, undef, undef, undef, undef, undef, undef, undef, undef, undef, undef, undef, undef, undef, undef, undef, undef, undef, undef, undef, undef, undef, undef, undef, undef, undef, undef, undef, undef, undef, undef, undef, undef, undef, undef, undef, undef, undef, undef, undef, undef, undef, undef, undef, undef, undef, undef], defers := Ds.map fun D => { target := .collected D, args := #[] } } ∧ t ≤ 2 ∧ k = 2 - t ∧ Hid (EaC ⟨w, v1.heap.size, v3.heap.size, v3.heap.size + 1, v3.heap.size + 1 + 1, g, c5, cW, v5.heap.size, aW, l, early, r⟩ wr) ∧ Hid (NdW w.heap.size Ds ∧ EaD wr.heap.size Ds wr)) 2 ⟨0, [], _, _, _, _, _, _, _, _, _, _, _, _, _, _, _, _, _, rfl, by omega, rfl, HC, Lib.hid ⟨⟨List.nodup_nil, fun D hD => by cases hD⟩, fun D hD => by cases hD⟩⟩ ?_
  rintro k act wr ⟨t, Ds, u11, u12, u39, u40, u41, u42, u43, u79, u80, u81, u82, u83, u84, u85, u86, u87, u88, rfl, ht, rfl, hC, hD⟩ J K hJ hK
  have HJ := Lib.hid hJ; have HK := Lib.hid hK; clear hJ hK HC
  by_cases ht2 : t < 2
  · have ht' : decide ((t : Int) < 2) = true := by simp; omega
    go_wp2_with fail
    have b11 := (Boxed.new wr 3 (.int .i64 0)).alloc (.cells #[.bool false] 4)
    have b12 := Boxed.new (wr.alloc (.cells #[.int .i64 0] 3)) 4 (.bool false)
    simp only [World.size_alloc] at b12
    have hmr : Mod (fun _ => False) wr ((wr.alloc (.cells #[.int .i64 0] 3)).alloc (.cells #[.bool false] 4)) := ((Mod.refl _ wr).alloc _).alloc _
    have hzr : ((wr.alloc (.cells #[.int .i64 0] 3)).alloc (.cells #[.bool false] 4)).heap.size = wr.heap.size + 2 := by simp
    obtain ⟨vr, hvr⟩ : ∃ vr, vr = (wr.alloc (.cells #[.int .i64 0] 3)).alloc (.cells #[.bool false] 4) := ⟨_, rfl⟩
    rw [← hvr] at b11 b12 hmr hzr ⊢
    clear hvr
    have hCr := hC.out.mod' hmr (fun _ _ => id)
    have hDr := hD.out.2.mod' hmr (fun _ h => h.elim)
    have hTr := tabs_mod HT.out hCr.mod
    have hszr : v5.heap.size ≤ wr.heap.size := hC.out.sz
    have HI0 : Hid (EaI1 ⟨w, v1.heap.size, v3.heap.size, v3.heap.size + 1, v3.heap.size + 1 + 1, g, c5, cW, v5.heap.size, aW, l, early, r⟩ wr.heap.size (wr.heap.size + 1) wr.heap.size Ds [] vr) := ⟨hCr, b11, b12, hDr⟩
    have hKb := KpL.putObj (w := vr) (B := v1.heap.size) (by have : v1.heap.size < v5.heap.size := hCr.l2; omega) (tabs_lt hTr)
    have hSeq := each_stops 2 v1.heap.size ⟨l.toArray⟩ vr hCr.bB hTr (tabs_lt hTr) (show l.length < 2 ^ 30 by omega)
    rw [← HR0.out] at hSeq
    have hND := Lib.hid hD.out.1
    obtain ⟨gN, hgN⟩ : ∃ gN, gN = wr.heap.size := ⟨_, rfl⟩
    have hlen := ea_len r
    have HLEN := Lib.hid hlen
    clear hlen
    rw [← hgN] at HI0 hzr hszr ⊢
    clear hgN b11 b12 hmr hCr hDr hTr hC hD wr
    refine (wpIn_wide (n := 3)).1 ?_
    refine name_frame (fun T hT => ?_)
    refine wpIn_rangeFunc_ownH rfl (by omega) (gf := 59) (lb := #[.pointer (some ⟨v1.heap.size, 0, none⟩)]) (by rw [hT]; rfl) trivial (enters_of Tryd.func59 (by kernel_rfl) rfl)
      hSeq (fun h k => KpL.trans h k) hKb (Below.refl _ _) (fun _ => rfl) (EaI1 ⟨w, v1.heap.size, v3.heap.size, v3.heap.size + 1, v3.heap.size + 1 + 1, g, c5, cW, v5.heap.size, aW, l, early, r⟩ gN (gN + 1) gN Ds) (fun _ pre _ => ¬ pre <+: seqOf r) (eaI1_own (by show v5.heap.size ≤ _; omega) (by omega)) (fun c _ _ _ _ h _ _ => h) HI0.out
      (fun x a' W => ∃ Bx, gN + 2 ≤ Bx ∧ W.heap[Bx]? = some (.cells (tokC x.1).toArray 32 (0, 0)) ∧ a' = { tmps := (((T.setIfInBounds 44 (encT x.1)).setIfInBounds 45 (.int .i64 x.2)).setIfInBounds 13 (.pointer (some ⟨Bx, 0, none⟩))).setIfInBounds 14 (.int .i64 x.2), defers := [] })
      (fun x a' _ X Y row hs hg hr => by obtain ⟨Bx, h1, h2, h3⟩ := hs; exact ⟨Bx, h1, (Mod.ofGrown hg).at h2 (fun hs => cells_ne (fun r e => (hr r e).2) h2 hs), h3⟩)
      ?assign ?body ?done ?stop
    case assign =>
      rintro l0 pre x W K hi hK
      obtain ⟨⟨xk, xt, xa⟩, xe⟩ := x
      have HW : Hid (gN + 2 ≤ W.heap.size) := by
        have := World.block_lt_of_cell? W _ hi.2.2.1.cell
        show gN + 2 ≤ W.heap.size
        simp only at this
        omega
      have HK := Lib.hid hK
      have HI := Lib.hid hi
      clear hi hK hKb hSeq
      subst hT
      simp only [encI, encT]
      gi_wp2
      have h2w := H2w.out
      have hW := HW.out
      have hl2 : v1.heap.size < v5.heap.size := HI.out.1.l2
      have hl1 : w.heap.size + 1 < v5.heap.size := HI.out.1.l1
      refine HK.out _ _ ((KeepsOthers.alloc _ _).from _) (KpL.of_mod ((Mod.refl (fun _ => False) W).alloc _) (by omega) (by omega) id id id (fun _ _ _ h => h.elim))
        ((eaI1_own (show v5.heap.size ≤ gN by omega) (Nat.le_refl _)).alloc _ HI.out) ⟨W.heap.size, hW, heap_alloc_new W _, ?_⟩
      simp only [encT, List.setIfInBounds_toArray, List.set_cons_succ, List.set_cons_zero]
    case body =>
      rintro l0 pre x a' W hl1 ⟨rc, hrc⟩ hi ⟨Bx, hBx, hbx, rfl⟩ hlt
      obtain ⟨h1, h2, h3, h4⟩ := hi
      obtain ⟨⟨xk, xt, xa⟩, xe⟩ := x
      have hl2 : v1.heap.size < v5.heap.size := h1.l2
      have hl1' : w.heap.size + 1 < v5.heap.size := h1.l1
      have h2w := H2w.out
      have dx0 : W.cell? ⟨Bx, 0, none⟩ = some (.int .i64 xk) := cell_at hbx rfl
      have dx1 : W.cell? ⟨Bx, 1, none⟩ = some (.string xt) := cell_at hbx rfl
      have dx2 : W.cell? ⟨Bx, 2, none⟩ = some (.int .i64 xa) := cell_at hbx rfl
      have d4 : W.cell? ⟨w.heap.size + 1, 0, none⟩ = some (.bool false) := h1.bR.cell
      have f4 : W.frozen? ⟨w.heap.size + 1, 0, none⟩ = false := h1.bR.frozen
      have d7 : W.cell? ⟨v3.heap.size, 0, none⟩ = some (.slice aW r.1.length cW) := h1.bW.cell
      have d8 : W.cell? ⟨v3.heap.size + 1, 0, none⟩ = some (.int .i64 r.2.1) := h1.bP.cell
      have d9 : W.cell? ⟨v3.heap.size + 1 + 1, 0, none⟩ = some (.int .i64 r.2.2) := h1.bF.cell
      have d11 := h2.cell
      have f11 := h2.frozen
      have d12 := h3.cell
      have f12 := h3.frozen
      have HbR : Hid (Boxed W (w.heap.size + 1) 4 (.bool false)) := h1.bR
      have H1 := Lib.hid h1; have H2 := Lib.hid h2; have H3 := Lib.hid h3; have H4 := Lib.hid h4
      have HLT := Lib.hid hlt
      clear h1 h2 h3 h4 hrc hKb hSeq hlt
      subst hT
      simp only [encT, List.setIfInBounds_toArray, List.set_cons_succ, List.set_cons_zero]
      dsimp only at d11 d12
      by_cases hov : r.1.length < pre.length
      · have hno : ¬ (pre ++ [((⟨xk, xt, xa⟩ : Tok), xe)] <+: seqOf r) := fun h => by have := (ea_last h (by omega)).1; omega
        have HNO := Lib.hid hno
        rw [decide_eq_true hov] at d12
        clear hno d11 f11 d7 d8 d9 dx0 dx1 dx2 hov
        gi_wp2_with fail
        have hMv : Mod (fun k => k = w.heap.size + 1) W ((W).setCell ⟨w.heap.size + 1, 0, none⟩ (.bool false)) := Mine.Mod.setCell (S := fun k => k = w.heap.size + 1) (p := ⟨w.heap.size + 1, 0, none⟩) (Mod.refl _ _) (fun _ => rfl) _
        refine ⟨(keepsFrom_mod hMv ?_), HNO.out⟩
        rintro k rfl o ho; have := HbR.out; unfold Boxed at this; first | (rw [this] at ho; cases ho; rfl) | (rw [show (W).heap[w.heap.size + 1]? = _ from this] at ho; cases ho; rfl)
      · rw [decide_eq_false hov] at d12
        by_cases hn' : pre.length < r.1.length
        · rw [Nat.min_eq_left (Nat.le_of_lt hn')] at d11
          have HNL := Lib.hid hn'
          by_cases hxe : xe = 0
          · subst hxe
            obtain ⟨gL, hgL, y0, y1, y2⟩ := own_cell3 (ts := r.1) H1.out.own hn'
            simp only at hgL
            subst hgL
            obtain ⟨b, hb⟩ : ∃ b : Bool, b = true ↔ (⟨xk, xt, xa⟩ : Tok) = r.1[pre.length] := by
              by_cases h : (⟨xk, xt, xa⟩ : Tok) = r.1[pre.length]
              · exact ⟨true, by simp [h]⟩
              · exact ⟨false, by simp [h]⟩
            have HSM := Lib.hid (fun w => same_any _ _ w b hb)
            have HBQ : Hid (b = false → ¬ (pre ++ [((⟨xk, xt, xa⟩ : Tok), 0)] <+: seqOf r)) := fun h1 h => by
              have := congrArg Prod.fst (ea_head h HNL.out)
              have h2 := hb.2 this
              rw [h1] at h2; cases h2
            unfold encT at HSM
            simp only at HSM
            clear hb
            generalize r.1[pre.length] = y at *
            gi_wp2_with fail
            refine wpIn_region_ord (fun w' => (w'.cell? ⟨Bx, 0, none⟩ = some (.int .i64 xk) ∧ w'.cell? ⟨Bx, 1, none⟩ = some (.string xt) ∧ w'.cell? ⟨Bx, 2, none⟩ = some (.int .i64 xa)) ∧ (w'.cell? ⟨v3.heap.size, 0, none⟩ = some (.slice (some ⟨gL, 0, none⟩) r.1.length cW) ∧ w'.cell? ⟨gN, 0, none⟩ = some (.int .i64 pre.length)) ∧ (w'.cell? ⟨gL, pre.length * 3, none⟩ = some (.int .i64 y.kind) ∧ w'.cell? ⟨gL, pre.length * 3 + 1, none⟩ = some (.string y.text) ∧ w'.cell? ⟨gL, pre.length * 3 + 2, none⟩ = some (.int .i64 y.at_))) [(0, 0), (3, 1), (0, 2), (0, 3), (1, 4), (1, 5), (1, 6), (0, 7), (1, 8), (3, 9), (0, 10), (0, 11)] (by kernel_rfl) (by kernel_rfl) (by kernel_rfl) ?_
            go_wp2_with (first
              | (refine ord_pure rfl rfl rfl (fun K hK => ?_); go_big_quiet_op; refine hK _ ?_; clear hK K)
                        | (refine ord_skip rfl rfl ?_; simp only [Act.put, List.setIfInBounds_toArray, List.set_cons_zero, List.set_cons_succ])
                        | (refine ord_held rfl rfl rfl (⟨⟨by simpa using dx0, by simpa using dx1, by simpa using dx2⟩, ⟨by simpa using d7, by simpa using d11⟩, ⟨by simpa using y0, by simpa using y1, by simpa using y2⟩⟩) (fun K hK => ?_); apply Exists.intro; refine ⟨fun w' hs => ?_, hK _ ?_⟩; (revert hs; dsimp only; (try simp only [and_imp]); intros; go_simp; rfl); clear hK K)
                        | (refine ord_keep rfl rfl (⟨⟨by simpa using dx0, by simpa using dx1, by simpa using dx2⟩, ⟨by simpa using d7, by simpa using d11⟩, ⟨by simpa using y0, by simpa using y1, by simpa using y2⟩⟩) (fun K hK => ?_))
                        | (refine ord_drop rfl rfl (fun K hK => ?_))
                        | (refine ord_nil ?_)
              | (go_at_call 17; refine (HN.out _ _).mono ?_; rintro e w' ⟨rfl, rfl⟩)
              | (go_at_call 18; refine (HSM.out _).mono ?_; rintro e w6 ⟨rfl, hM6⟩; have HM6 : Hid (Mod (fun _ => False) W w6) := ((Mod.refl (fun _ => False) W).drew).trans hM6; clear hM6))
            have e11 := HM6.out.cell d11 id
            have g11 := (bx_mod H2.out HM6.out id).frozen
            have e4 := HM6.out.cell d4 id
            have g4 := (bx_mod HbR.out HM6.out id).frozen
            clear d11 f11 d4 f4 d7 d8 d9 d12 f12 dx0 dx1 dx2 y0 y1 y2 HSM
            cases b with
            | true =>
              clear HBQ
              gi_wp2
              have hMv : Mod (fun k => k = gN) W (w6.setCell ⟨gN, 0, none⟩ (.int .i64 ((pre.length : Int) + 1))) := Mine.Mod.setCell (S := fun k => k = gN) (p := ⟨gN, 0, none⟩) (HM6.out.mono (fun _ _ h => h.elim)) (fun _ => rfl) _
              have hbN : Boxed (w6.setCell ⟨gN, 0, none⟩ (.int .i64 ((pre.length : Int) + 1))) gN 3 (.int .i64 (min (pre ++ [((⟨xk, xt, xa⟩ : Tok), 0)]).length r.1.length : Nat)) := by
                have e : ((min (pre ++ [((⟨xk, xt, xa⟩ : Tok), 0)]).length r.1.length : Nat) : Int) = (pre.length : Int) + 1 := by have := HNL.out; simp only [List.length_append, List.length_cons, List.length_nil]; omega
                rw [e]; exact bx_put (bx_mod H2.out HM6.out id) _
              have hbO : Boxed (w6.setCell ⟨gN, 0, none⟩ (.int .i64 ((pre.length : Int) + 1))) (gN + 1) 4 (.bool (decide (r.1.length < (pre ++ [((⟨xk, xt, xa⟩ : Tok), 0)]).length))) := by
                have h3 := bx_mod H3.out hMv (by omega)
                have e : decide (r.1.length < (pre ++ [((⟨xk, xt, xa⟩ : Tok), 0)]).length) = decide (r.1.length < pre.length) := by have := HNL.out; rw [decide_eq_decide]; simp only [List.length_append, List.length_cons, List.length_nil]; omega
                rw [e]; exact h3
              have hcell : ∀ k, k = gN → ∀ o : Obj, W.heap[k]? = some o → o.isCells = true := by
                rintro k rfl o ho; have := H2.out; unfold Boxed at this; rw [this] at ho; cases ho; rfl
              refine ⟨keepsFrom_mod hMv hcell, KpL.of_mod hMv (by have := H1.out.sz; simp only at this; omega) (by have := H1.out.sz; simp only at this; omega) (by omega) (by omega) (by omega) ?_, H1.out.mod' hMv (fun b hb e => by simp only at hb; omega), hbN, hbO, H4.out.mod' hMv hcell⟩
              rintro k cs fz rfl he; have := H2.out; unfold Boxed at this; rw [this] at he; cases he
            | false =>
              have HNO := Lib.hid (HBQ.out rfl)
              clear HBQ
              gi_wp2_with fail
              have hMv : Mod (fun k => k = w.heap.size + 1) W (w6.setCell ⟨w.heap.size + 1, 0, none⟩ (.bool false)) := Mine.Mod.setCell (S := fun k => k = w.heap.size + 1) (p := ⟨w.heap.size + 1, 0, none⟩) (HM6.out.mono (fun _ _ h => h.elim)) (fun _ => rfl) _
              refine ⟨keepsFrom_mod hMv ?_, HNO.out⟩
              rintro k rfl o ho; have := HbR.out; unfold Boxed at this; rw [this] at ho; cases ho; rfl
          · have hno : ¬ (pre ++ [((⟨xk, xt, xa⟩ : Tok), xe)] <+: seqOf r) := fun h => hxe (congrArg Prod.snd (ea_head h HNL.out))
            have HNO := Lib.hid hno
            have hxb : ((xe : Int) != 0) = true := by simp; omega
            clear hno
            gi_wp2_with fail
            refine wpIn_region_ord (fun w' => True) [(0, 0), (3, 1), (0, 2), (0, 3), (1, 4), (1, 5), (1, 6), (0, 7), (1, 8), (3, 9), (0, 10), (0, 11)] (by kernel_rfl) (by kernel_rfl) (by kernel_rfl) ?_
            go_wp2_with (first
              | (refine ord_pure rfl rfl rfl (fun K hK => ?_); go_big_quiet_op; refine hK _ ?_; clear hK K)
                        | (refine ord_skip rfl rfl ?_; simp only [Act.put, List.setIfInBounds_toArray, List.set_cons_zero, List.set_cons_succ])
                        | (refine ord_held rfl rfl rfl (trivial) (fun K hK => ?_); apply Exists.intro; refine ⟨fun w' hs => ?_, hK _ ?_⟩; (revert hs; dsimp only; (try simp only [and_imp]); intros; go_simp; rfl); clear hK K)
                        | (refine ord_keep rfl rfl (trivial) (fun K hK => ?_))
                        | (refine ord_drop rfl rfl (fun K hK => ?_))
                        | (refine ord_nil ?_)
              | (go_at_call 17; refine (HN.out _ _).mono ?_; rintro e w' ⟨rfl, rfl⟩))
            gi_wp2
            have hMv : Mod (fun k => k = w.heap.size + 1) W (W.setCell ⟨w.heap.size + 1, 0, none⟩ (.bool false)).drew := (Mine.Mod.setCell (S := fun k => k = w.heap.size + 1) (p := ⟨w.heap.size + 1, 0, none⟩) (Mod.refl _ _) (fun _ => rfl) _).drew
            refine ⟨keepsFrom_mod hMv ?_, HNO.out⟩
            rintro k rfl o ho; have := HbR.out; unfold Boxed at this; rw [this] at ho; cases ho; rfl
        · obtain hpl : pre.length = r.1.length := by omega
          rw [hpl, Nat.min_self] at d11
          have HPL := Lib.hid hpl
          clear hn'
          by_cases hok : r.2.2 ≠ 0 ∧ xe = r.2.2 ∧ (⟨xk, xt, xa⟩ : Tok) = ⟨0, ⟨#[]⟩, r.2.1⟩
          · obtain ⟨her, rfl, hte⟩ := hok
            rw [tok_iff] at hte
            simp only at hte
            obtain ⟨rfl, rfl, rfl⟩ := hte
            have hxb : ((r.2.2 : Int) != 0) = true := by simp; omega
            have hxc : ((r.2.2 : Int) == 0) = false := by simp; omega
            clear her
            gi_wp2_with fail
            refine wpIn_region_ord (fun w' => (w'.cell? ⟨Bx, 0, none⟩ = some (.int .i64 (0 : Nat)) ∧ w'.cell? ⟨Bx, 1, none⟩ = some (.string ⟨#[]⟩) ∧ w'.cell? ⟨Bx, 2, none⟩ = some (.int .i64 r.2.1)) ∧ w'.cell? ⟨v3.heap.size + 1, 0, none⟩ = some (.int .i64 r.2.1) ∧ w'.cell? ⟨v3.heap.size + 1 + 1, 0, none⟩ = some (.int .i64 r.2.2)) [(1, 0), (0, 1), (0, 2), (0, 3), (1, 5), (2, 4), (0, 6), (0, 7), (0, 8), (1, 9), (1, 10), (0, 11), (0, 12), (0, 13)] (by kernel_rfl) (by kernel_rfl) (by kernel_rfl) ?_
            go_wp2_with (first
              | (refine ord_pure rfl rfl rfl (fun K hK => ?_); go_big_quiet_op; refine hK _ ?_; clear hK K)
                        | (refine ord_skip rfl rfl ?_; simp only [Act.put, List.setIfInBounds_toArray, List.set_cons_zero, List.set_cons_succ])
                        | (refine ord_held rfl rfl rfl (⟨⟨by simpa using dx0, by simpa using dx1, by simpa using dx2⟩, by simpa using d8, by simpa using d9⟩) (fun K hK => ?_); apply Exists.intro; refine ⟨fun w' hs => ?_, hK _ ?_⟩; (revert hs; dsimp only; (try simp only [and_imp]); intros; go_simp; rfl); clear hK K)
                        | (refine ord_keep rfl rfl (⟨⟨by simpa using dx0, by simpa using dx1, by simpa using dx2⟩, by simpa using d8, by simpa using d9⟩) (fun K hK => ?_))
                        | (refine ord_drop rfl rfl (fun K hK => ?_))
                        | (refine ord_nil ?_)
              | (go_at_call 17; refine (HN.out _ _).mono ?_; rintro e w' ⟨rfl, rfl⟩))
            refine hK _ _ (⟨⟨by simpa using dx0, by simpa using dx1, by simpa using dx2⟩, by simpa using d8, by simpa using d9⟩) ?_; clear hK K
            go_wp2_with (first
              | (refine ord_pure rfl rfl rfl (fun K hK => ?_); go_big_quiet_op; refine hK _ ?_; clear hK K)
                        | (refine ord_skip rfl rfl ?_; simp only [Act.put, List.setIfInBounds_toArray, List.set_cons_zero, List.set_cons_succ])
                        | (refine ord_held rfl rfl rfl (⟨⟨by simpa using dx0, by simpa using dx1, by simpa using dx2⟩, by simpa using d8, by simpa using d9⟩) (fun K hK => ?_); apply Exists.intro; refine ⟨fun w' hs => ?_, hK _ ?_⟩; (revert hs; dsimp only; (try simp only [and_imp]); intros; go_simp; rfl); clear hK K)
                        | (refine ord_keep rfl rfl (⟨⟨by simpa using dx0, by simpa using dx1, by simpa using dx2⟩, by simpa using d8, by simpa using d9⟩) (fun K hK => ?_))
                        | (refine ord_drop rfl rfl (fun K hK => ?_))
                        | (refine ord_nil ?_))
            gi_wp2
            have hMv : Mod (fun k => k = gN + 1) W (W.setCell ⟨gN + 1, 0, none⟩ (.bool true)).drew := (Mine.Mod.setCell (S := fun k => k = gN + 1) (p := ⟨gN + 1, 0, none⟩) (Mod.refl _ W) (fun _ => rfl) _).drew
            have hbN : Boxed (W.setCell ⟨gN + 1, 0, none⟩ (.bool true)).drew gN 3 (.int .i64 (min (pre ++ [((⟨0, ⟨#[]⟩, r.2.1⟩ : Tok), r.2.2)]).length r.1.length : Nat)) := by
              have e : min (pre ++ [((⟨0, ⟨#[]⟩, r.2.1⟩ : Tok), r.2.2)]).length r.1.length = min pre.length r.1.length := by have := HPL.out; simp only [List.length_append, List.length_cons, List.length_nil]; omega
              rw [e]; exact bx_mod H2.out hMv (by omega)
            have hbO : Boxed (W.setCell ⟨gN + 1, 0, none⟩ (.bool true)).drew (gN + 1) 4 (.bool (decide (r.1.length < (pre ++ [((⟨0, ⟨#[]⟩, r.2.1⟩ : Tok), r.2.2)]).length))) := by
              have e : decide (r.1.length < (pre ++ [((⟨0, ⟨#[]⟩, r.2.1⟩ : Tok), r.2.2)]).length) = true := by have := HPL.out; simp only [List.length_append, List.length_cons, List.length_nil]; simp; omega
              rw [e]; exact bx_put H3.out _
            have hcell : ∀ k, k = gN + 1 → ∀ o : Obj, W.heap[k]? = some o → o.isCells = true := by
              rintro k rfl o ho; have := H3.out; unfold Boxed at this; rw [this] at ho; cases ho; rfl
            refine ⟨keepsFrom_mod hMv hcell, KpL.of_mod hMv (by have := H1.out.sz; simp only at this; omega) (by have := H1.out.sz; simp only at this; omega) (by omega) (by omega) (by omega) ?_, H1.out.mod' hMv (fun b hb e => by simp only at hb; omega), hbN, hbO, H4.out.mod' hMv hcell⟩
            rintro k cs fz rfl he; have := H3.out; unfold Boxed at this; rw [this] at he; cases he
          · have hno : ¬ (pre ++ [((⟨xk, xt, xa⟩ : Tok), xe)] <+: seqOf r) := fun h => by
              obtain ⟨_, h2, h3⟩ := ea_last h (by omega)
              simp only [Prod.mk.injEq] at h3
              exact hok ⟨h2, h3.2, h3.1⟩
            have HNO := Lib.hid hno
            clear hno
            by_cases her : r.2.2 = 0
            · have hxc : ((r.2.2 : Int) == 0) = true := by simp; omega
              clear hok her
              gi_wp2_with fail
              refine wpIn_region_ord (fun w' => w'.cell? ⟨v3.heap.size + 1 + 1, 0, none⟩ = some (.int .i64 r.2.2)) [(1, 0), (0, 1), (0, 2), (0, 3), (1, 5), (2, 4), (0, 6), (0, 7), (0, 8), (1, 9), (1, 10), (0, 11), (0, 12), (0, 13)] (by kernel_rfl) (by kernel_rfl) (by kernel_rfl) ?_
              go_wp2_with (first
                | (refine ord_pure rfl rfl rfl (fun K hK => ?_); go_big_quiet_op; refine hK _ ?_; clear hK K)
                        | (refine ord_skip rfl rfl ?_; simp only [Act.put, List.setIfInBounds_toArray, List.set_cons_zero, List.set_cons_succ])
                        | (refine ord_held rfl rfl rfl (by simpa using d9) (fun K hK => ?_); apply Exists.intro; refine ⟨fun w' hs => ?_, hK _ ?_⟩; (revert hs; dsimp only; (try simp only [and_imp]); intros; go_simp; rfl); clear hK K)
                        | (refine ord_keep rfl rfl (by simpa using d9) (fun K hK => ?_))
                        | (refine ord_drop rfl rfl (fun K hK => ?_))
                        | (refine ord_nil ?_)
                | (go_at_call 17; refine (HN.out _ _).mono ?_; rintro e w' ⟨rfl, rfl⟩))
              gi_wp2
              have hMv : Mod (fun k => k = w.heap.size + 1) W (W.setCell ⟨w.heap.size + 1, 0, none⟩ (.bool false)).drew := (Mine.Mod.setCell (S := fun k => k = w.heap.size + 1) (p := ⟨w.heap.size + 1, 0, none⟩) (Mod.refl _ _) (fun _ => rfl) _).drew
              refine ⟨keepsFrom_mod hMv ?_, HNO.out⟩
              rintro k rfl o ho; have := HbR.out; unfold Boxed at this; rw [this] at ho; cases ho; rfl
            · have hxc : ((r.2.2 : Int) == 0) = false := by simp; omega
              by_cases hxe : xe = r.2.2
              · subst hxe
                have hne : (⟨xk, xt, xa⟩ : Tok) ≠ ⟨0, ⟨#[]⟩, r.2.1⟩ := fun h => hok ⟨her, rfl, h⟩
                have hnq := tok_ne _ _ hne
                simp only at hnq
                have hnq' : ∀ w, (binOp .neq 32 (.agg #[.int .i64 xk, .string xt, .int .i64 xa]) (.agg #[.int .i64 0, .string ⟨#[]⟩, .int .i64 r.2.1])).run Tryd.prog w = .ok (.bool true) w := hnq
                clear hok her hnq hne
                gi_wp2_with fail
                refine wpIn_region_ord (fun w' => (w'.cell? ⟨Bx, 0, none⟩ = some (.int .i64 xk) ∧ w'.cell? ⟨Bx, 1, none⟩ = some (.string xt) ∧ w'.cell? ⟨Bx, 2, none⟩ = some (.int .i64 xa)) ∧ w'.cell? ⟨v3.heap.size + 1, 0, none⟩ = some (.int .i64 r.2.1) ∧ w'.cell? ⟨v3.heap.size + 1 + 1, 0, none⟩ = some (.int .i64 r.2.2)) [(1, 0), (0, 1), (0, 2), (0, 3), (1, 5), (2, 4), (0, 6), (0, 7), (0, 8), (1, 9), (1, 10), (0, 11), (0, 12), (0, 13)] (by kernel_rfl) (by kernel_rfl) (by kernel_rfl) ?_
                go_wp2_with (first
                  | (refine ord_pure rfl rfl rfl (fun K hK => ?_); go_big_quiet_op; refine hK _ ?_; clear hK K)
                        | (refine ord_skip rfl rfl ?_; simp only [Act.put, List.setIfInBounds_toArray, List.set_cons_zero, List.set_cons_succ])
                        | (refine ord_held rfl rfl rfl (⟨⟨by simpa using dx0, by simpa using dx1, by simpa using dx2⟩, by simpa using d8, by simpa using d9⟩) (fun K hK => ?_); apply Exists.intro; refine ⟨fun w' hs => ?_, hK _ ?_⟩; (revert hs; dsimp only; (try simp only [and_imp]); intros; go_simp; rfl); clear hK K)
                        | (refine ord_keep rfl rfl (⟨⟨by simpa using dx0, by simpa using dx1, by simpa using dx2⟩, by simpa using d8, by simpa using d9⟩) (fun K hK => ?_))
                        | (refine ord_drop rfl rfl (fun K hK => ?_))
                        | (refine ord_nil ?_)
                  | (go_at_call 17; refine (HN.out _ _).mono ?_; rintro e w' ⟨rfl, rfl⟩))
                refine hK _ _ (⟨⟨by simpa using dx0, by simpa using dx1, by simpa using dx2⟩, by simpa using d8, by simpa using d9⟩) ?_; clear hK K
                go_wp2_with (first
                  | (refine ord_pure rfl rfl rfl (fun K hK => ?_); go_big_quiet_op; refine hK _ ?_; clear hK K)
                        | (refine ord_skip rfl rfl ?_; simp only [Act.put, List.setIfInBounds_toArray, List.set_cons_zero, List.set_cons_succ])
                        | (refine ord_held rfl rfl rfl (⟨⟨by simpa using dx0, by simpa using dx1, by simpa using dx2⟩, by simpa using d8, by simpa using d9⟩) (fun K hK => ?_); apply Exists.intro; refine ⟨fun w' hs => ?_, hK _ ?_⟩; (revert hs; dsimp only; (try simp only [and_imp]); intros; go_simp; rfl); clear hK K)
                        | (refine ord_keep rfl rfl (⟨⟨by simpa using dx0, by simpa using dx1, by simpa using dx2⟩, by simpa using d8, by simpa using d9⟩) (fun K hK => ?_))
                        | (refine ord_drop rfl rfl (fun K hK => ?_))
                        | (refine ord_nil ?_))
                gi_wp2
                have hMv : Mod (fun k => k = w.heap.size + 1) W (W.setCell ⟨w.heap.size + 1, 0, none⟩ (.bool false)).drew := (Mine.Mod.setCell (S := fun k => k = w.heap.size + 1) (p := ⟨w.heap.size + 1, 0, none⟩) (Mod.refl _ _) (fun _ => rfl) _).drew
                refine ⟨keepsFrom_mod hMv ?_, HNO.out⟩
                rintro k rfl o ho; have := HbR.out; unfold Boxed at this; rw [this] at ho; cases ho; rfl
              · have hxb : ((xe : Int) != (r.2.2 : Int)) = true := by simp; omega
                clear hok her hxe
                gi_wp2_with fail
                refine wpIn_region_ord (fun w' => w'.cell? ⟨v3.heap.size + 1 + 1, 0, none⟩ = some (.int .i64 r.2.2)) [(1, 0), (0, 1), (0, 2), (0, 3), (1, 5), (2, 4), (0, 6), (0, 7), (0, 8), (1, 9), (1, 10), (0, 11), (0, 12), (0, 13)] (by kernel_rfl) (by kernel_rfl) (by kernel_rfl) ?_
                go_wp2_with (first
                  | (refine ord_pure rfl rfl rfl (fun K hK => ?_); go_big_quiet_op; refine hK _ ?_; clear hK K)
                        | (refine ord_skip rfl rfl ?_; simp only [Act.put, List.setIfInBounds_toArray, List.set_cons_zero, List.set_cons_succ])
                        | (refine ord_held rfl rfl rfl (by simpa using d9) (fun K hK => ?_); apply Exists.intro; refine ⟨fun w' hs => ?_, hK _ ?_⟩; (revert hs; dsimp only; (try simp only [and_imp]); intros; go_simp; rfl); clear hK K)
                        | (refine ord_keep rfl rfl (by simpa using d9) (fun K hK => ?_))
                        | (refine ord_drop rfl rfl (fun K hK => ?_))
                        | (refine ord_nil ?_)
                  | (go_at_call 17; refine (HN.out _ _).mono ?_; rintro e w' ⟨rfl, rfl⟩))
                refine hK _ _ (by simpa using d9) ?_; clear hK K
                go_wp2_with (first
                  | (refine ord_pure rfl rfl rfl (fun K hK => ?_); go_big_quiet_op; refine hK _ ?_; clear hK K)
                        | (refine ord_skip rfl rfl ?_; simp only [Act.put, List.setIfInBounds_toArray, List.set_cons_zero, List.set_cons_succ])
                        | (refine ord_held rfl rfl rfl (by simpa using d9) (fun K hK => ?_); apply Exists.intro; refine ⟨fun w' hs => ?_, hK _ ?_⟩; (revert hs; dsimp only; (try simp only [and_imp]); intros; go_simp; rfl); clear hK K)
                        | (refine ord_keep rfl rfl (by simpa using d9) (fun K hK => ?_))
                        | (refine ord_drop rfl rfl (fun K hK => ?_))
                        | (refine ord_nil ?_))
                gi_wp2
                have hMv : Mod (fun k => k = w.heap.size + 1) W (W.setCell ⟨w.heap.size + 1, 0, none⟩ (.bool false)).drew := (Mine.Mod.setCell (S := fun k => k = w.heap.size + 1) (p := ⟨w.heap.size + 1, 0, none⟩) (Mod.refl _ _) (fun _ => rfl) _).drew
                refine ⟨keepsFrom_mod hMv ?_, HNO.out⟩
                rintro k rfl o ho; have := HbR.out; unfold Boxed at this; rw [this] at ho; cases ho; rfl
    case done =>
      rintro D xs W hD rfl hi hK2
      obtain ⟨h1, h2, h3, h4⟩ := hi
      have d7 : W.cell? ⟨v3.heap.size, 0, none⟩ = some (.slice aW r.1.length cW) := h1.bW.cell
      have d9 : W.cell? ⟨v3.heap.size + 1 + 1, 0, none⟩ = some (.int .i64 r.2.2) := h1.bF.cell
      have d11 := h2.cell
      have d12 := h3.cell
      simp only at d11 d12
      rw [HLEN.out] at d11 d12
      have H1 := Lib.hid h1; have H4 := Lib.hid h4; have HK2 := Lib.hid hK2; have HD := Lib.hid hD
      clear h1 h2 h3 h4 hK2 hD hKb hSeq
      rw [Nat.min_eq_right (by omega)] at d11
      subst hT
      by_cases her : r.2.2 = 0
      · rw [if_pos her, decide_eq_false (by omega)] at d12
        have hxb : ((r.2.2 : Int) != 0) = false := by simp; omega
        go_wp2_with fail
        refine HK.out _ _ (Handed.intro (2 - (t + 1)) (by omega) (HJ.out _ _ _ ⟨t + 1, D :: Ds, _, _, _, _, _, _, _, _, _, _, _, _, _, _, _, _, _, rfl, by omega, rfl, H1, Lib.hid ⟨?_, ?_⟩⟩))
        · exact hND.out.cons (fun hm => by have := (H4.out D hm).1; have := HD.out; omega) (by have := HD.out; omega)
        · intro D' hD'
          rcases List.mem_cons.1 hD' with rfl | hD'
          · exact ⟨(Array.getElem?_eq_some_iff.1 HK2.out).1, HK2.out⟩
          · have h := H4.out D' hD'
            exact ⟨(Array.getElem?_eq_some_iff.1 h.2).1, h.2⟩
      · rw [if_neg her, decide_eq_true (by omega)] at d12
        have hxb : ((r.2.2 : Int) != 0) = true := by simp; omega
        go_wp2_with fail
        refine HK.out _ _ (Handed.intro (2 - (t + 1)) (by omega) (HJ.out _ _ _ ⟨t + 1, D :: Ds, _, _, _, _, _, _, _, _, _, _, _, _, _, _, _, _, _, rfl, by omega, rfl, H1, Lib.hid ⟨?_, ?_⟩⟩))
        · exact hND.out.cons (fun hm => by have := (H4.out D hm).1; have := HD.out; omega) (by have := HD.out; omega)
        · intro D' hD'
          rcases List.mem_cons.1 hD' with rfl | hD'
          · exact ⟨(Array.getElem?_eq_some_iff.1 HK2.out).1, HK2.out⟩
          · have h := H4.out D' hD'
            exact ⟨(Array.getElem?_eq_some_iff.1 h.2).1, h.2⟩
    case stop =>
      rintro D cc pre W hD hpre hx hK
      exact absurd hpre hx
  · obtain rfl : t = 2 := by omega
    go_wp2_with fail
    have b15 := Boxed.new wr 3 (.int .i64 0)
    have hmr : Mod (fun _ => False) wr (wr.alloc (.cells #[.int .i64 0] 3)) := (Mod.refl _ wr).alloc _
    have hzr : (wr.alloc (.cells #[.int .i64 0] 3)).heap.size = wr.heap.size + 1 := by simp
    obtain ⟨vr, hvr⟩ : ∃ vr, vr = wr.alloc (.cells #[.int .i64 0] 3) := ⟨_, rfl⟩
    rw [← hvr] at b15 hmr hzr ⊢
    clear hvr
    have hCr := hC.out.mod' hmr (fun _ _ => id)
    have hDr := hD.out.2.mod' hmr (fun _ h => h.elim)
    have hTr := tabs_mod HT.out hCr.mod
    have hszr : v5.heap.size ≤ wr.heap.size := hC.out.sz
    have HI0 : Hid (EaI2 ⟨w, v1.heap.size, v3.heap.size, v3.heap.size + 1, v3.heap.size + 1 + 1, g, c5, cW, v5.heap.size, aW, l, early, r⟩ wr.heap.size wr.heap.size Ds [] vr) := ⟨hCr, b15, hDr⟩
    have hKb := KpL.putObj (w := vr) (B := v1.heap.size) (by have : v1.heap.size < v5.heap.size := hCr.l2; omega) (tabs_lt hTr)
    have hSeq := each_stops 2 v1.heap.size ⟨l.toArray⟩ vr hCr.bB hTr (tabs_lt hTr) (show l.length < 2 ^ 30 by omega)
    rw [← HR0.out] at hSeq
    have hND := Lib.hid hD.out.1
    obtain ⟨gN, hgN⟩ : ∃ gN, gN = wr.heap.size := ⟨_, rfl⟩
    have hlen := ea_len r
    have hlen2 : (seqOf r).length ≤ r.1.length + 1 := by rw [hlen]; split <;> omega
    have HLEN := Lib.hid hlen2
    clear hlen hlen2
    rw [← hgN] at HI0 hzr hszr ⊢
    clear hgN b15 hmr hCr hDr hTr hC hD wr
    refine (wpIn_wide (n := 3)).1 ?_
    refine name_frame (fun T hT => ?_)
    refine wpIn_rangeFunc_ownH rfl (by omega) (gf := 59) (lb := #[.pointer (some ⟨v1.heap.size, 0, none⟩)]) (by rw [hT]; rfl) trivial (enters_of Tryd.func59 (by kernel_rfl) rfl)
      hSeq (fun h k => KpL.trans h k) hKb (Below.refl _ _) (fun _ => rfl) (EaI2 ⟨w, v1.heap.size, v3.heap.size, v3.heap.size + 1, v3.heap.size + 1 + 1, g, c5, cW, v5.heap.size, aW, l, early, r⟩ gN gN Ds) (EaX2 ⟨w, v1.heap.size, v3.heap.size, v3.heap.size + 1, v3.heap.size + 1 + 1, g, c5, cW, v5.heap.size, aW, l, early, r⟩ gN gN Ds 4) (eaI2_own (by show v5.heap.size ≤ _; omega) (by omega)) (fun c => eaX2_own c (by show v5.heap.size ≤ _; omega) (by omega)) HI0.out
      (fun x a' W => a' = { tmps := ((T.setIfInBounds 90 (encT x.1)).setIfInBounds 91 (.int .i64 x.2)), defers := [] })
      (fun x a' _ X Y row hs hg hr => hs)
      ?assign ?body ?done ?stop
    case assign =>
      rintro l0 pre x W K hi hK
      obtain ⟨⟨xk, xt, xa⟩, xe⟩ := x
      have hsW : W.heap.size ≤ W.heap.size := Nat.le_refl _
      have HK := Lib.hid hK
      have HI := Lib.hid hi
      clear hi hK hKb hSeq
      subst hT
      simp only [encI, encT]
      gi_wp2
      refine HK.out _ _ (KeepsFrom.refl _ _) (KpL.refl _ _) HI.out ?_
      simp only [encT, List.setIfInBounds_toArray, List.set_cons_succ, List.set_cons_zero]
    case body =>
      rintro l0 pre x a' W hl1 ⟨rc, hrc⟩ hi rfl hlt
      obtain ⟨h1, h2, h4⟩ := hi
      obtain ⟨⟨xk, xt, xa⟩, xe⟩ := x
      have hl2 : v1.heap.size < v5.heap.size := h1.l2
      have hl1' : w.heap.size + 1 < v5.heap.size := h1.l1
      have h2w := H2w.out
      have d3 : W.cell? ⟨w.heap.size, 0, none⟩ = some (.int .i64 early) := h1.bE.cell
      have d15 := h2.cell
      have f15 := h2.frozen
      have hlb : pre.length ≤ 2000000 := by have := HLEN.out; omega
      have H1 := Lib.hid h1; have H2 := Lib.hid h2; have H4 := Lib.hid h4
      clear h1 h2 h4 hrc hKb hSeq hlt
      subst hT
      simp only [encT, List.setIfInBounds_toArray, List.set_cons_succ, List.set_cons_zero]
      have hMv : Mod (fun k => k = gN) W (W.setCell ⟨gN, 0, none⟩ (.int .i64 ((pre.length : Int) + 1))) := Mine.Mod.setCell (S := fun k => k = gN) (p := ⟨gN, 0, none⟩) (Mod.refl _ W) (fun _ => rfl) _
      have hbN : Boxed (W.setCell ⟨gN, 0, none⟩ (.int .i64 ((pre.length : Int) + 1))) gN 3 (.int .i64 ((pre ++ [((⟨xk, xt, xa⟩ : Tok), xe)]).length : Nat)) := by
        have e : (((pre ++ [((⟨xk, xt, xa⟩ : Tok), xe)]).length : Nat) : Int) = (pre.length : Int) + 1 := by simp
        rw [e]; exact bx_put H2.out _
      have hcell : ∀ k, k = gN → ∀ o : Obj, W.heap[k]? = some o → o.isCells = true := by
        rintro k rfl o ho; have := H2.out; unfold Boxed at this; rw [this] at ho; cases ho; rfl
      have hmk : ∀ (k : Nat) (cs : Array Value) (fz : Nat × Nat), k = gN → W.heap[k]? ≠ some (Obj.cells cs tMark fz) := by
        rintro k cs fz rfl he; have := H2.out; unfold Boxed at this; rw [this] at he; cases he
      have hne3 : w.heap.size ≠ gN := by omega
      have hC' := H1.out.mod' hMv (fun b hb e => by simp only at hb; omega)
      have HM := Lib.hid hMv; have HbN := Lib.hid hbN; have HCL := Lib.hid hcell; have HMK := Lib.hid hmk; have HC' := Lib.hid hC'
      have hsz : v5.heap.size ≤ W.heap.size := H1.out.sz
      clear hMv hbN hcell hmk hC'
      by_cases hgt : early < (pre.length : Int) + 1
      · gi_wp2_with fail
        exact ⟨keepsFrom_mod HM.out HCL.out, rfl, HC'.out, HbN.out, H4.out.mod' HM.out HCL.out⟩
      · gi_wp2_with fail
        exact ⟨keepsFrom_mod HM.out HCL.out, KpL.of_mod HM.out (by omega) (by omega) (by omega) (by omega) (by omega) HMK.out, HC'.out, HbN.out, H4.out.mod' HM.out HCL.out⟩
    case done =>
      rintro D xs W hD rfl hi hK2
      obtain ⟨h1, h2, h4⟩ := hi
      have hm := HLEN.out
      generalize seqOf r = xs at *
      obtain ⟨m, hmm⟩ : ∃ m, m = xs.length := ⟨_, rfl⟩
      have d15 : W.cell? ⟨gN, 0, none⟩ = some (.int .i64 m) := by rw [hmm]; exact h2.cell
      have b15 : Boxed W gN 3 (.int .i64 m) := by rw [hmm]; exact h2
      have f15 := h2.frozen
      rw [← hmm] at hm
      have d7 : W.cell? ⟨v3.heap.size, 0, none⟩ = some (.slice aW r.1.length cW) := h1.bW.cell
      have hgt : decide ((r.1.length : Int) + 1 < (m : Int)) = false := by simp; omega
      have hDD : EaD W.heap.size (D :: Ds) W := by
        intro D' hD'
        rcases List.mem_cons.1 hD' with rfl | hD'
        · exact ⟨(Array.getElem?_eq_some_iff.1 hK2).1, hK2⟩
        · have h := h4 D' hD'
          exact ⟨(Array.getElem?_eq_some_iff.1 h.2).1, h.2⟩
      have hNN : NdW w.heap.size (D :: Ds) := hND.out.cons (fun hm => by have := (h4 D hm).1; omega) (by omega)
      have hFO := fun c0 => HFO.out _ c0 W (Own.bytes h1.txt)
      have HFO2 := Lib.hid hFO
      have H1 := Lib.hid h1; have HB15 := Lib.hid b15; have HDD := Lib.hid hDD; have HNN := Lib.hid hNN; have HM := Lib.hid hm
      have hszW : v5.heap.size ≤ W.heap.size := h1.sz
      have hgW : gN < W.heap.size := World.block_lt_of_cell? W _ h2.cell
      clear h1 h2 h4 hK2 hD b15 hDD hNN hm hmm hFO hKb hSeq HI0 HJ HK hND xs HLEN
      subst hT
      go_wp2_with fail
      refine (HFO2.out c5).mono ?_
      rintro e v6 ⟨aX, cX, rfl, hOX, hM6, hFX⟩
      have hA6 := hM6.alloc (.cells #[.slice aX r2.1.length cX] 27)
      have bN6 := bx_mod HB15.out hA6 id
      have d15 := bN6.cell
      have f15 := bN6.frozen
      have bX6 := Boxed.new v6 27 (.slice aX r2.1.length cX)
      have hz6 : (v6.alloc (.cells #[.slice aX r2.1.length cX] 27)).heap.size = v6.heap.size + 1 := by simp
      have hs6 := hM6.size
      have hOX' := hOX.mod ((Mod.refl (fun _ => False) v6).alloc (.cells #[.slice aX r2.1.length cX] 27)) (fun _ _ => id)
      have hlX := hOX.lt
      have hC6 := H1.out.mod' hA6 (fun _ _ => id)
      have hD6 := HDD.out.mod' hA6 (fun _ h => h.elim)
      have HOX := Lib.hid hOX'; have HA6 := Lib.hid hA6; have HFX := Lib.hid hFX; have HLX := Lib.hid hlX; have HC6 := Lib.hid hC6; have HD6 := Lib.hid hD6; have HBN6 := Lib.hid bN6; have HBX6 := Lib.hid bX6; have HZ6 := Lib.hid hz6
      clear hOX hOX' hA6 hFX hlX hC6 hD6 bN6 bX6 hz6 HFO2 HB15 H1 HDD hM6
      go_wp2_with fail
      have hMs : Mod (fun k => k = gN) (v6.alloc (.cells #[.slice aX r2.1.length cX] 27)) ((v6.alloc (.cells #[.slice aX r2.1.length cX] 27)).setCell ⟨gN, 0, none⟩ (.int .i64 0)) := Mine.Mod.setCell (S := fun k => k = gN) (p := ⟨gN, 0, none⟩) (Mod.refl _ _) (fun _ => rfl) _
      have bN7 := bx_put HBN6.out (.int .i64 0)
      have bX7 := bx_mod HBX6.out hMs (by omega)
      have hOX7 := HOX.out.mod hMs (fun b hb e => by have := HFX.out b hb; omega)
      have hC7 := HC6.out.mod' hMs (fun b hb e => by simp only at hb; omega)
      have hD7 := HD6.out.mod' hMs (by rintro k rfl o ho; have := HBN6.out; unfold Boxed at this; rw [this] at ho; cases ho; rfl)
      have hz7 : ((v6.alloc (.cells #[.slice aX r2.1.length cX] 27)).setCell ⟨gN, 0, none⟩ (.int .i64 0)).heap.size = v6.heap.size + 1 := by simp
      obtain ⟨v7, hv7⟩ : ∃ v7, v7 = (v6.alloc (.cells #[.slice aX r2.1.length cX] 27)).setCell ⟨gN, 0, none⟩ (.int .i64 0) := ⟨_, rfl⟩
      rw [← hv7] at bN7 bX7 hOX7 hC7 hD7 hz7 ⊢
      clear hv7 hMs HBN6 HBX6 HOX HC6 HD6 HA6 HZ6 d15 f15
      refine (each_n (List.replicate l.length 122) l.length List.length_replicate _ c5 v7 (Own.bytes hC7.txt)).mono ?_
      rintro e v8 ⟨rfl, hv8⟩
      have hM78 : Mod (fun _ => False) v7 v8 := by rw [hv8]; exact (Mod.refl _ v7).alloc _
      have hB8 : Boxed v8 v7.heap.size 9 (.string ⟨(List.replicate l.length (122 : UInt8)).toArray⟩) := by rw [hv8]; exact Boxed.new v7 _ _
      have hz8 : v8.heap.size = v7.heap.size + 1 := by rw [hv8]; simp
      have hC8 := hC7.mod' hM78 (fun _ _ => id)
      have hT8 := tabs_mod HT.out hC8.mod
      have HI0 : Hid (EaI3 ⟨w, v1.heap.size, v3.heap.size, v3.heap.size + 1, v3.heap.size + 1 + 1, g, c5, cW, v5.heap.size, aW, l, early, r⟩ gN v6.heap.size v7.heap.size aX cX r2.1 (D :: Ds) [] v8) := ⟨hC8, bx_mod bN7 hM78 id, bx_mod bX7 hM78 id, hOX7.mod hM78 (fun _ _ => id), fun D' hD' => by
        have h := hD7.mod' hM78 (fun _ h => h.elim) D' hD'
        exact ⟨by have := h.1; omega, h.2⟩, by omega⟩
      have hKb := KpL.putObj (w := v8) (B := v7.heap.size) (by omega) (tabs_lt hT8)
      have hSeq := each_stops 2 v7.heap.size ⟨(List.replicate l.length (122 : UInt8)).toArray⟩ v8 hB8 hT8 (tabs_lt hT8) (by show (List.replicate l.length (122 : UInt8)).length < 2 ^ 30; rw [List.length_replicate]; omega)
      rw [← HR2.out] at hSeq
      have hlen := ea_len r2
      have hlen2 : (seqOf r2).length ≤ r2.1.length + 1 := by rw [hlen]; split <;> omega
      have HLEN := Lib.hid hlen; have HLEN2 := Lib.hid hlen2
      have hg8 : gN < v6.heap.size ∧ v6.heap.size < v7.heap.size ∧ v8.heap.size = v7.heap.size + 1 := ⟨by omega, by omega, hz8⟩
      have HG8 := Lib.hid hg8
      clear hlen hlen2 hv8 bN7 bX7 hOX7 hC7 hD7 hz7 hM78 hB8 hz8 hC8 hT8 hg8
      go_wp2_with fail
      refine (wpIn_wide (n := 3)).1 ?_
      refine name_frame (fun T hT => ?_)
      refine wpIn_rangeFunc_ownH rfl (by omega) (gf := 59) (lb := #[.pointer (some ⟨v7.heap.size, 0, none⟩)]) (by rw [hT]; rfl) trivial (enters_of Tryd.func59 (by kernel_rfl) rfl)
        hSeq (fun h k => KpL.trans h k) hKb (Below.refl _ _) (fun _ => rfl) (EaI3 ⟨w, v1.heap.size, v3.heap.size, v3.heap.size + 1, v3.heap.size + 1 + 1, g, c5, cW, v5.heap.size, aW, l, early, r⟩ gN v6.heap.size v7.heap.size aX cX r2.1 (D :: Ds)) (fun _ pre _ => ¬ pre <+: seqOf r2) (eaI3_own (by show v5.heap.size ≤ _; have := HG8.out; omega) (by have := HG8.out; omega)) (fun c _ _ _ _ h _ _ => h) HI0.out
        (fun x a' W => ∃ Bx, v8.heap.size ≤ Bx ∧ W.heap[Bx]? = some (.cells (tokC x.1).toArray 32 (0, 0)) ∧ a' = { tmps := (((T.setIfInBounds 110 (encT x.1)).setIfInBounds 111 (.int .i64 x.2)).setIfInBounds 19 (.pointer (some ⟨Bx, 0, none⟩))).setIfInBounds 20 (.int .i64 x.2), defers := [] })
        (fun x a' _ X Y row hs hg hr => by obtain ⟨Bx, h1, h2, h3⟩ := hs; exact ⟨Bx, h1, (Mod.ofGrown hg).at h2 (fun hs => cells_ne (fun r e => (hr r e).2) h2 hs), h3⟩)
        ?assignA ?bodyA ?doneA ?stopA
      case assignA =>
        rintro l0 pre x W3 K hi hK
        obtain ⟨⟨xk, xt, xa⟩, xe⟩ := x
        have HW : Hid (v8.heap.size ≤ W3.heap.size) := by
          have := hi.2.2.2.2.2
          have h8 := HG8.out
          show v8.heap.size ≤ W3.heap.size
          omega
        have HK := Lib.hid hK
        have HI := Lib.hid hi
        clear hi hK hKb hSeq
        subst hT
        simp only [encI, encT]
        gi_wp2
        have h2w := H2w.out
        have hW := HW.out
        have h8 := HG8.out
        have hl2 : v1.heap.size < v5.heap.size := HI.out.1.l2
        have hl1 : w.heap.size + 1 < v5.heap.size := HI.out.1.l1
        refine HK.out _ _ ((KeepsOthers.alloc _ _).from _) (KpL.of_mod ((Mod.refl (fun _ => False) W3).alloc _) (by omega) (by omega) id id id (fun _ _ _ h => h.elim))
          ((eaI3_own (show v5.heap.size ≤ v8.heap.size by omega) (show v7.heap.size ≤ v8.heap.size by omega)).alloc _ HI.out) ⟨W3.heap.size, hW, heap_alloc_new W3 _, ?_⟩
        simp only [encT, List.setIfInBounds_toArray, List.set_cons_succ, List.set_cons_zero]
      case bodyA =>
        rintro l0 pre x a' W3 hl1 ⟨rc, hrc⟩ hi ⟨Bx, hBx, hbx, rfl⟩ hlt
        obtain ⟨h1, h2, h3, h5, h4, h6⟩ := hi
        obtain ⟨⟨xk, xt, xa⟩, xe⟩ := x
        have hl2 : v1.heap.size < v5.heap.size := h1.l2
        have hl1' : w.heap.size + 1 < v5.heap.size := h1.l1
        have h2w := H2w.out
        have h8 := HG8.out
        have hsz : v5.heap.size ≤ W3.heap.size := h1.sz
        have dx0 : W3.cell? ⟨Bx, 0, none⟩ = some (.int .i64 xk) := cell_at hbx rfl
        have dx1 : W3.cell? ⟨Bx, 1, none⟩ = some (.string xt) := cell_at hbx rfl
        have dx2 : W3.cell? ⟨Bx, 2, none⟩ = some (.int .i64 xa) := cell_at hbx rfl
        have d4 : W3.cell? ⟨w.heap.size + 1, 0, none⟩ = some (.bool false) := h1.bR.cell
        have f4 : W3.frozen? ⟨w.heap.size + 1, 0, none⟩ = false := h1.bR.frozen
        have d15 := h2.cell
        have f15 := h2.frozen
        have d16 := h3.cell
        have HbR : Hid (Boxed W3 (w.heap.size + 1) 4 (.bool false)) := h1.bR
        have hlb : pre.length ≤ 2000000 := by have := HLEN2.out; omega
        have hcell : ∀ k, k = gN → ∀ o : Obj, W3.heap[k]? = some o → o.isCells = true := by
          rintro k rfl o ho; unfold Boxed at h2; rw [h2] at ho; cases ho; rfl
        have hmk : ∀ (k : Nat) (cs : Array Value) (fz : Nat × Nat), k = gN → W3.heap[k]? ≠ some (Obj.cells cs tMark fz) := by
          rintro k cs fz rfl he; unfold Boxed at h2; rw [h2] at he; cases he
        have hszX : v6.heap.size < W3.heap.size := World.block_lt_of_cell? W3 _ h3.cell
        have hoX : ∀ b, blk aX = some b → b ≠ gN := fun b hb e => by have := HFX.out b hb; omega
        have HGO : Hid (∀ w6 : World, Mod (fun _ => False) W3 w6 → ownPostG v8.heap.size (KpL v7.heap.size) (EaI3 ⟨w, v1.heap.size, v3.heap.size, v3.heap.size + 1, v3.heap.size + 1 + 1, g, c5, cW, v5.heap.size, aW, l, early, r⟩ gN v6.heap.size v7.heap.size aX cX r2.1 (D :: Ds)) (fun _ pre _ => ¬ pre <+: seqOf r2) (pre ++ [((⟨xk, xt, xa⟩ : Tok), xe)]) W3 .normal { tmps := #[], defers := [] } (w6.setCell ⟨gN, 0, none⟩ (.int .i64 ((pre.length : Int) + 1)))) := by
          intro w6 hM6
          have hMv : Mod (fun k => k = gN) W3 (w6.setCell ⟨gN, 0, none⟩ (.int .i64 ((pre.length : Int) + 1))) := Mine.Mod.setCell (S := fun k => k = gN) (p := ⟨gN, 0, none⟩) (hM6.mono (fun _ _ h => h.elim)) (fun _ => rfl) _
          have hbN : Boxed (w6.setCell ⟨gN, 0, none⟩ (.int .i64 ((pre.length : Int) + 1))) gN 3 (.int .i64 ((pre ++ [((⟨xk, xt, xa⟩ : Tok), xe)]).length : Nat)) := by
            have e : (((pre ++ [((⟨xk, xt, xa⟩ : Tok), xe)]).length : Nat) : Int) = (pre.length : Int) + 1 := by simp
            rw [e]; exact bx_put (bx_mod h2 hM6 id) _
          exact ⟨keepsFrom_mod hMv hcell, KpL.of_mod hMv (by omega) (by omega) (by omega) (by omega) (by omega) hmk, h1.mod' hMv (fun b hb e => by simp only at hb; omega), hbN, bx_mod h3 hMv (by omega), h5.mod hMv hoX, h4.mod' hMv hcell, Nat.le_trans h6 hMv.size⟩
        have H1 := Lib.hid h1; have H2 := Lib.hid h2; have H3 := Lib.hid h3; have H4 := Lib.hid h4; have H5 := Lib.hid h5
        clear h1 h2 h3 h4 h5 hrc hKb hSeq hlt hcell hmk hoX
        subst hT
        simp only [encT, List.setIfInBounds_toArray, List.set_cons_succ, List.set_cons_zero]
        by_cases hxe : xe = 0
        · subst hxe
          by_cases hn' : pre.length < r2.1.length
          · have HNL := Lib.hid hn'
            obtain ⟨gL, rfl, y0, y1, y2⟩ := own_cell3 (ts := r2.1) H5.out hn'
            obtain ⟨b, hb⟩ : ∃ b : Bool, b = true ↔ (⟨xk, xt, xa⟩ : Tok) = r2.1[pre.length] := by
              by_cases h : (⟨xk, xt, xa⟩ : Tok) = r2.1[pre.length]
              · exact ⟨true, by simp [h]⟩
              · exact ⟨false, by simp [h]⟩
            have HSM := Lib.hid (fun w => same_any _ _ w b hb)
            have HBQ : Hid (b = false → ¬ (pre ++ [((⟨xk, xt, xa⟩ : Tok), 0)] <+: seqOf r2)) := fun h1 h => by
              have := congrArg Prod.fst (ea_head h HNL.out)
              have h2 := hb.2 this
              rw [h1] at h2; cases h2
            have hge : decide ((r2.1.length : Int) ≤ (pre.length : Int)) = false := by simp; omega
            have hge' : decide (r2.1.length ≤ pre.length) = false := by simp; omega
            unfold encT at HSM
            simp only at HSM
            clear hb
            generalize r2.1[pre.length] = y at *
            gi_wp2_with fail
            refine wpIn_region_ord (fun w' => (w'.cell? ⟨Bx, 0, none⟩ = some (.int .i64 xk) ∧ w'.cell? ⟨Bx, 1, none⟩ = some (.string xt) ∧ w'.cell? ⟨Bx, 2, none⟩ = some (.int .i64 xa)) ∧ (w'.cell? ⟨v6.heap.size, 0, none⟩ = some (.slice (some ⟨gL, 0, none⟩) r2.1.length cX) ∧ w'.cell? ⟨gN, 0, none⟩ = some (.int .i64 pre.length)) ∧ (w'.cell? ⟨gL, pre.length * 3, none⟩ = some (.int .i64 y.kind) ∧ w'.cell? ⟨gL, pre.length * 3 + 1, none⟩ = some (.string y.text) ∧ w'.cell? ⟨gL, pre.length * 3 + 2, none⟩ = some (.int .i64 y.at_))) [(0, 0), (3, 1), (0, 2), (0, 3), (1, 4), (1, 5), (0, 6), (0, 7), (0, 8), (1, 9), (1, 10), (1, 11), (0, 12), (1, 13), (3, 14), (0, 15), (0, 16), (0, 17)] (by kernel_rfl) (by kernel_rfl) (by kernel_rfl) ?_
            go_wp2_with (first
              | (refine ord_pure rfl rfl rfl (fun K hK => ?_); go_big_quiet_op; refine hK _ ?_; clear hK K)
                        | (refine ord_skip rfl rfl ?_; simp only [Act.put, List.setIfInBounds_toArray, List.set_cons_zero, List.set_cons_succ])
                        | (refine ord_held rfl rfl rfl (⟨⟨by simpa using dx0, by simpa using dx1, by simpa using dx2⟩, ⟨by simpa using d16, by simpa using d15⟩, ⟨by simpa using y0, by simpa using y1, by simpa using y2⟩⟩) (fun K hK => ?_); apply Exists.intro; refine ⟨fun w' hs => ?_, hK _ ?_⟩; (revert hs; dsimp only; (try simp only [and_imp]); intros; go_simp; rfl); clear hK K)
                        | (refine ord_keep rfl rfl (⟨⟨by simpa using dx0, by simpa using dx1, by simpa using dx2⟩, ⟨by simpa using d16, by simpa using d15⟩, ⟨by simpa using y0, by simpa using y1, by simpa using y2⟩⟩) (fun K hK => ?_))
                        | (refine ord_drop rfl rfl (fun K hK => ?_))
                        | (refine ord_nil ?_)
              | (go_at_call 17; refine (HN.out _ _).mono ?_; rintro e w' ⟨rfl, rfl⟩)
              | (go_at_call 18; refine (HSM.out _).mono ?_; rintro e w9 ⟨rfl, hM9⟩; have HM9 : Hid (Mod (fun _ => False) W3 w9) := ((Mod.refl (fun _ => False) W3).drew).trans hM9; clear hM9))
            have e15 := HM9.out.cell d15 id
            have g15 := (bx_mod H2.out HM9.out id).frozen
            have e4 := HM9.out.cell d4 id
            have g4 := (bx_mod HbR.out HM9.out id).frozen
            clear d15 f15 d4 f4 d16 dx0 dx1 dx2 y0 y1 y2 HSM
            cases b with
            | true =>
              clear HBQ
              gi_wp2
              exact HGO.out w9 HM9.out
            | false =>
              have HNO := Lib.hid (HBQ.out rfl)
              clear HBQ
              gi_wp2_with fail
              have hMv : Mod (fun k => k = w.heap.size + 1) W3 (w9.setCell ⟨w.heap.size + 1, 0, none⟩ (.bool false)) := Mine.Mod.setCell (S := fun k => k = w.heap.size + 1) (p := ⟨w.heap.size + 1, 0, none⟩) (HM9.out.mono (fun _ _ h => h.elim)) (fun _ => rfl) _
              refine ⟨keepsFrom_mod hMv ?_, HNO.out⟩
              rintro k rfl o ho; have := HbR.out; unfold Boxed at this; rw [this] at ho; cases ho; rfl
          · have hno : ¬ (pre ++ [((⟨xk, xt, xa⟩ : Tok), 0)] <+: seqOf r2) := fun h => by
              obtain ⟨_, h2, h3⟩ := ea_last h (by omega)
              exact h2 (congrArg Prod.snd h3).symm
            have HNO := Lib.hid hno
            have hge : decide ((r2.1.length : Int) ≤ (pre.length : Int)) = true := by simp; omega
            have hge' : decide (r2.1.length ≤ pre.length) = true := by simp; omega
            clear hno
            gi_wp2_with fail
            refine wpIn_region_ord (fun w' => w'.cell? ⟨v6.heap.size, 0, none⟩ = some (.slice aX r2.1.length cX) ∧ w'.cell? ⟨gN, 0, none⟩ = some (.int .i64 pre.length)) [(0, 0), (3, 1), (0, 2), (0, 3), (1, 4), (1, 5), (0, 6), (0, 7), (0, 8), (1, 9), (1, 10), (1, 11), (0, 12), (1, 13), (3, 14), (0, 15), (0, 16), (0, 17)] (by kernel_rfl) (by kernel_rfl) (by kernel_rfl) ?_
            go_wp2_with (first
              | (refine ord_pure rfl rfl rfl (fun K hK => ?_); go_big_quiet_op; refine hK _ ?_; clear hK K)
                        | (refine ord_skip rfl rfl ?_; simp only [Act.put, List.setIfInBounds_toArray, List.set_cons_zero, List.set_cons_succ])
                        | (refine ord_held rfl rfl rfl (⟨by simpa using d16, by simpa using d15⟩) (fun K hK => ?_); apply Exists.intro; refine ⟨fun w' hs => ?_, hK _ ?_⟩; (revert hs; dsimp only; (try simp only [and_imp]); intros; go_simp; rfl); clear hK K)
                        | (refine ord_keep rfl rfl (⟨by simpa using d16, by simpa using d15⟩) (fun K hK => ?_))
                        | (refine ord_drop rfl rfl (fun K hK => ?_))
                        | (refine ord_nil ?_)
              | (go_at_call 17; refine (HN.out _ _).mono ?_; rintro e w' ⟨rfl, rfl⟩))
            gi_wp2
            have hMv : Mod (fun k => k = w.heap.size + 1) W3 (W3.setCell ⟨w.heap.size + 1, 0, none⟩ (.bool false)).drew := (Mine.Mod.setCell (S := fun k => k = w.heap.size + 1) (p := ⟨w.heap.size + 1, 0, none⟩) (Mod.refl _ _) (fun _ => rfl) _).drew
            refine ⟨keepsFrom_mod hMv ?_, HNO.out⟩
            rintro k rfl o ho; have := HbR.out; unfold Boxed at this; rw [this] at ho; cases ho; rfl
        · have hxb : ((xe : Int) == 0) = false := by simp; omega
          gi_wp2_with fail
          refine wpIn_region_ord (fun w' => True) [(0, 0), (3, 1), (0, 2), (0, 3), (1, 4), (1, 5), (0, 6), (0, 7), (0, 8), (1, 9), (1, 10), (1, 11), (0, 12), (1, 13), (3, 14), (0, 15), (0, 16), (0, 17)] (by kernel_rfl) (by kernel_rfl) (by kernel_rfl) ?_
          go_wp2_with (first
            | (refine ord_pure rfl rfl rfl (fun K hK => ?_); go_big_quiet_op; refine hK _ ?_; clear hK K)
                        | (refine ord_skip rfl rfl ?_; simp only [Act.put, List.setIfInBounds_toArray, List.set_cons_zero, List.set_cons_succ])
                        | (refine ord_held rfl rfl rfl (trivial) (fun K hK => ?_); apply Exists.intro; refine ⟨fun w' hs => ?_, hK _ ?_⟩; (revert hs; dsimp only; (try simp only [and_imp]); intros; go_simp; rfl); clear hK K)
                        | (refine ord_keep rfl rfl (trivial) (fun K hK => ?_))
                        | (refine ord_drop rfl rfl (fun K hK => ?_))
                        | (refine ord_nil ?_)
            | (go_at_call 17; refine (HN.out _ _).mono ?_; rintro e w' ⟨rfl, rfl⟩))
          gi_wp2
          exact HGO.out W3.drew ((Mod.refl (fun _ => False) W3).drew)
      case doneA =>
        rintro D3 ys W3 hD3 rfl hi hK3
        obtain ⟨h1, h2, h3, h5, h4, h6⟩ := hi
        have hl1' : w.heap.size + 1 < v5.heap.size := h1.l1
        have d4 : W3.cell? ⟨w.heap.size + 1, 0, none⟩ = some (.bool false) := h1.bR.cell
        have f4 : W3.frozen? ⟨w.heap.size + 1, 0, none⟩ = false := h1.bR.frozen
        have d15 := h2.cell
        have d16 := h3.cell
        have hlen := HLEN.out
        have hge : decide ((r2.1.length : Int) ≤ ((seqOf r2).length : Int)) = true := by simp; rw [hlen]; omega
        have hge' : decide (r2.1.length ≤ (seqOf r2).length) = true := by simp; rw [hlen]; omega
        have HbR : Hid (Boxed W3 (w.heap.size + 1) 4 (.bool false)) := h1.bR
        have HM3 : Hid (Mod (fun _ => False) w W3) := h1.mod
        have H4 := Lib.hid h4; have HK3 := Lib.hid hK3; have HD3 := Lib.hid hD3
        clear h1 h2 h3 h4 h5 h6 hK3 hD3 hKb hSeq hlen
        subst hT
        go_wp2_with fail
        have hMs : Mod (fun k => k = w.heap.size + 1) W3 (W3.setCell ⟨w.heap.size + 1, 0, none⟩ (.bool true)) := Mine.Mod.setCell (S := fun k => k = w.heap.size + 1) (p := ⟨w.heap.size + 1, 0, none⟩) (Mod.refl _ W3) (fun _ => rfl) _
        have hcell : ∀ k, k = w.heap.size + 1 → ∀ o : Obj, W3.heap[k]? = some o → o.isCells = true := by
          rintro k rfl o ho; have := HbR.out; unfold Boxed at this; rw [this] at ho; cases ho; rfl
        refine leavesM_all (D3 :: D :: Ds) _ ?_ ?_ ?_
        · rw [List.nodup_cons]
          exact ⟨fun hm => by have := (H4.out D3 hm).1; have := HD3.out; have := HG8.out; omega, HNN.out.1⟩
        · intro D' hD'
          refine hMs.at ?_ (fun e => ?_)
          · rcases List.mem_cons.1 hD' with rfl | hD'
            · exact HK3.out
            · exact (H4.out D' hD').2
          · have hx : W3.heap[D']? = some (.deferred (some [])) := by
              rcases List.mem_cons.1 hD' with rfl | hD'
              · exact HK3.out
              · exact (H4.out D' hD').2
            have := hcell D' e _ hx
            simp [Obj.isCells] at this
        · intro w' hm
          have hbR : Boxed w' (w.heap.size + 1) 4 (.bool true) := by
            refine bx_mod (bx_put HbR.out (.bool true)) hm (fun hmem => ?_)
            have hx : W3.heap[w.heap.size + 1]? = some (.deferred (some [])) := by
              rcases List.mem_cons.1 hmem with e | hD'
              · rw [e]; exact HK3.out
              · exact (H4.out _ hD').2
            have := hcell _ rfl _ hx
            simp [Obj.isCells] at this
          have c4 := hbR.cell
          refine ⟨.bool true, ?_, rfl, ?_⟩
          · simp [results, Tryd.f3, go_sem, c4]
          · refine (HM3.out.step hMs (fun i hi e => by omega)).step hm (fun i hi e => ?_)
            rcases List.mem_cons.1 e with rfl | e
            · have := HD3.out; have := HG8.out; omega
            · have := HNN.out.2 i e; omega
      case stopA =>
        rintro D3 cc pre W3 hD3 hpre hx hK3
        exact absurd hpre hx
    case stop =>
      rintro D cc xs W hD hpre ⟨rfl, hi⟩ hK2
      obtain ⟨h1, h2, h4⟩ := hi
      have hm : xs.length ≤ r.1.length + 1 := Nat.le_trans hpre.length_le HLEN.out
      clear hpre
      gi_wp2_with fail
      obtain ⟨m, hmm⟩ : ∃ m, m = xs.length := ⟨_, rfl⟩
      have d15 : W.cell? ⟨gN, 0, none⟩ = some (.int .i64 m) := by rw [hmm]; exact h2.cell
      have b15 : Boxed W gN 3 (.int .i64 m) := by rw [hmm]; exact h2
      have f15 := h2.frozen
      rw [← hmm] at hm
      have d7 : W.cell? ⟨v3.heap.size, 0, none⟩ = some (.slice aW r.1.length cW) := h1.bW.cell
      have hgt : decide ((r.1.length : Int) + 1 < (m : Int)) = false := by simp; omega
      have hDD : EaD W.heap.size (D :: Ds) W := by
        intro D' hD'
        rcases List.mem_cons.1 hD' with rfl | hD'
        · exact ⟨(Array.getElem?_eq_some_iff.1 hK2).1, hK2⟩
        · have h := h4 D' hD'
          exact ⟨(Array.getElem?_eq_some_iff.1 h.2).1, h.2⟩
      have hNN : NdW w.heap.size (D :: Ds) := hND.out.cons (fun hm => by have := (h4 D hm).1; omega) (by omega)
      have hFO := fun c0 => HFO.out _ c0 W (Own.bytes h1.txt)
      have HFO2 := Lib.hid hFO
      have H1 := Lib.hid h1; have HB15 := Lib.hid b15; have HDD := Lib.hid hDD; have HNN := Lib.hid hNN; have HM := Lib.hid hm
      have hszW : v5.heap.size ≤ W.heap.size := h1.sz
      have hgW : gN < W.heap.size := World.block_lt_of_cell? W _ h2.cell
      clear h1 h2 h4 hK2 hD b15 hDD hNN hm hmm hFO hKb hSeq HI0 HJ HK hND xs HLEN
      subst hT
      go_wp2_with fail
      refine (HFO2.out c5).mono ?_
      rintro e v6 ⟨aX, cX, rfl, hOX, hM6, hFX⟩
      have hA6 := hM6.alloc (.cells #[.slice aX r2.1.length cX] 27)
      have bN6 := bx_mod HB15.out hA6 id
      have d15 := bN6.cell
      have f15 := bN6.frozen
      have bX6 := Boxed.new v6 27 (.slice aX r2.1.length cX)
      have hz6 : (v6.alloc (.cells #[.slice aX r2.1.length cX] 27)).heap.size = v6.heap.size + 1 := by simp
      have hs6 := hM6.size
      have hOX' := hOX.mod ((Mod.refl (fun _ => False) v6).alloc (.cells #[.slice aX r2.1.length cX] 27)) (fun _ _ => id)
      have hlX := hOX.lt
      have hC6 := H1.out.mod' hA6 (fun _ _ => id)
      have hD6 := HDD.out.mod' hA6 (fun _ h => h.elim)
      have HOX := Lib.hid hOX'; have HA6 := Lib.hid hA6; have HFX := Lib.hid hFX; have HLX := Lib.hid hlX; have HC6 := Lib.hid hC6; have HD6 := Lib.hid hD6; have HBN6 := Lib.hid bN6; have HBX6 := Lib.hid bX6; have HZ6 := Lib.hid hz6
      clear hOX hOX' hA6 hFX hlX hC6 hD6 bN6 bX6 hz6 HFO2 HB15 H1 HDD hM6
      go_wp2_with fail
      have hMs : Mod (fun k => k = gN) (v6.alloc (.cells #[.slice aX r2.1.length cX] 27)) ((v6.alloc (.cells #[.slice aX r2.1.length cX] 27)).setCell ⟨gN, 0, none⟩ (.int .i64 0)) := Mine.Mod.setCell (S := fun k => k = gN) (p := ⟨gN, 0, none⟩) (Mod.refl _ _) (fun _ => rfl) _
      have bN7 := bx_put HBN6.out (.int .i64 0)
      have bX7 := bx_mod HBX6.out hMs (by omega)
      have hOX7 := HOX.out.mod hMs (fun b hb e => by have := HFX.out b hb; omega)
      have hC7 := HC6.out.mod' hMs (fun b hb e => by simp only at hb; omega)
      have hD7 := HD6.out.mod' hMs (by rintro k rfl o ho; have := HBN6.out; unfold Boxed at this; rw [this] at ho; cases ho; rfl)
      have hz7 : ((v6.alloc (.cells #[.slice aX r2.1.length cX] 27)).setCell ⟨gN, 0, none⟩ (.int .i64 0)).heap.size = v6.heap.size + 1 := by simp
      obtain ⟨v7, hv7⟩ : ∃ v7, v7 = (v6.alloc (.cells #[.slice aX r2.1.length cX] 27)).setCell ⟨gN, 0, none⟩ (.int .i64 0) := ⟨_, rfl⟩
      rw [← hv7] at bN7 bX7 hOX7 hC7 hD7 hz7 ⊢
      clear hv7 hMs HBN6 HBX6 HOX HC6 HD6 HA6 HZ6 d15 f15
      refine (each_n (List.replicate l.length 122) l.length List.length_replicate _ c5 v7 (Own.bytes hC7.txt)).mono ?_
      rintro e v8 ⟨rfl, hv8⟩
      have hM78 : Mod (fun _ => False) v7 v8 := by rw [hv8]; exact (Mod.refl _ v7).alloc _
      have hB8 : Boxed v8 v7.heap.size 9 (.string ⟨(List.replicate l.length (122 : UInt8)).toArray⟩) := by rw [hv8]; exact Boxed.new v7 _ _
      have hz8 : v8.heap.size = v7.heap.size + 1 := by rw [hv8]; simp
      have hC8 := hC7.mod' hM78 (fun _ _ => id)
      have hT8 := tabs_mod HT.out hC8.mod
      have HI0 : Hid (EaI3 ⟨w, v1.heap.size, v3.heap.size, v3.heap.size + 1, v3.heap.size + 1 + 1, g, c5, cW, v5.heap.size, aW, l, early, r⟩ gN v6.heap.size v7.heap.size aX cX r2.1 (D :: Ds) [] v8) := ⟨hC8, bx_mod bN7 hM78 id, bx_mod bX7 hM78 id, hOX7.mod hM78 (fun _ _ => id), fun D' hD' => by
        have h := hD7.mod' hM78 (fun _ h => h.elim) D' hD'
        exact ⟨by have := h.1; omega, h.2⟩, by omega⟩
      have hKb := KpL.putObj (w := v8) (B := v7.heap.size) (by omega) (tabs_lt hT8)
      have hSeq := each_stops 2 v7.heap.size ⟨(List.replicate l.length (122 : UInt8)).toArray⟩ v8 hB8 hT8 (tabs_lt hT8) (by show (List.replicate l.length (122 : UInt8)).length < 2 ^ 30; rw [List.length_replicate]; omega)
      rw [← HR2.out] at hSeq
      have hlen := ea_len r2
      have hlen2 : (seqOf r2).length ≤ r2.1.length + 1 := by rw [hlen]; split <;> omega
      have HLEN := Lib.hid hlen; have HLEN2 := Lib.hid hlen2
      have hg8 : gN < v6.heap.size ∧ v6.heap.size < v7.heap.size ∧ v8.heap.size = v7.heap.size + 1 := ⟨by omega, by omega, hz8⟩
      have HG8 := Lib.hid hg8
      clear hlen hlen2 hv8 bN7 bX7 hOX7 hC7 hD7 hz7 hM78 hB8 hz8 hC8 hT8 hg8
      go_wp2_with fail
      refine (wpIn_wide (n := 3)).1 ?_
      refine name_frame (fun T hT => ?_)
      refine wpIn_rangeFunc_ownH rfl (by omega) (gf := 59) (lb := #[.pointer (some ⟨v7.heap.size, 0, none⟩)]) (by rw [hT]; rfl) trivial (enters_of Tryd.func59 (by kernel_rfl) rfl)
        hSeq (fun h k => KpL.trans h k) hKb (Below.refl _ _) (fun _ => rfl) (EaI3 ⟨w, v1.heap.size, v3.heap.size, v3.heap.size + 1, v3.heap.size + 1 + 1, g, c5, cW, v5.heap.size, aW, l, early, r⟩ gN v6.heap.size v7.heap.size aX cX r2.1 (D :: Ds)) (fun _ pre _ => ¬ pre <+: seqOf r2) (eaI3_own (by show v5.heap.size ≤ _; have := HG8.out; omega) (by have := HG8.out; omega)) (fun c _ _ _ _ h _ _ => h) HI0.out
        (fun x a' W => ∃ Bx, v8.heap.size ≤ Bx ∧ W.heap[Bx]? = some (.cells (tokC x.1).toArray 32 (0, 0)) ∧ a' = { tmps := (((T.setIfInBounds 110 (encT x.1)).setIfInBounds 111 (.int .i64 x.2)).setIfInBounds 19 (.pointer (some ⟨Bx, 0, none⟩))).setIfInBounds 20 (.int .i64 x.2), defers := [] })
        (fun x a' _ X Y row hs hg hr => by obtain ⟨Bx, h1, h2, h3⟩ := hs; exact ⟨Bx, h1, (Mod.ofGrown hg).at h2 (fun hs => cells_ne (fun r e => (hr r e).2) h2 hs), h3⟩)
        ?assignB ?bodyB ?doneB ?stopB
      case assignB =>
        rintro l0 pre x W3 K hi hK
        obtain ⟨⟨xk, xt, xa⟩, xe⟩ := x
        have HW : Hid (v8.heap.size ≤ W3.heap.size) := by
          have := hi.2.2.2.2.2
          have h8 := HG8.out
          show v8.heap.size ≤ W3.heap.size
          omega
        have HK := Lib.hid hK
        have HI := Lib.hid hi
        clear hi hK hKb hSeq
        subst hT
        simp only [encI, encT]
        gi_wp2
        have h2w := H2w.out
        have hW := HW.out
        have h8 := HG8.out
        have hl2 : v1.heap.size < v5.heap.size := HI.out.1.l2
        have hl1 : w.heap.size + 1 < v5.heap.size := HI.out.1.l1
        refine HK.out _ _ ((KeepsOthers.alloc _ _).from _) (KpL.of_mod ((Mod.refl (fun _ => False) W3).alloc _) (by omega) (by omega) id id id (fun _ _ _ h => h.elim))
          ((eaI3_own (show v5.heap.size ≤ v8.heap.size by omega) (show v7.heap.size ≤ v8.heap.size by omega)).alloc _ HI.out) ⟨W3.heap.size, hW, heap_alloc_new W3 _, ?_⟩
        simp only [encT, List.setIfInBounds_toArray, List.set_cons_succ, List.set_cons_zero]
      case bodyB =>
        rintro l0 pre x a' W3 hl1 ⟨rc, hrc⟩ hi ⟨Bx, hBx, hbx, rfl⟩ hlt
        obtain ⟨h1, h2, h3, h5, h4, h6⟩ := hi
        obtain ⟨⟨xk, xt, xa⟩, xe⟩ := x
        have hl2 : v1.heap.size < v5.heap.size := h1.l2
        have hl1' : w.heap.size + 1 < v5.heap.size := h1.l1
        have h2w := H2w.out
        have h8 := HG8.out
        have hsz : v5.heap.size ≤ W3.heap.size := h1.sz
        have dx0 : W3.cell? ⟨Bx, 0, none⟩ = some (.int .i64 xk) := cell_at hbx rfl
        have dx1 : W3.cell? ⟨Bx, 1, none⟩ = some (.string xt) := cell_at hbx rfl
        have dx2 : W3.cell? ⟨Bx, 2, none⟩ = some (.int .i64 xa) := cell_at hbx rfl
        have d4 : W3.cell? ⟨w.heap.size + 1, 0, none⟩ = some (.bool false) := h1.bR.cell
        have f4 : W3.frozen? ⟨w.heap.size + 1, 0, none⟩ = false := h1.bR.frozen
        have d15 := h2.cell
        have f15 := h2.frozen
        have d16 := h3.cell
        have HbR : Hid (Boxed W3 (w.heap.size + 1) 4 (.bool false)) := h1.bR
        have hlb : pre.length ≤ 2000000 := by have := HLEN2.out; omega
        have hcell : ∀ k, k = gN → ∀ o : Obj, W3.heap[k]? = some o → o.isCells = true := by
          rintro k rfl o ho; unfold Boxed at h2; rw [h2] at ho; cases ho; rfl
        have hmk : ∀ (k : Nat) (cs : Array Value) (fz : Nat × Nat), k = gN → W3.heap[k]? ≠ some (Obj.cells cs tMark fz) := by
          rintro k cs fz rfl he; unfold Boxed at h2; rw [h2] at he; cases he
        have hszX : v6.heap.size < W3.heap.size := World.block_lt_of_cell? W3 _ h3.cell
        have hoX : ∀ b, blk aX = some b → b ≠ gN := fun b hb e => by have := HFX.out b hb; omega
        have HGO : Hid (∀ w6 : World, Mod (fun _ => False) W3 w6 → ownPostG v8.heap.size (KpL v7.heap.size) (EaI3 ⟨w, v1.heap.size, v3.heap.size, v3.heap.size + 1, v3.heap.size + 1 + 1, g, c5, cW, v5.heap.size, aW, l, early, r⟩ gN v6.heap.size v7.heap.size aX cX r2.1 (D :: Ds)) (fun _ pre _ => ¬ pre <+: seqOf r2) (pre ++ [((⟨xk, xt, xa⟩ : Tok), xe)]) W3 .normal { tmps := #[], defers := [] } (w6.setCell ⟨gN, 0, none⟩ (.int .i64 ((pre.length : Int) + 1)))) := by
          intro w6 hM6
          have hMv : Mod (fun k => k = gN) W3 (w6.setCell ⟨gN, 0, none⟩ (.int .i64 ((pre.length : Int) + 1))) := Mine.Mod.setCell (S := fun k => k = gN) (p := ⟨gN, 0, none⟩) (hM6.mono (fun _ _ h => h.elim)) (fun _ => rfl) _
          have hbN : Boxed (w6.setCell ⟨gN, 0, none⟩ (.int .i64 ((pre.length : Int) + 1))) gN 3 (.int .i64 ((pre ++ [((⟨xk, xt, xa⟩ : Tok), xe)]).length : Nat)) := by
            have e : (((pre ++ [((⟨xk, xt, xa⟩ : Tok), xe)]).length : Nat) : Int) = (pre.length : Int) + 1 := by simp
            rw [e]; exact bx_put (bx_mod h2 hM6 id) _
          exact ⟨keepsFrom_mod hMv hcell, KpL.of_mod hMv (by omega) (by omega) (by omega) (by omega) (by omega) hmk, h1.mod' hMv (fun b hb e => by simp only at hb; omega), hbN, bx_mod h3 hMv (by omega), h5.mod hMv hoX, h4.mod' hMv hcell, Nat.le_trans h6 hMv.size⟩
        have H1 := Lib.hid h1; have H2 := Lib.hid h2; have H3 := Lib.hid h3; have H4 := Lib.hid h4; have H5 := Lib.hid h5
        clear h1 h2 h3 h4 h5 hrc hKb hSeq hlt hcell hmk hoX
        subst hT
        simp only [encT, List.setIfInBounds_toArray, List.set_cons_succ, List.set_cons_zero]
        by_cases hxe : xe = 0
        · subst hxe
          by_cases hn' : pre.length < r2.1.length
          · have HNL := Lib.hid hn'
            obtain ⟨gL, rfl, y0, y1, y2⟩ := own_cell3 (ts := r2.1) H5.out hn'
            obtain ⟨b, hb⟩ : ∃ b : Bool, b = true ↔ (⟨xk, xt, xa⟩ : Tok) = r2.1[pre.length] := by
              by_cases h : (⟨xk, xt, xa⟩ : Tok) = r2.1[pre.length]
              · exact ⟨true, by simp [h]⟩
              · exact ⟨false, by simp [h]⟩
            have HSM := Lib.hid (fun w => same_any _ _ w b hb)
            have HBQ : Hid (b = false → ¬ (pre ++ [((⟨xk, xt, xa⟩ : Tok), 0)] <+: seqOf r2)) := fun h1 h => by
              have := congrArg Prod.fst (ea_head h HNL.out)
              have h2 := hb.2 this
              rw [h1] at h2; cases h2
            have hge : decide ((r2.1.length : Int) ≤ (pre.length : Int)) = false := by simp; omega
            have hge' : decide (r2.1.length ≤ pre.length) = false := by simp; omega
            unfold encT at HSM
            simp only at HSM
            clear hb
            generalize r2.1[pre.length] = y at *
            gi_wp2_with fail
            refine wpIn_region_ord (fun w' => (w'.cell? ⟨Bx, 0, none⟩ = some (.int .i64 xk) ∧ w'.cell? ⟨Bx, 1, none⟩ = some (.string xt) ∧ w'.cell? ⟨Bx, 2, none⟩ = some (.int .i64 xa)) ∧ (w'.cell? ⟨v6.heap.size, 0, none⟩ = some (.slice (some ⟨gL, 0, none⟩) r2.1.length cX) ∧ w'.cell? ⟨gN, 0, none⟩ = some (.int .i64 pre.length)) ∧ (w'.cell? ⟨gL, pre.length * 3, none⟩ = some (.int .i64 y.kind) ∧ w'.cell? ⟨gL, pre.length * 3 + 1, none⟩ = some (.string y.text) ∧ w'.cell? ⟨gL, pre.length * 3 + 2, none⟩ = some (.int .i64 y.at_))) [(0, 0), (3, 1), (0, 2), (0, 3), (1, 4), (1, 5), (0, 6), (0, 7), (0, 8), (1, 9), (1, 10), (1, 11), (0, 12), (1, 13), (3, 14), (0, 15), (0, 16), (0, 17)] (by kernel_rfl) (by kernel_rfl) (by kernel_rfl) ?_
            go_wp2_with (first
              | (refine ord_pure rfl rfl rfl (fun K hK => ?_); go_big_quiet_op; refine hK _ ?_; clear hK K)
                        | (refine ord_skip rfl rfl ?_; simp only [Act.put, List.setIfInBounds_toArray, List.set_cons_zero, List.set_cons_succ])
                        | (refine ord_held rfl rfl rfl (⟨⟨by simpa using dx0, by simpa using dx1, by simpa using dx2⟩, ⟨by simpa using d16, by simpa using d15⟩, ⟨by simpa using y0, by simpa using y1, by simpa using y2⟩⟩) (fun K hK => ?_); apply Exists.intro; refine ⟨fun w' hs => ?_, hK _ ?_⟩; (revert hs; dsimp only; (try simp only [and_imp]); intros; go_simp; rfl); clear hK K)
                        | (refine ord_keep rfl rfl (⟨⟨by simpa using dx0, by simpa using dx1, by simpa using dx2⟩, ⟨by simpa using d16, by simpa using d15⟩, ⟨by simpa using y0, by simpa using y1, by simpa using y2⟩⟩) (fun K hK => ?_))
                        | (refine ord_drop rfl rfl (fun K hK => ?_))
                        | (refine ord_nil ?_)
              | (go_at_call 17; refine (HN.out _ _).mono ?_; rintro e w' ⟨rfl, rfl⟩)
              | (go_at_call 18; refine (HSM.out _).mono ?_; rintro e w9 ⟨rfl, hM9⟩; have HM9 : Hid (Mod (fun _ => False) W3 w9) := ((Mod.refl (fun _ => False) W3).drew).trans hM9; clear hM9))
            have e15 := HM9.out.cell d15 id
            have g15 := (bx_mod H2.out HM9.out id).frozen
            have e4 := HM9.out.cell d4 id
            have g4 := (bx_mod HbR.out HM9.out id).frozen
            clear d15 f15 d4 f4 d16 dx0 dx1 dx2 y0 y1 y2 HSM
            cases b with
            | true =>
              clear HBQ
              gi_wp2
              exact HGO.out w9 HM9.out
            | false =>
              have HNO := Lib.hid (HBQ.out rfl)
              clear HBQ
              gi_wp2_with fail
              have hMv : Mod (fun k => k = w.heap.size + 1) W3 (w9.setCell ⟨w.heap.size + 1, 0, none⟩ (.bool false)) := Mine.Mod.setCell (S := fun k => k = w.heap.size + 1) (p := ⟨w.heap.size + 1, 0, none⟩) (HM9.out.mono (fun _ _ h => h.elim)) (fun _ => rfl) _
              refine ⟨keepsFrom_mod hMv ?_, HNO.out⟩
              rintro k rfl o ho; have := HbR.out; unfold Boxed at this; rw [this] at ho; cases ho; rfl
          · have hno : ¬ (pre ++ [((⟨xk, xt, xa⟩ : Tok), 0)] <+: seqOf r2) := fun h => by
              obtain ⟨_, h2, h3⟩ := ea_last h (by omega)
              exact h2 (congrArg Prod.snd h3).symm
            have HNO := Lib.hid hno
            have hge : decide ((r2.1.length : Int) ≤ (pre.length : Int)) = true := by simp; omega
            have hge' : decide (r2.1.length ≤ pre.length) = true := by simp; omega
            clear hno
            gi_wp2_with fail
            refine wpIn_region_ord (fun w' => w'.cell? ⟨v6.heap.size, 0, none⟩ = some (.slice aX r2.1.length cX) ∧ w'.cell? ⟨gN, 0, none⟩ = some (.int .i64 pre.length)) [(0, 0), (3, 1), (0, 2), (0, 3), (1, 4), (1, 5), (0, 6), (0, 7), (0, 8), (1, 9), (1, 10), (1, 11), (0, 12), (1, 13), (3, 14), (0, 15), (0, 16), (0, 17)] (by kernel_rfl) (by kernel_rfl) (by kernel_rfl) ?_
            go_wp2_with (first
              | (refine ord_pure rfl rfl rfl (fun K hK => ?_); go_big_quiet_op; refine hK _ ?_; clear hK K)
                        | (refine ord_skip rfl rfl ?_; simp only [Act.put, List.setIfInBounds_toArray, List.set_cons_zero, List.set_cons_succ])
                        | (refine ord_held rfl rfl rfl (⟨by simpa using d16, by simpa using d15⟩) (fun K hK => ?_); apply Exists.intro; refine ⟨fun w' hs => ?_, hK _ ?_⟩; (revert hs; dsimp only; (try simp only [and_imp]); intros; go_simp; rfl); clear hK K)
                        | (refine ord_keep rfl rfl (⟨by simpa using d16, by simpa using d15⟩) (fun K hK => ?_))
                        | (refine ord_drop rfl rfl (fun K hK => ?_))
                        | (refine ord_nil ?_)
              | (go_at_call 17; refine (HN.out _ _).mono ?_; rintro e w' ⟨rfl, rfl⟩))
            gi_wp2
            have hMv : Mod (fun k => k = w.heap.size + 1) W3 (W3.setCell ⟨w.heap.size + 1, 0, none⟩ (.bool false)).drew := (Mine.Mod.setCell (S := fun k => k = w.heap.size + 1) (p := ⟨w.heap.size + 1, 0, none⟩) (Mod.refl _ _) (fun _ => rfl) _).drew
            refine ⟨keepsFrom_mod hMv ?_, HNO.out⟩
            rintro k rfl o ho; have := HbR.out; unfold Boxed at this; rw [this] at ho; cases ho; rfl
        · have hxb : ((xe : Int) == 0) = false := by simp; omega
          gi_wp2_with fail
          refine wpIn_region_ord (fun w' => True) [(0, 0), (3, 1), (0, 2), (0, 3), (1, 4), (1, 5), (0, 6), (0, 7), (0, 8), (1, 9), (1, 10), (1, 11), (0, 12), (1, 13), (3, 14), (0, 15), (0, 16), (0, 17)] (by kernel_rfl) (by kernel_rfl) (by kernel_rfl) ?_
          go_wp2_with (first
            | (refine ord_pure rfl rfl rfl (fun K hK => ?_); go_big_quiet_op; refine hK _ ?_; clear hK K)
                        | (refine ord_skip rfl rfl ?_; simp only [Act.put, List.setIfInBounds_toArray, List.set_cons_zero, List.set_cons_succ])
                        | (refine ord_held rfl rfl rfl (trivial) (fun K hK => ?_); apply Exists.intro; refine ⟨fun w' hs => ?_, hK _ ?_⟩; (revert hs; dsimp only; (try simp only [and_imp]); intros; go_simp; rfl); clear hK K)
                        | (refine ord_keep rfl rfl (trivial) (fun K hK => ?_))
                        | (refine ord_drop rfl rfl (fun K hK => ?_))
                        | (refine ord_nil ?_)
            | (go_at_call 17; refine (HN.out _ _).mono ?_; rintro e w' ⟨rfl, rfl⟩))
          gi_wp2
          exact HGO.out W3.drew ((Mod.refl (fun _ => False) W3).drew)
      case doneB =>
        rintro D3 ys W3 hD3 rfl hi hK3
        obtain ⟨h1, h2, h3, h5, h4, h6⟩ := hi
        have hl1' : w.heap.size + 1 < v5.heap.size := h1.l1
        have d4 : W3.cell? ⟨w.heap.size + 1, 0, none⟩ = some (.bool false) := h1.bR.cell
        have f4 : W3.frozen? ⟨w.heap.size + 1, 0, none⟩ = false := h1.bR.frozen
        have d15 := h2.cell
        have d16 := h3.cell
        have hlen := HLEN.out
        have hge : decide ((r2.1.length : Int) ≤ ((seqOf r2).length : Int)) = true := by simp; rw [hlen]; omega
        have hge' : decide (r2.1.length ≤ (seqOf r2).length) = true := by simp; rw [hlen]; omega
        have HbR : Hid (Boxed W3 (w.heap.size + 1) 4 (.bool false)) := h1.bR
        have HM3 : Hid (Mod (fun _ => False) w W3) := h1.mod
        have H4 := Lib.hid h4; have HK3 := Lib.hid hK3; have HD3 := Lib.hid hD3
        clear h1 h2 h3 h4 h5 h6 hK3 hD3 hKb hSeq hlen
        subst hT
        go_wp2_with fail
        have hMs : Mod (fun k => k = w.heap.size + 1) W3 (W3.setCell ⟨w.heap.size + 1, 0, none⟩ (.bool true)) := Mine.Mod.setCell (S := fun k => k = w.heap.size + 1) (p := ⟨w.heap.size + 1, 0, none⟩) (Mod.refl _ W3) (fun _ => rfl) _
        have hcell : ∀ k, k = w.heap.size + 1 → ∀ o : Obj, W3.heap[k]? = some o → o.isCells = true := by
          rintro k rfl o ho; have := HbR.out; unfold Boxed at this; rw [this] at ho; cases ho; rfl
        refine leavesM_all (D3 :: D :: Ds) _ ?_ ?_ ?_
        · rw [List.nodup_cons]
          exact ⟨fun hm => by have := (H4.out D3 hm).1; have := HD3.out; have := HG8.out; omega, HNN.out.1⟩
        · intro D' hD'
          refine hMs.at ?_ (fun e => ?_)
          · rcases List.mem_cons.1 hD' with rfl | hD'
            · exact HK3.out
            · exact (H4.out D' hD').2
          · have hx : W3.heap[D']? = some (.deferred (some [])) := by
              rcases List.mem_cons.1 hD' with rfl | hD'
              · exact HK3.out
              · exact (H4.out D' hD').2
            have := hcell D' e _ hx
            simp [Obj.isCells] at this
        · intro w' hm
          have hbR : Boxed w' (w.heap.size + 1) 4 (.bool true) := by
            refine bx_mod (bx_put HbR.out (.bool true)) hm (fun hmem => ?_)
            have hx : W3.heap[w.heap.size + 1]? = some (.deferred (some [])) := by
              rcases List.mem_cons.1 hmem with e | hD'
              · rw [e]; exact HK3.out
              · exact (H4.out _ hD').2
            have := hcell _ rfl _ hx
            simp [Obj.isCells] at this
          have c4 := hbR.cell
          refine ⟨.bool true, ?_, rfl, ?_⟩
          · simp [results, Tryd.f3, go_sem, c4]
          · refine (HM3.out.step hMs (fun i hi e => by omega)).step hm (fun i hi e => ?_)
            rcases List.mem_cons.1 e with rfl | e
            · have := HD3.out; have := HG8.out; omega
            · have := HNN.out.2 i e; omega
      case stopB =>
        rintro D3 cc pre W3 hD3 hpre hx hK3
        exact absurd hpre hx
end Go.Proofs.YtidgpcjnfkhjoaaDoor
