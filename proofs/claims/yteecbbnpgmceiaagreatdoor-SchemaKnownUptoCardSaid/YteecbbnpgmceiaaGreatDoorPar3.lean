/-
  The tokens of a text, as the parser lists them.
-/
import Derived.Test.YteecbbnpgmceiaaGreatDoorPar1
import Derived.Test.YteecbbnpgmceiaaGreatDoorBackL
import Derived.Test.YteecbbnpgmceiaaGreatDoorPar2
namespace Go.Proofs.YteecbbnpgmceiaaGreatDoor
open Go Go.RowKit Go.Mine
set_option linter.unusedVariables false
set_option maxHeartbeats 1000000
set_option maxRecDepth 100000

theorem scanGo_fault {s : ByteArray} : ∀ (f i : Nat), (scanGo s f i).2.2 = 0 ∨ (scanGo s f i).2.2 = 60 ∨ (scanGo s f i).2.2 = 61
  | 0, i => .inl rfl
  | f + 1, i => by
    rw [scanGo]
    split
    · split
      · exact scanGo_fault f _
      · split
        · exact scanGo_fault f _
        · split
          · split
            · exact scanGo_fault f _
            · exact .inr (.inr rfl)
          · split
            · exact scanGo_fault f _
            · split
              · exact scanGo_fault f _
              · exact .inr (.inl rfl)
    · exact .inl rfl
theorem toksOf_wf (s : ByteArray) : (toksOf s).Wf := by
  have h := scanGo_good (s := s) (s.size + 1) 0 (Nat.zero_le _)
  have hr := (scanGo_rises (s := s) (s.size + 1) 0 (Nat.zero_le _)).1
  refine ⟨fun t ht => ?_, fun t ht h4 => ?_, ?_⟩
  · rcases (h t ht).1 with h | ⟨h, _⟩ | ⟨h1, h2, _⟩ <;> omega
  · rcases (h t ht).1 with h | ⟨h, _⟩ | ⟨_, _, h3⟩
    · omega
    · omega
    · exact h3
  · show (scanL s).2.2 ≤ 100
    rcases scanGo_fault (s := s) (s.size + 1) 0 with h | h | h <;> (unfold scanL; omega)
theorem toksOf_items (s : ByteArray) : itemsOf (toksOf s) = seqOf (scanL s) := by
  unfold itemsOf seqOf toksOf
  simp only
  by_cases h : (scanL s).2.2 = 0
  · rw [if_pos h, if_pos h]
  · rw [if_neg h, if_neg h, if_neg h]; rfl
theorem toksOf_size (s : ByteArray) (hs : s.size < 2 ^ 30) (k : Nat) : ((toksOf s).tok k).text.size < 2 ^ 30 := by
  by_cases hk : k < (toksOf s).ts.length
  · rw [tok_in hk]
    have := (scanGo_good (s := s) (s.size + 1) 0 (Nat.zero_le _) _ (List.getElem_mem hk)).2
    omega
  · rw [tok_out (by omega)]; show emptyB.size < _; decide
theorem toksOf_len (s : ByteArray) : (toksOf s).ts.length ≤ s.size + 1 := scanGo_len s (s.size + 1) 0
theorem foundL_short {s : ByteArray} (h : ¬ 65536 < s.size) : foundL s = scanL s := if_neg h
/-- what is answered of a text: what was read, or what is wrong, and where -/
def RdPost {α : Type} (w : World) (zero : Value) (r : PR α) (R : α → Value → World → Prop) (e : Ending) (w' : World) : Prop :=
  ((∃ x, r = .error x ∧ e = .returned (.tuple #[zero, .int .i64 x.2, .int .i64 x.1])) ∨ ∃ a v, r = .ok a ∧ e = .returned (.tuple #[v, .int .i64 0, .int .i64 0]) ∧ R a v w') ∧ Mod (fun _ => False) w w'
theorem new_mod {w W : World} (h : Mod (Far w) w W) : Mod (fun _ => False) w W := h.mono fun k hk hf => by unfold Far at hf; omega
theorem ti142 : TI Tryz.prog 180 187 4 40 := TI.mk' (z := .agg #[.int .i64 0, .string ⟨#[]⟩, .int .i64 0, .int .i64 0]) (by kernel_rfl) (by kernel_rfl) rfl (by omega)
theorem itsC_append (l m : List (Tok × Nat)) : itsC (l ++ m) = itsC l ++ itsC m := by simp [itsC]
theorem itsC_len (l : List (Tok × Nat)) : (itsC l).length = l.length * 4 := flat_len itC_length l
/-- the list of what lex says so far -/
structure ReI (w3 : World) (g4 : Nat) (pre : List (Tok × Nat)) (W : World) : Prop where
  md : Mod (fun b => b = g4) w3 W
  lst : ∃ a c, Boxed W g4 180 (.slice a pre.length c) ∧ Mine.Own W 187 4 a pre.length c (itsC pre) ∧ (∀ b, blk a = some b → w3.heap.size ≤ b)
theorem reI_own (w3 : World) (g4 B : Nat) (hB : w3.heap.size ≤ B) : OwnFrom B (ReI w3 g4) := by
  rintro pre W W' row ⟨h1, a, c, h2, h3, h4⟩ hg hr
  have hr2 := fun r e => (hr r e).2
  exact ⟨Mod.turned h1 hg (fun r e => Nat.le_trans hB (hr r e).1), a, c, bx_turned h2 hg hr2, Mine.Own.turned h3 hg hr2, h4⟩
end Go.Proofs.YteecbbnpgmceiaaGreatDoor
/-
  syntax.read, walked.
-/
namespace Go.Proofs.YteecbbnpgmceiaaGreatDoor
open Go Go.RowKit Go.Mine
set_option linter.unusedVariables false
set_option maxHeartbeats 2000000
set_option maxRecDepth 100000
attribute [local go_sem] Oper.semAt_some
@[local go_sem, local simp] theorem wide_fn7 (f : FuncId) : Fence.wide.fn f = True := rfl
@[local go_sem, local simp] theorem wide_depth7 : Fence.wide.depth = none := rfl
/-- the boxes of the answers, and the block of what the rounds put off -/
structure DoorI (w v : World) (B D : Nat) (zc : Array Value) (tz : TypeId) : Prop where
  g1 : v.heap[w.heap.size + 1]? = some (.cells zc tz (0, 0))
  g2 : v.heap[w.heap.size + 1 + 1]? = some (.cells #[.int .i64 0] 3 (0, 0))
  g3 : v.heap[w.heap.size + 1 + 1 + 1]? = some (.cells #[.int .i64 0] 26 (0, 0))
  gD : v.heap[D]? = some (.deferred (some []))
  far : Mod (Far w) w v
  ltD : D < B
  geD : w.heap.size + 6 ≤ D
theorem DoorI.call {w v v' : World} {B D : Nat} {zc : Array Value} {tz : TypeId} {T : Nat → Prop} (h : DoorI w v B D zc tz) (m : Mod T v v') (hT : ∀ b, T b → B ≤ b) : DoorI w v' B D zc tz := by
  have h1 := h.ltD; have h2 := h.geD
  exact ⟨m.at h.g1 (fun e => by have := hT _ e; omega), m.at h.g2 (fun e => by have := hT _ e; omega), m.at h.g3 (fun e => by have := hT _ e; omega), m.at h.gD (fun e => by have := hT _ e; omega), h.far.step m (fun i _ e => by have := hT _ e; unfold Far; omega), h1, h2⟩
theorem name_frame7 {c : Code} {F : Fence} {n : Nat} {P : Program} {Q : Exit → Act → World → Prop} {T : Array Value} {ds : List Deferred} {w : World} (h : ∀ T', T' = T → c.wpIn F n P Q { tmps := T', defers := ds } w) : c.wpIn F n P Q { tmps := T, defers := ds } w := h T rfl

section
variable {α : Type}
/-- what the reader of a thing does -/
structure OneP (one : Toks → PR (α × Nat)) (R : Nat → α → Option Addr → Nat → World → Prop) (F : FuncId) : Prop where
  enters : ∀ (args : Array Value) (w : World), (callFunc F args).run Tryz.prog w = .ok (.enter F args) w
  calls : ∀ (E : Env) (w : World), PSt w E 0 false → Calls Tryz.prog F #[.pointer (some ⟨E.bp, 0, none⟩)] w (PP E w (one E.S) fun r e w' => ∃ a1 n1 ag, e = .returned (.agg #[.slice a1 n1 n1]) ∧ R w.heap.size r.1 a1 n1 w' ∧ PSt w' E r.2 ag)
  mono : ∀ lo lo' a a1 n1 w, lo' ≤ lo → R lo a a1 n1 w → R lo' a a1 n1 w
  keeps : ∀ lo a a1 n1 w w' (T : Nat → Prop), R lo a a1 n1 w → Mod T w w' → (∀ b, lo ≤ b → ¬ T b) → R lo a a1 n1 w'
theorem readP_any (one : Toks → PR (α × Nat)) (R : Nat → α → Option Addr → Nat → World → Prop) (F : FuncId) (HF : OneP one R F) (a0 : Option Addr) (c0 : Nat) (l : List UInt8) (w : World) (hR : Rd w a0 (bts l)) (hT : Lib.Utf8Tabs 1 2 w) (hl : l.length < 2 ^ 30) :
    Calls Tryz.prog 52 #[.slice a0 l.length c0, .func (.func F) #[] #[]] w (RdPost w (.agg #[.slice none 0 0]) (readL ⟨l.toArray⟩ one) fun a v w' => ∃ a1 n1, v = .agg #[.slice a1 n1 n1] ∧ R w.heap.size a a1 n1 w') := by
  have hsz : (⟨l.toArray⟩ : ByteArray).size = l.length := rfl
  have h2w := tabs_lt hT
  have HM0 : Hid (Mod (fun _ => False) w ((((w.alloc (.cells #[.slice a0 l.length c0] 34)).alloc (.cells #[.slice none 0 0] 24)).alloc (.cells #[.int .i64 0] 3)).alloc (.cells #[.int .i64 0] 26))) := ((((Mod.refl _ w).alloc _).alloc _).alloc _).alloc _
  have b0 : ((((w.alloc (.cells #[.slice a0 l.length c0] 34)).alloc (.cells #[.slice none 0 0] 24)).alloc (.cells #[.int .i64 0] 3)).alloc (.cells #[.int .i64 0] 26)).heap[w.heap.size]? = some (.cells #[.slice a0 l.length c0] 34 (0, 0)) := ((((Mod.refl (fun _ => False) _).alloc _).alloc _).alloc _).at (heap_alloc_new w _) id
  have b1 : ((((w.alloc (.cells #[.slice a0 l.length c0] 34)).alloc (.cells #[.slice none 0 0] 24)).alloc (.cells #[.int .i64 0] 3)).alloc (.cells #[.int .i64 0] 26)).heap[w.heap.size + 1]? = some (.cells #[.slice none 0 0] 24 (0, 0)) := (((Mod.refl (fun _ => False) _).alloc _).alloc _).at (by have := heap_alloc_new (w.alloc (.cells #[.slice a0 l.length c0] 34)) (.cells #[.slice none 0 0] 24); simpa using this) id
  have b2 : ((((w.alloc (.cells #[.slice a0 l.length c0] 34)).alloc (.cells #[.slice none 0 0] 24)).alloc (.cells #[.int .i64 0] 3)).alloc (.cells #[.int .i64 0] 26)).heap[w.heap.size + 1 + 1]? = some (.cells #[.int .i64 0] 3 (0, 0)) := ((Mod.refl (fun _ => False) _).alloc _).at (by have := heap_alloc_new ((w.alloc (.cells #[.slice a0 l.length c0] 34)).alloc (.cells #[.slice none 0 0] 24)) (.cells #[.int .i64 0] 3); simpa using this) id
  have b3 : ((((w.alloc (.cells #[.slice a0 l.length c0] 34)).alloc (.cells #[.slice none 0 0] 24)).alloc (.cells #[.int .i64 0] 3)).alloc (.cells #[.int .i64 0] 26)).heap[w.heap.size + 1 + 1 + 1]? = some (.cells #[.int .i64 0] 26 (0, 0)) := by have := heap_alloc_new (((w.alloc (.cells #[.slice a0 l.length c0] 34)).alloc (.cells #[.slice none 0 0] 24)).alloc (.cells #[.int .i64 0] 3)) (.cells #[.int .i64 0] 26); simpa using this
  have hz0 : ((((w.alloc (.cells #[.slice a0 l.length c0] 34)).alloc (.cells #[.slice none 0 0] 24)).alloc (.cells #[.int .i64 0] 3)).alloc (.cells #[.int .i64 0] 26)).heap.size = w.heap.size + 4 := by simp
  have HB := Lib.hid (And.intro b0 (And.intro b1 (And.intro b2 (And.intro b3 hz0))))
  have H2w := Lib.hid h2w
  have HRd := Lib.hid hR
  have HTw := Lib.hid hT
  clear b0 b1 b2 b3 hz0 h2w hR hT
  refine (callsIn_wide (n := 3)).1 ?_
  refine callsIn_of_wp_marks Tryz.func52 rfl trivial ?_ rfl
  simp only [Tryz.ntmps52, List.size_toArray, List.length_cons, List.length_nil, Nat.reduceAdd, Nat.reduceSub, Array.replicate_succ, Array.replicate_zero, List.push_toArray, List.append_toArray, List.nil_append, List.cons_append]
  refine (wpIn_wide (n := 3)).2 ?_
  by_cases hlong : 65536 < l.length
  · have HX := Lib.hid (show readL ⟨l.toArray⟩ one = .error (3, 0) from if_pos hlong)
    go_wp2_with fail
    have hm9 : Mod (fun _ => False) w ((((w.alloc (.cells #[.slice a0 l.length c0] 34)).alloc (.cells #[.slice none 0 0] 24)).alloc (.cells #[.int .i64 0] 3)).alloc (.cells #[.int .i64 3] 26)) := ((((Mod.refl _ w).alloc _).alloc _).alloc _).alloc _
    have g1 : ((((w.alloc (.cells #[.slice a0 l.length c0] 34)).alloc (.cells #[.slice none 0 0] 24)).alloc (.cells #[.int .i64 0] 3)).alloc (.cells #[.int .i64 3] 26)).heap[w.heap.size + 1]? = some (.cells #[.slice none 0 0] 24 (0, 0)) := (((Mod.refl (fun _ => False) _).alloc _).alloc _).at (by have := heap_alloc_new (w.alloc (.cells #[.slice a0 l.length c0] 34)) (.cells #[.slice none 0 0] 24); simpa using this) id
    have g2 : ((((w.alloc (.cells #[.slice a0 l.length c0] 34)).alloc (.cells #[.slice none 0 0] 24)).alloc (.cells #[.int .i64 0] 3)).alloc (.cells #[.int .i64 3] 26)).heap[w.heap.size + 1 + 1]? = some (.cells #[.int .i64 0] 3 (0, 0)) := ((Mod.refl (fun _ => False) _).alloc _).at (by have := heap_alloc_new ((w.alloc (.cells #[.slice a0 l.length c0] 34)).alloc (.cells #[.slice none 0 0] 24)) (.cells #[.int .i64 0] 3); simpa using this) id
    have g3 : ((((w.alloc (.cells #[.slice a0 l.length c0] 34)).alloc (.cells #[.slice none 0 0] 24)).alloc (.cells #[.int .i64 0] 3)).alloc (.cells #[.int .i64 3] 26)).heap[w.heap.size + 1 + 1 + 1]? = some (.cells #[.int .i64 3] 26 (0, 0)) := by have := heap_alloc_new (((w.alloc (.cells #[.slice a0 l.length c0] 34)).alloc (.cells #[.slice none 0 0] 24)).alloc (.cells #[.int .i64 0] 3)) (.cells #[.int .i64 3] 26); simpa using this
    obtain ⟨w9, hw9⟩ : ∃ w9, w9 = (((w.alloc (.cells #[.slice a0 l.length c0] 34)).alloc (.cells #[.slice none 0 0] 24)).alloc (.cells #[.int .i64 0] 3)).alloc (.cells #[.int .i64 3] 26) := ⟨_, rfl⟩
    rw [← hw9] at g1 g2 g3 hm9 ⊢
    clear hw9
    have e10 := cell_at (j := 0) g1 rfl
    have e2 := cell_at (j := 0) g2 rfl
    have e3 := cell_at (j := 0) g3 rfl
    refine ⟨.tuple #[.agg #[.slice none 0 0], .int .i64 0, .int .i64 3], by simp [results, Tryz.results52, go_sem, e10, e2, e3], ?_⟩
    exact ⟨.inl ⟨_, HX.out, rfl⟩, hm9⟩
  · have HX := Lib.hid (show readL ⟨l.toArray⟩ one = wholeP (toksOf ⟨l.toArray⟩) (one (toksOf ⟨l.toArray⟩)) from if_neg hlong)
    go_wp2_with fail
    obtain ⟨b0, b1, b2, b3, hz0⟩ := HB.out
    obtain ⟨v0, hv0⟩ : ∃ v0, v0 = (((w.alloc (.cells #[.slice a0 l.length c0] 34)).alloc (.cells #[.slice none 0 0] 24)).alloc (.cells #[.int .i64 0] 3)).alloc (.cells #[.int .i64 0] 26) := ⟨_, rfl⟩
    rw [← hv0] at b0 b1 b2 b3 hz0 HM0 ⊢
    clear hv0 HB
    have hz4 : (v0.alloc (.cells #[.slice none 0 0] 180)).heap.size = w.heap.size + 5 := by simp [hz0]
    have m1 : Mod (fun _ => False) v0 (v0.alloc (.cells #[.slice none 0 0] 180)) := (Mod.refl _ v0).alloc _
    have b4 := heap_alloc_new v0 (.cells #[.slice none 0 0] 180)
    rw [hz0] at b4
    obtain ⟨v2, hv2⟩ : ∃ v2, v2 = v0.alloc (.cells #[.slice none 0 0] 180) := ⟨_, rfl⟩
    rw [← hv2] at hz4 m1 b4 ⊢
    clear hv2
    have b0' := m1.at b0 id
    have b1' := m1.at b1 id
    have b2' := m1.at b2 id
    have b3' := m1.at b3 id
    have hm2 := HM0.out.trans m1
    clear b0 b1 b2 b3 m1 hz0 HM0
    refine (each_any a0 c0 l v2 (HRd.out.mod hm2 (fun _ _ => id))).mono ?_
    rintro e v3 ⟨rfl, hv3⟩
    have m3 : Mod (fun _ => False) v2 v3 := by rw [hv3]; exact (Mod.refl _ v2).alloc _
    have b5 : v3.heap[w.heap.size + 5]? = some (.cells #[.string ⟨l.toArray⟩] 9 (0, 0)) := by rw [hv3, ← hz4]; exact heap_alloc_new v2 _
    have hz3 : v3.heap.size = w.heap.size + 6 := by rw [hv3]; simp [hz4]
    have c0' := m3.at b0' id
    have c1' := m3.at b1' id
    have c2' := m3.at b2' id
    have c3' := m3.at b3' id
    have c4' : Boxed v3 (w.heap.size + 4) 180 (.slice none 0 0) := m3.at b4 id
    have HC := Lib.hid (And.intro c0' (And.intro c1' (And.intro c2' c3')))
    have HM3 := Lib.hid (hm2.trans m3)
    have hT3 := tabs_mod HTw.out (hm2.trans m3)
    have HT3 := Lib.hid hT3
    have hI0 : ReI v3 (w.heap.size + 4) [] v3 := ⟨Mod.refl _ _, none, 0, c4', Mine.Own.nil _ _ _, by simp⟩
    have HI0 := Lib.hid hI0
    have h2 := tabs_lt hT3
    have hKb := KpL.putObj (w := v3) (B := w.heap.size + 5) (by rw [hz3]; omega) h2
    have hSeq := each_stops 2 (w.heap.size + 5) ⟨l.toArray⟩ v3 b5 hT3 h2 (show l.length < 2 ^ 30 from hl)
    rw [foundL_short (s := ⟨l.toArray⟩) hlong] at hSeq
    have hlen := toksOf_len ⟨l.toArray⟩
    have hlenI := seqOf_len (scanL ⟨l.toArray⟩)
    have HLN := Lib.hid (And.intro hlen hlenI)
    have HZ3 := Lib.hid hz3
    have H23 := Lib.hid h2
    have hz45 : v2.heap.size = w.heap.size + 5 := hz4
    rw [hz45]
    clear b0' b1' b2' b3' b4 hm2 hv3 m3 c0' c1' c2' c3' c4' hT3 hI0 h2 hlen hlenI hz3 hz4 hz45 b5
    go_wp2_with fail
    refine (wpIn_wide (n := 3)).1 ?_
    refine name_frame7 (fun T hT => ?_)
    refine wpIn_rangeFunc_ownH rfl (by omega) (gf := 146) (lb := #[.pointer (some ⟨w.heap.size + 5, 0, none⟩)]) (by rw [hT]; rfl) trivial (enters_of Tryz.func146 (by kernel_rfl) rfl)
      hSeq (fun h k => KpL.trans h k) hKb (Below.refl _ _) (fun _ => rfl) (ReI v3 (w.heap.size + 4)) (fun _ _ _ => False) (reI_own v3 _ _ (Nat.le_refl _)) (fun c _ _ _ _ h _ _ => h) HI0.out
      (fun x a' W => ∃ Bx, v3.heap.size ≤ Bx ∧ W.heap[Bx]? = some (.cells (tokC x.1).toArray 185 (0, 0)) ∧ a' = { tmps := (((T.setIfInBounds 18 (encT x.1)).setIfInBounds 19 (.int .i64 x.2)).setIfInBounds 8 (.pointer (some ⟨Bx, 0, none⟩))).setIfInBounds 9 (.int .i64 x.2), defers := [] })
      (fun x a' _ X Y row hs hg hr => by obtain ⟨Bx, h1, h2, h3⟩ := hs; exact ⟨Bx, h1, (Mod.ofGrown hg).at h2 (fun hs => cells_ne (fun r e => (hr r e).2) h2 hs), h3⟩)
      ?assign ?body ?done ?stop
    case assign =>
      rintro l1 pre x W K hi hK
      obtain ⟨⟨xk, xt, xa⟩, xe⟩ := x
      have hsW : v3.heap.size ≤ W.heap.size := hi.md.size
      have h23 := H23.out
      have hz3 := HZ3.out
      have HK := Lib.hid hK
      have HI := Lib.hid hi
      clear hK hi hKb hSeq
      subst hT
      simp only [encI, encT]
      gi_wp2
      refine HK.out _ _ ((KeepsOthers.alloc _ _).from _) (KpL.of_mod ((Mod.refl (fun _ => False) W).alloc _) (by omega) (by omega) id id id (fun _ _ _ h => h.elim))
        ((reI_own v3 _ _ (Nat.le_refl _)).alloc _ HI.out) ⟨W.heap.size, hsW, heap_alloc_new W _, ?_⟩
      simp only [encT, List.setIfInBounds_toArray, List.set_cons_succ, List.set_cons_zero]
    case body =>
      rintro l1 pre x a' W hl1 ⟨rc, hrc⟩ hi ⟨Bx, hBx, hbx, rfl⟩ hlt
      obtain ⟨h1, a5, c5, h4, h5, h6⟩ := hi
      obtain ⟨⟨xk, xt, xa⟩, xe⟩ := x
      have h23 := H23.out
      have hz3 := HZ3.out
      have hsW : v3.heap.size ≤ W.heap.size := h1.size
      have d0 : W.cell? ⟨Bx, 0, none⟩ = some (.int .i64 xk) := cell_at hbx rfl
      have d1 : W.cell? ⟨Bx, 1, none⟩ = some (.string xt) := cell_at hbx rfl
      have d2 : W.cell? ⟨Bx, 2, none⟩ = some (.int .i64 xa) := cell_at hbx rfl
      have d5 := h4.cell
      have f5 := h4.frozen
      have hln := HLN.out
      have hb3 : pre.length ≤ 2 ^ 20 := by have h1 := hln.1; have h2 := hln.2; have : (toksOf ⟨l.toArray⟩).ts.length = (scanL ⟨l.toArray⟩).1.length := rfl; have h3 : (⟨l.toArray⟩ : ByteArray).size = l.length := rfl; omega
      have H1 := Lib.hid h1; have H4 := Lib.hid h4; have H5 := Lib.hid h5; have H6 := Lib.hid h6
      have HN5 : Hid (blk a5 ≠ some (w.heap.size + 4)) := fun h => by have := h6 _ h; omega
      have HRC := Lib.hid hrc
      have HZ := Lib.hid hz3
      clear h1 h4 h5 h6 hrc hKb hSeq hbx hln hz3
      subst hT
      simp only [encT, List.setIfInBounds_toArray, List.set_cons_succ, List.set_cons_zero]
      gi_wp2_with (gi_at_builtin; refine wpLI_appendN (fun _ => trivial) (us := [_, _, _, _]) rfl (.tmp 20) (.tmp 24) 180 rfl ti142 rfl H5.out rfl rfl rfl (by omega) (by unfold maxLen; omega) ?_; intro a6 c6 w6 hO6 hG6 _
                   have hb6 : Boxed w6 _ _ _ := hG6.mod.at H4.out HN5.out
                   have d6 := hb6.cell
                   have f6 := hb6.frozen
                   have HB6 := Lib.hid hb6; have HO6 := Lib.hid hO6; have HG6 := Lib.hid hG6
                   clear hb6 hO6 hG6 d5)
      have hz3 := HZ.out
      have hM : Mod (fun k => k = w.heap.size + 4 ∨ blk a5 = some k) W (w6.setCell ⟨w.heap.size + 4, 0, none⟩ (.slice a6 (pre.length + 1) c6)) := (HG6.out.mod.mono (fun _ _ h => .inr h)).setCell (fun _ => .inl rfl) _
      have hlow : ∀ k, k < w.heap.size + 4 → ¬ (k = w.heap.size + 4 ∨ blk a5 = some k) := by
        rintro k hk (rfl | h)
        · omega
        · have := H6.out k h; omega
      have h2w := H2w.out
      refine ⟨keepsFrom_mod hM ?_, KpL.of_mod hM (by omega) (by omega) ?_ (hlow _ (by omega)) (hlow _ (by omega)) ?_, ⟨?_, a6, c6, ?_, ?_, ?_⟩⟩
      · rintro k (rfl | h) o ho
        · have := H4.out; unfold Boxed at this; rw [this] at ho; cases ho; rfl
        · obtain ⟨cur, hc⟩ := Mine.Own.blk_cells H5.out k h
          rw [hc] at ho; cases ho; rfl
      · rintro (h | h)
        · omega
        · have := H6.out _ h; omega
      · rintro k cs fz (rfl | h) he
        · have := H4.out; unfold Boxed at this; rw [this] at he; cases he
        · obtain ⟨cur, hc⟩ := Mine.Own.blk_cells H5.out k h
          rw [hc] at he; cases he
      · exact H1.out.step hM (fun i hi hs => by
          rcases hs with h | h
          · exact h
          · have := H6.out i h; omega)
      · rw [List.length_append]; exact bx_put HB6.out _
      · rw [List.length_append, itsC_append]
        exact HO6.out.mod ((Mod.refl (fun b => b = w.heap.size + 4) w6).setCell (fun _ => rfl) _) (fun b hb e => by
          subst e
          rcases HG6.out.pos with e | ⟨g, e, hg⟩
          · rw [e] at hb; exact HN5.out hb
          · rw [e] at hb; cases hb; omega)
      · intro b hb
        rcases HG6.out.pos with e | ⟨g, e, hg⟩
        · rw [e] at hb; exact H6.out b hb
        · rw [e] at hb; cases hb; omega
    case stop =>
      rintro D cc pre W hD hpre h hK
      exact h.elim
    case done =>
      rintro D xs W hD rfl hi hK
      have hmf : ∀ (fn : Fn) (first cap : Array Value) (w : World), (Instr.makeFunc fn first cap).run Tryz.prog w = .ok (.func fn first cap) w := fun _ _ _ _ => rfl
      obtain ⟨hmd, la, lc, hl4, hlo, hlf⟩ := hi
      have hz3 := HZ3.out
      have hsW := hmd.size
      obtain ⟨k0, k1, k2, k3⟩ := HC.out
      have k0 := hmd.at k0 (by omega)
      have k1 := hmd.at k1 (by omega)
      have k2 := hmd.at k2 (by omega)
      have k3 := hmd.at k3 (by omega)
      have hln := HLN.out
      have hsl : (⟨l.toArray⟩ : ByteArray).size = l.length := rfl
      obtain ⟨S, hS⟩ : ∃ S, S = toksOf ⟨l.toArray⟩ := ⟨_, rfl⟩
      have hit : seqOf (scanL ⟨l.toArray⟩) = itemsOf S := by rw [hS, toksOf_items]
      rw [hit] at hl4 hlo
      rw [← hS] at HX
      have hSl : S.ts.length ≤ 65537 := by rw [hS]; have := hln.1; omega
      have hSf : S.fault = 0 → S.fin = l.length := by rw [hS]; unfold toksOf; intro h; simp only at h ⊢; rw [if_pos h]; rfl
      have hSs : ∀ k, (S.tok k).text.size < 2 ^ 30 := by rw [hS]; exact toksOf_size _ (by show l.length < _; omega)
      have hSw : S.Wf := by rw [hS]; exact toksOf_wf _
      clear hS hln hit
      obtain ⟨E, hE⟩ : ∃ E : Env, E = ⟨W.heap.size + 1, W.heap.size, w.heap.size + 4, w.heap.size, la, lc, l.length, S, 103⟩ := ⟨_, rfl⟩
      have hlal := hlo.lt
      have hEO : E.Ok := by
        rw [hE]
        refine ⟨⟨by simp, ?_, ?_, ?_, ?_⟩, ⟨fun h => ?_, fun h => ?_⟩, by show S.ts.length < _; omega, hSf, ⟨fun _ _ => by go_simp, fun la lc l N n bn bl bt w h hb hl hn => nextP_any la lc l N n bn bl bt w h hb hl hn⟩, hSs, hSw⟩
        · show W.heap.size + 1 ≠ w.heap.size + 4; omega
        · show W.heap.size + 1 ≠ w.heap.size; omega
        · show W.heap.size ≠ w.heap.size + 4; omega
        · show W.heap.size ≠ w.heap.size; omega
        · have := hlal _ h; simp only at this; omega
        · have := hlal _ h; simp only at this; omega
      obtain ⟨v5, hv5⟩ : ∃ v5, v5 = (W.alloc (.cells #[.int .i64 0] 3)).alloc (.cells #[E.next, .int .i64 0, .string ⟨#[]⟩, .int .i64 0, .int .i64 0, .bool false] 193) := ⟨_, rfl⟩
      have m5 : Mod (fun _ => False) W v5 := by rw [hv5]; exact ((Mod.refl _ W).alloc _).alloc _
      have hpn : v5.heap[W.heap.size]? = some (.cells #[.int .i64 0] 3 (0, 0)) := by rw [hv5]; exact ((Mod.refl (fun _ => False) _).alloc _).at (heap_alloc_new W _) id
      have hpp : v5.heap[W.heap.size + 1]? = some (.cells #[E.next, .int .i64 0, .string ⟨#[]⟩, .int .i64 0, .int .i64 0, .bool false] 193 (0, 0)) := by
        have := heap_alloc_new (W.alloc (.cells #[.int .i64 0] 3)) (.cells #[E.next, .int .i64 0, .string ⟨#[]⟩, .int .i64 0, .int .i64 0, .bool false] 193)
        rw [hv5]; simpa using this
      have hz5 : v5.heap.size = W.heap.size + 2 := by rw [hv5]; simp
      have hsrc : SrcAt v5 E.la E.lc (itemsOf E.S) E.N 0 E.bn E.bl E.bt := by
        rw [hE]
        exact ⟨hlo.rd.mod m5 (fun _ _ => id), hpn, m5.at hl4 id, a0, c0, m5.at k0 id⟩
      have hpar : v5.heap[E.bp]? = some (.cells #[E.next, .int .i64 0, .string ⟨#[]⟩, .int .i64 0, .int .i64 0, .bool false] 193 (0, 0)) := by rw [hE] at hpp ⊢; exact hpp
      have HST := Lib.hid (step0_any E 0 false _ _ _ _ v5 hEO hsrc hpar (Nat.zero_le _) (fun b hb => by rw [hE] at hb; have := hlal b hb; omega))
      have hFar : Mod (Far w) w v5 := (((HM3.out.mono fun _ _ f => f.elim).step hmd fun i hi h => by omega).step m5 fun _ _ h => h.elim)
      have hDW : D < W.heap.size := (Array.getElem?_eq_some_iff.1 hK).1
      have HDI := Lib.hid (DoorI.mk (w := w) (B := W.heap.size) (m5.at k1 id) (m5.at k2 id) (m5.at k3 id) (m5.at hK id) hFar hDW (by omega))
      have HV5 := Lib.hid hv5
      have HZW := Lib.hid (show w.heap.size + 6 ≤ W.heap.size by omega)
      have hEn : E.next = .func (.func 103) #[] #[.pointer (some ⟨W.heap.size, 0, none⟩), .pointer (some ⟨w.heap.size + 4, 0, none⟩), .pointer (some ⟨w.heap.size, 0, none⟩)] := by rw [hE]; rfl
      have HEN := Lib.hid hEn
      have HEB := Lib.hid (show E.bp = W.heap.size + 1 ∧ E.bn = W.heap.size ∧ E.S = S by rw [hE]; exact ⟨rfl, rfl, rfl⟩)
      have HEL := Lib.hid (show E.bl = w.heap.size + 4 ∧ E.bt = w.heap.size ∧ ∀ b, blk E.la = some b → w.heap.size + 6 ≤ b by rw [hE]; exact ⟨rfl, rfl, fun b hb => by have := hlf b hb; omega⟩)
      have henF := HF.enters
      clear hD hK hDW hmd hl4 hlo hlf hz3 hsW k0 k1 k2 k3 hsl hSl hSf hSs hSw hE hlal hEO hv5 m5 hpn hpp hz5 hsrc hpar hFar hEn hKb hSeq HI0 HLN
      subst hT
      rw [HEB.out.1] at HST
      have HCH : Hid (∀ b, E.Ch b → W.heap.size ≤ b) := fun b hb => by rcases hb with rfl | rfl <;> (have := HEB.out; omega)
      go_wp2_with fail
      have hw5 : (W.alloc (.cells #[.int .i64 0] 3)).alloc (.cells #[.func (.func 103) #[] #[.pointer (some ⟨W.heap.size, 0, none⟩), .pointer (some ⟨w.heap.size + 1 + 1 + 1 + 1, 0, none⟩), .pointer (some ⟨w.heap.size, 0, none⟩)], .int .i64 0, .string ⟨#[]⟩, .int .i64 0, .int .i64 0, .bool false] 193) = v5 := by rw [HV5.out, HEN.out]
      rw [hw5]
      clear hw5
      refine HST.out.mono ?_
      rintro e v6 ⟨rfl, hS6, hM6⟩
      have HD6 := Lib.hid (HDI.out.call hM6 HCH.out)
      have HO := Lib.hid (HF.calls E v6 hS6)
      rw [HEB.out.1] at HO
      have hle6 : W.heap.size ≤ v6.heap.size := by have := hS6.src.lts.1; have := HEB.out.2.1; omega
      have HLE6 := Lib.hid hle6
      clear hS6 hM6 hle6 HST HDI
      go_wp2_with fail
      refine HO.out.mono ?_
      rintro e v7 (⟨x, hx, rfl, hM⟩ | ⟨⟨rs, k7⟩, hx, ⟨a1, n1, ag7, rfl, hRR, hS7⟩, hM⟩)
      · have HXX := Lib.hid (show readL ⟨l.toArray⟩ one = .error x by rw [HX.out]; rw [HEB.out.2.2] at hx; rw [hx]; rfl)
        have HD7 := Lib.hid (HD6.out.call hM HCH.out)
        clear hx hM HO HD6
        go_wp2_with fail
        refine ⟨by simp, .inr ⟨by simp, _, _, 102, #[.pointer (some ⟨w.heap.size + 1, 0, none⟩), .pointer (some ⟨w.heap.size + 1 + 1, 0, none⟩), .pointer (some ⟨w.heap.size + 1 + 1 + 1, 0, none⟩)], rfl, by simp [go_sem], fun _ _ => trivial, ?_⟩⟩
        refine (catchP_wrong _ _ _ _ _ _ _ _ _ _ x _ HD7.out.g1 HD7.out.g2 HD7.out.g3 ⟨by omega, by omega, by omega⟩).mono ?_
        rintro e u' v8 ⟨⟨vv, rfl⟩, rfl, hM8, q1, q2, q3⟩
        have hlD := HD7.out.geD
        have qD := hM8.at HD7.out.gD (by omega)
        have hG := Mod.ofGrown (grownBy_putObj' v8 D (.deferred none))
        have hne : ∀ b, b < w.heap.size + 6 → ¬ (some D = some b) := fun b hb e => by cases e; omega
        have q1' := hG.at q1 (hne _ (by omega))
        have q2' := hG.at q2 (hne _ (by omega))
        have q3' := hG.at q3 (hne _ (by omega))
        have hfin : Mod (fun _ => False) w (v8.putObj D (.deferred none)) := new_mod ((HD7.out.far.step hM8 fun i _ h => by unfold Far; omega).step hG fun i _ e => by cases e; unfold Far; omega)
        refine ⟨by simp [settle], .inl ⟨D, _, rfl, run_takeDeferred qD, ?_⟩⟩
        have e10 := cell_at (j := 0) q1' rfl
        have e2 := cell_at (j := 0) q2' rfl
        have e3 := cell_at (j := 0) q3' rfl
        simp only [settle]
        refine ⟨.tuple #[.agg #[.slice none 0 0], .int .i64 x.2, .int .i64 x.1], by simp [results, Tryz.results52, go_sem, e10, e2, e3], ?_⟩
        exact ⟨.inl ⟨_, HXX.out, rfl⟩, hfin⟩
      have HXX := Lib.hid (show readL ⟨l.toArray⟩ one = (wantP E.S k7 [0]).bind fun _ => .ok rs by rw [HX.out]; rw [HEB.out.2.2] at hx ⊢; unfold wholeP; rw [hx]; rfl)
      have hD7 := HD6.out.call hM HCH.out
      have hge := hD7.geD
      have hzw := HZW.out
      have hle7 : v6.heap.size ≤ v7.heap.size := hM.size
      obtain ⟨v8, hv8⟩ : ∃ v8, v8 = v7.setCell ⟨w.heap.size + 1, 0, none⟩ (.slice a1 n1 n1) := ⟨_, rfl⟩
      have g8 : v8.heap[w.heap.size + 1]? = some (.cells #[.slice a1 n1 n1] 24 (0, 0)) := by rw [hv8]; exact heap_setCell_at (j := 0) (.slice a1 n1 n1) (hD7.g1)
      have m8 : Mod (fun b => b = w.heap.size + 1) v7 v8 := by rw [hv8]; exact (Mod.refl (fun b => b = w.heap.size + 1) v7).setCell (p := ⟨w.heap.size + 1, 0, none⟩) (fun _ => rfl) _
      have hD8 : DoorI w v8 W.heap.size D #[.slice a1 n1 n1] 24 := ⟨g8, m8.at hD7.g2 (by omega), m8.at hD7.g3 (by omega), m8.at hD7.gD (by omega), hD7.far.step m8 (fun i _ e => by have e : i = w.heap.size + 1 := e; unfold Far; omega), hD7.ltD, hD7.geD⟩
      have hS8 : PSt v8 E k7 ag7 := hS7.mod m8 (by have := HEB.out.1; omega) (by have := HEB.out.2.1; omega) (by have := HEL.out.1; omega) (by have := HEL.out.2.1; omega) (fun b hb e => by have := HEL.out.2.2 b hb; omega)
      have hR8 := HF.keeps _ _ a1 n1 v7 v8 _ hRR m8 (fun b hb e => by have := HLE6.out; omega)
      have hz8 : v8.heap.size = v7.heap.size := by rw [hv8]; simp
      have HW1 := Lib.hid (want1 E k7 ag7 0 v8 hS8 v8.heap.size 0)
      rw [HEB.out.1] at HW1
      have HD8 := Lib.hid hD8
      have HR8 := Lib.hid hR8
      have HV8 := Lib.hid hv8
      have HZ8 := Lib.hid (show v8.heap.size = v7.heap.size from hz8)
      have c10 := cell_at (j := 0) hD7.g1 rfl
      have f10 : v7.frozen? ⟨w.heap.size + 1, 0, none⟩ = false := frozen_at hD7.g1
      clear hx hM hD7 g8 m8 hD8 hS8 hR8 hv8 hz8 hS7 hRR HO HD6
      go_wp2_with fail
      rw [← HV8.out, ← HZ8.out]
      clear HV8 c10 f10
      refine HW1.out.mono ?_
      rintro e w' ⟨(⟨x, hx, rfl⟩ | ⟨hx, rfl⟩), rfl⟩
      · have HXX2 := Lib.hid (show readL ⟨l.toArray⟩ one = .error x by rw [HXX.out, hx]; rfl)
        have HD7 := Lib.hid (HD8.out.call ((Mod.refl (fun _ => False) v8).alloc (.cells #[.int .i64 0] 3)) (fun _ h => h.elim))
        clear hx HW1 HD8 HXX
        have HXX := HXX2
        go_wp2_with fail
        refine ⟨by simp, .inr ⟨by simp, _, _, 102, #[.pointer (some ⟨w.heap.size + 1, 0, none⟩), .pointer (some ⟨w.heap.size + 1 + 1, 0, none⟩), .pointer (some ⟨w.heap.size + 1 + 1 + 1, 0, none⟩)], rfl, by simp [go_sem], fun _ _ => trivial, ?_⟩⟩
        refine (catchP_wrong _ _ _ _ _ _ _ _ _ _ x _ HD7.out.g1 HD7.out.g2 HD7.out.g3 ⟨by omega, by omega, by omega⟩).mono ?_
        rintro e u' v8 ⟨⟨vv, rfl⟩, rfl, hM8, q1, q2, q3⟩
        have hlD := HD7.out.geD
        have qD := hM8.at HD7.out.gD (by omega)
        have hG := Mod.ofGrown (grownBy_putObj' v8 D (.deferred none))
        have hne : ∀ b, b < w.heap.size + 6 → ¬ (some D = some b) := fun b hb e => by cases e; omega
        have q1' := hG.at q1 (hne _ (by omega))
        have q2' := hG.at q2 (hne _ (by omega))
        have q3' := hG.at q3 (hne _ (by omega))
        have hfin : Mod (fun _ => False) w (v8.putObj D (.deferred none)) := new_mod ((HD7.out.far.step hM8 fun i _ h => by unfold Far; omega).step hG fun i _ e => by cases e; unfold Far; omega)
        refine ⟨by simp [settle], .inl ⟨D, _, rfl, run_takeDeferred qD, ?_⟩⟩
        have e10 := cell_at (j := 0) q1' rfl
        have e2 := cell_at (j := 0) q2' rfl
        have e3 := cell_at (j := 0) q3' rfl
        simp only [settle]
        refine ⟨.tuple #[.agg #[.slice none 0 0], .int .i64 x.2, .int .i64 x.1], by simp [results, Tryz.results52, go_sem, e10, e2, e3], ?_⟩
        exact ⟨.inl ⟨_, HXX.out, rfl⟩, hfin⟩
      have HXX2 := Lib.hid (show readL ⟨l.toArray⟩ one = .ok rs by rw [HXX.out, hx]; rfl)
      have hm9 : Mod (fun _ => False) v8 (v8.alloc (.cells #[.int .i64 0] 3)) := (Mod.refl _ v8).alloc _
      have HD9 := Lib.hid (HD8.out.call hm9 (fun _ h => h.elim))
      have HR9 := Lib.hid (HF.keeps _ _ a1 n1 _ _ _ HR8.out hm9 (fun _ _ h => h))
      obtain ⟨v9, hv9⟩ : ∃ v9, v9 = v8.alloc (.cells #[.int .i64 0] 3) := ⟨_, rfl⟩
      rw [← hv9] at HD9 HR9 ⊢
      clear hx hm9 HW1 HD8 HR8 HXX hv9 HZ8
      have c10 := cell_at (j := 0) HD9.out.g1 rfl
      have f10 : v9.frozen? ⟨w.heap.size + 1, 0, none⟩ = false := frozen_at HD9.out.g1
      have f2 : v9.frozen? ⟨w.heap.size + 1 + 1, 0, none⟩ = false := frozen_at HD9.out.g2
      have f3 : v9.frozen? ⟨w.heap.size + 1 + 1 + 1, 0, none⟩ = false := frozen_at HD9.out.g3
      have c2 := cell_at (j := 0) HD9.out.g2 rfl
      have c3 := cell_at (j := 0) HD9.out.g3 rfl
      go_wp2_with fail
      obtain ⟨v10, hv10⟩ : ∃ v10, v10 = ((v9.setCell ⟨w.heap.size + 1, 0, none⟩ (.slice a1 n1 n1)).setCell ⟨w.heap.size + 1 + 1, 0, none⟩ (.int .i64 0)).setCell ⟨w.heap.size + 1 + 1 + 1, 0, none⟩ (.int .i64 0) := ⟨_, rfl⟩
      rw [← hv10]
      have gA : (v9.setCell ⟨w.heap.size + 1, 0, none⟩ (.slice a1 n1 n1)).heap[w.heap.size + 1]? = some (.cells #[.slice a1 n1 n1] 24 (0, 0)) := heap_setCell_at (j := 0) (.slice a1 n1 n1) (HD9.out.g1)
      have mA : Mod (fun b => b = w.heap.size + 1) v9 (v9.setCell ⟨w.heap.size + 1, 0, none⟩ (.slice a1 n1 n1)) := (Mod.refl (fun b => b = w.heap.size + 1) v9).setCell (p := ⟨w.heap.size + 1, 0, none⟩) (fun _ => rfl) _
      generalize (v9.setCell ⟨w.heap.size + 1, 0, none⟩ (.slice a1 n1 n1)) = vA at *
      have gB2 := mA.at HD9.out.g2 (by omega)
      have gB3 := mA.at HD9.out.g3 (by omega)
      have mB : Mod (fun b => b = w.heap.size + 1 + 1) vA (vA.setCell ⟨w.heap.size + 1 + 1, 0, none⟩ (.int .i64 0)) := (Mod.refl (fun b => b = w.heap.size + 1 + 1) vA).setCell (p := ⟨w.heap.size + 1 + 1, 0, none⟩) (fun _ => rfl) _
      have gC2 : (vA.setCell ⟨w.heap.size + 1 + 1, 0, none⟩ (.int .i64 0)).heap[w.heap.size + 1 + 1]? = some (.cells #[.int .i64 0] 3 (0, 0)) := heap_setCell_at (j := 0) (.int .i64 0) gB2
      have gC1 := mB.at gA (by omega)
      have gC3 := mB.at gB3 (by omega)
      generalize vA.setCell ⟨w.heap.size + 1 + 1, 0, none⟩ (.int .i64 0) = vB at *
      have mC : Mod (fun b => b = w.heap.size + 1 + 1 + 1) vB v10 := by rw [hv10]; exact (Mod.refl (fun b => b = w.heap.size + 1 + 1 + 1) vB).setCell (p := ⟨w.heap.size + 1 + 1 + 1, 0, none⟩) (fun _ => rfl) _
      have gD3 : v10.heap[w.heap.size + 1 + 1 + 1]? = some (.cells #[.int .i64 0] 26 (0, 0)) := by rw [hv10]; exact heap_setCell_at (j := 0) (.int .i64 0) gC3
      have gD1 := mC.at gC1 (by omega)
      have gD2 := mC.at gC2 (by omega)
      have gDD := mC.at (mB.at (mA.at HD9.out.gD (by omega)) (by omega)) (by omega)
      have mT : Mod (fun b => b = w.heap.size + 1 ∨ b = w.heap.size + 1 + 1 ∨ b = w.heap.size + 1 + 1 + 1) v9 v10 := ((mA.mono fun _ _ e => .inl e).trans (mB.mono fun _ _ e => .inr (.inl e))).trans (mC.mono fun _ _ e => .inr (.inr e))
      clear hv10 mA mB mC gA gB2 gB3 gC1 gC2 gC3 c10 f10 f2 f3 c2 c3
      refine ⟨by simp, .inr ⟨by simp, _, _, 102, #[.pointer (some ⟨w.heap.size + 1, 0, none⟩), .pointer (some ⟨w.heap.size + 1 + 1, 0, none⟩), .pointer (some ⟨w.heap.size + 1 + 1 + 1, 0, none⟩)], rfl, by simp [go_sem], fun _ _ => trivial, ?_⟩⟩
      refine (catchP_idle _ _ _ _ _).mono ?_
      rintro e u' w'' ⟨⟨vv, rfl⟩, rfl, rfl⟩
      have hG := Mod.ofGrown (grownBy_putObj' w'' D (.deferred none))
      have hne : ∀ b, b < w.heap.size + 6 → ¬ (some D = some b) := fun b hb e => by cases e; omega
      have q1 := hG.at gD1 (hne _ (by omega))
      have q2 := hG.at gD2 (hne _ (by omega))
      have q3 := hG.at gD3 (hne _ (by omega))
      have hfin : Mod (fun _ => False) w (w''.putObj D (.deferred none)) := new_mod ((HD9.out.far.step mT fun i _ h => by unfold Far; omega).step hG fun i _ e => by cases e; unfold Far; omega)
      have hR10 := HF.keeps _ _ a1 n1 _ _ _ (HF.keeps _ _ a1 n1 _ _ _ HR9.out mT (fun b hb e => by have := HLE6.out; omega)) hG (fun b hb e => by cases e; have := HLE6.out; have := HD9.out.ltD; omega)
      have hR11 := HF.mono v6.heap.size w.heap.size _ a1 n1 _ (by have := HLE6.out; omega) hR10
      refine ⟨by simp [settle], .inl ⟨D, _, rfl, run_takeDeferred gDD, ?_⟩⟩
      have e10 := cell_at (j := 0) q1 rfl
      have e2 := cell_at (j := 0) q2 rfl
      have e3 := cell_at (j := 0) q3 rfl
      simp only [settle]
      refine ⟨.tuple #[.agg #[.slice a1 n1 n1], .int .i64 0, .int .i64 0], by simp [results, Tryz.results52, go_sem, e10, e2, e3], ?_⟩
      exact ⟨.inr ⟨_, _, HXX2.out, rfl, _, _, rfl, hR11⟩, hfin⟩
end
section
variable {α : Type}
/-- what the reader of a thing does -/
structure OneR (one : Toks → PR (α × Nat)) (R : Nat → α → ByteArray → Option Addr → Nat → Option Addr → Nat → World → Prop) (F : FuncId) : Prop where
  enters : ∀ (args : Array Value) (w : World), (callFunc F args).run Tryz.prog w = .ok (.enter F args) w
  calls : ∀ (E : Env) (w : World), PSt w E 0 false → Calls Tryz.prog F #[.pointer (some ⟨E.bp, 0, none⟩)] w (PP E w (one E.S) fun r e w' => ∃ p a1 n1 a2 n2 ag, e = .returned (.agg #[.string p, .slice a1 n1 n1, .slice a2 n2 n2]) ∧ R w.heap.size r.1 p a1 n1 a2 n2 w' ∧ PSt w' E r.2 ag)
  mono : ∀ lo lo' a p a1 n1 a2 n2 w, lo' ≤ lo → R lo a p a1 n1 a2 n2 w → R lo' a p a1 n1 a2 n2 w
  keeps : ∀ lo a p a1 n1 a2 n2 w w' (T : Nat → Prop), R lo a p a1 n1 a2 n2 w → Mod T w w' → (∀ b, lo ≤ b → ¬ T b) → R lo a p a1 n1 a2 n2 w'
theorem readR_any (one : Toks → PR (α × Nat)) (R : Nat → α → ByteArray → Option Addr → Nat → Option Addr → Nat → World → Prop) (F : FuncId) (HF : OneR one R F) (a0 : Option Addr) (c0 : Nat) (l : List UInt8) (w : World) (hR : Rd w a0 (bts l)) (hT : Lib.Utf8Tabs 1 2 w) (hl : l.length < 2 ^ 30) :
    Calls Tryz.prog 56 #[.slice a0 l.length c0, .func (.func F) #[] #[]] w (RdPost w (.agg #[.string ⟨#[]⟩, .slice none 0 0, .slice none 0 0]) (readL ⟨l.toArray⟩ one) fun a v w' => ∃ p a1 n1 a2 n2, v = .agg #[.string p, .slice a1 n1 n1, .slice a2 n2 n2] ∧ R w.heap.size a p a1 n1 a2 n2 w') := by
  have hsz : (⟨l.toArray⟩ : ByteArray).size = l.length := rfl
  have h2w := tabs_lt hT
  have HM0 : Hid (Mod (fun _ => False) w ((((w.alloc (.cells #[.slice a0 l.length c0] 34)).alloc (.cells #[.string ⟨#[]⟩, .slice none 0 0, .slice none 0 0] 46)).alloc (.cells #[.int .i64 0] 3)).alloc (.cells #[.int .i64 0] 26))) := ((((Mod.refl _ w).alloc _).alloc _).alloc _).alloc _
  have b0 : ((((w.alloc (.cells #[.slice a0 l.length c0] 34)).alloc (.cells #[.string ⟨#[]⟩, .slice none 0 0, .slice none 0 0] 46)).alloc (.cells #[.int .i64 0] 3)).alloc (.cells #[.int .i64 0] 26)).heap[w.heap.size]? = some (.cells #[.slice a0 l.length c0] 34 (0, 0)) := ((((Mod.refl (fun _ => False) _).alloc _).alloc _).alloc _).at (heap_alloc_new w _) id
  have b1 : ((((w.alloc (.cells #[.slice a0 l.length c0] 34)).alloc (.cells #[.string ⟨#[]⟩, .slice none 0 0, .slice none 0 0] 46)).alloc (.cells #[.int .i64 0] 3)).alloc (.cells #[.int .i64 0] 26)).heap[w.heap.size + 1]? = some (.cells #[.string ⟨#[]⟩, .slice none 0 0, .slice none 0 0] 46 (0, 0)) := (((Mod.refl (fun _ => False) _).alloc _).alloc _).at (by have := heap_alloc_new (w.alloc (.cells #[.slice a0 l.length c0] 34)) (.cells #[.string ⟨#[]⟩, .slice none 0 0, .slice none 0 0] 46); simpa using this) id
  have b2 : ((((w.alloc (.cells #[.slice a0 l.length c0] 34)).alloc (.cells #[.string ⟨#[]⟩, .slice none 0 0, .slice none 0 0] 46)).alloc (.cells #[.int .i64 0] 3)).alloc (.cells #[.int .i64 0] 26)).heap[w.heap.size + 1 + 1]? = some (.cells #[.int .i64 0] 3 (0, 0)) := ((Mod.refl (fun _ => False) _).alloc _).at (by have := heap_alloc_new ((w.alloc (.cells #[.slice a0 l.length c0] 34)).alloc (.cells #[.string ⟨#[]⟩, .slice none 0 0, .slice none 0 0] 46)) (.cells #[.int .i64 0] 3); simpa using this) id
  have b3 : ((((w.alloc (.cells #[.slice a0 l.length c0] 34)).alloc (.cells #[.string ⟨#[]⟩, .slice none 0 0, .slice none 0 0] 46)).alloc (.cells #[.int .i64 0] 3)).alloc (.cells #[.int .i64 0] 26)).heap[w.heap.size + 1 + 1 + 1]? = some (.cells #[.int .i64 0] 26 (0, 0)) := by have := heap_alloc_new (((w.alloc (.cells #[.slice a0 l.length c0] 34)).alloc (.cells #[.string ⟨#[]⟩, .slice none 0 0, .slice none 0 0] 46)).alloc (.cells #[.int .i64 0] 3)) (.cells #[.int .i64 0] 26); simpa using this
  have hz0 : ((((w.alloc (.cells #[.slice a0 l.length c0] 34)).alloc (.cells #[.string ⟨#[]⟩, .slice none 0 0, .slice none 0 0] 46)).alloc (.cells #[.int .i64 0] 3)).alloc (.cells #[.int .i64 0] 26)).heap.size = w.heap.size + 4 := by simp
  have HB := Lib.hid (And.intro b0 (And.intro b1 (And.intro b2 (And.intro b3 hz0))))
  have H2w := Lib.hid h2w
  have HRd := Lib.hid hR
  have HTw := Lib.hid hT
  clear b0 b1 b2 b3 hz0 h2w hR hT
  refine (callsIn_wide (n := 3)).1 ?_
  refine callsIn_of_wp_marks Tryz.func56 rfl trivial ?_ rfl
  simp only [Tryz.ntmps56, List.size_toArray, List.length_cons, List.length_nil, Nat.reduceAdd, Nat.reduceSub, Array.replicate_succ, Array.replicate_zero, List.push_toArray, List.append_toArray, List.nil_append, List.cons_append]
  refine (wpIn_wide (n := 3)).2 ?_
  by_cases hlong : 65536 < l.length
  · have HX := Lib.hid (show readL ⟨l.toArray⟩ one = .error (3, 0) from if_pos hlong)
    go_wp2_with fail
    have hm9 : Mod (fun _ => False) w ((((w.alloc (.cells #[.slice a0 l.length c0] 34)).alloc (.cells #[.string ⟨#[]⟩, .slice none 0 0, .slice none 0 0] 46)).alloc (.cells #[.int .i64 0] 3)).alloc (.cells #[.int .i64 3] 26)) := ((((Mod.refl _ w).alloc _).alloc _).alloc _).alloc _
    have g1 : ((((w.alloc (.cells #[.slice a0 l.length c0] 34)).alloc (.cells #[.string ⟨#[]⟩, .slice none 0 0, .slice none 0 0] 46)).alloc (.cells #[.int .i64 0] 3)).alloc (.cells #[.int .i64 3] 26)).heap[w.heap.size + 1]? = some (.cells #[.string ⟨#[]⟩, .slice none 0 0, .slice none 0 0] 46 (0, 0)) := (((Mod.refl (fun _ => False) _).alloc _).alloc _).at (by have := heap_alloc_new (w.alloc (.cells #[.slice a0 l.length c0] 34)) (.cells #[.string ⟨#[]⟩, .slice none 0 0, .slice none 0 0] 46); simpa using this) id
    have g2 : ((((w.alloc (.cells #[.slice a0 l.length c0] 34)).alloc (.cells #[.string ⟨#[]⟩, .slice none 0 0, .slice none 0 0] 46)).alloc (.cells #[.int .i64 0] 3)).alloc (.cells #[.int .i64 3] 26)).heap[w.heap.size + 1 + 1]? = some (.cells #[.int .i64 0] 3 (0, 0)) := ((Mod.refl (fun _ => False) _).alloc _).at (by have := heap_alloc_new ((w.alloc (.cells #[.slice a0 l.length c0] 34)).alloc (.cells #[.string ⟨#[]⟩, .slice none 0 0, .slice none 0 0] 46)) (.cells #[.int .i64 0] 3); simpa using this) id
    have g3 : ((((w.alloc (.cells #[.slice a0 l.length c0] 34)).alloc (.cells #[.string ⟨#[]⟩, .slice none 0 0, .slice none 0 0] 46)).alloc (.cells #[.int .i64 0] 3)).alloc (.cells #[.int .i64 3] 26)).heap[w.heap.size + 1 + 1 + 1]? = some (.cells #[.int .i64 3] 26 (0, 0)) := by have := heap_alloc_new (((w.alloc (.cells #[.slice a0 l.length c0] 34)).alloc (.cells #[.string ⟨#[]⟩, .slice none 0 0, .slice none 0 0] 46)).alloc (.cells #[.int .i64 0] 3)) (.cells #[.int .i64 3] 26); simpa using this
    obtain ⟨w9, hw9⟩ : ∃ w9, w9 = (((w.alloc (.cells #[.slice a0 l.length c0] 34)).alloc (.cells #[.string ⟨#[]⟩, .slice none 0 0, .slice none 0 0] 46)).alloc (.cells #[.int .i64 0] 3)).alloc (.cells #[.int .i64 3] 26) := ⟨_, rfl⟩
    rw [← hw9] at g1 g2 g3 hm9 ⊢
    clear hw9
    have e10 := cell_at (j := 0) g1 rfl
    have e11 := cell_at (j := 1) g1 rfl
    have e12 := cell_at (j := 2) g1 rfl
    have e2 := cell_at (j := 0) g2 rfl
    have e3 := cell_at (j := 0) g3 rfl
    refine ⟨.tuple #[.agg #[.string ⟨#[]⟩, .slice none 0 0, .slice none 0 0], .int .i64 0, .int .i64 3], by simp [results, Tryz.results56, go_sem, e10, e11, e12, e2, e3], ?_⟩
    exact ⟨.inl ⟨_, HX.out, rfl⟩, hm9⟩
  · have HX := Lib.hid (show readL ⟨l.toArray⟩ one = wholeP (toksOf ⟨l.toArray⟩) (one (toksOf ⟨l.toArray⟩)) from if_neg hlong)
    go_wp2_with fail
    obtain ⟨b0, b1, b2, b3, hz0⟩ := HB.out
    obtain ⟨v0, hv0⟩ : ∃ v0, v0 = (((w.alloc (.cells #[.slice a0 l.length c0] 34)).alloc (.cells #[.string ⟨#[]⟩, .slice none 0 0, .slice none 0 0] 46)).alloc (.cells #[.int .i64 0] 3)).alloc (.cells #[.int .i64 0] 26) := ⟨_, rfl⟩
    rw [← hv0] at b0 b1 b2 b3 hz0 HM0 ⊢
    clear hv0 HB
    have hz4 : (v0.alloc (.cells #[.slice none 0 0] 180)).heap.size = w.heap.size + 5 := by simp [hz0]
    have m1 : Mod (fun _ => False) v0 (v0.alloc (.cells #[.slice none 0 0] 180)) := (Mod.refl _ v0).alloc _
    have b4 := heap_alloc_new v0 (.cells #[.slice none 0 0] 180)
    rw [hz0] at b4
    obtain ⟨v2, hv2⟩ : ∃ v2, v2 = v0.alloc (.cells #[.slice none 0 0] 180) := ⟨_, rfl⟩
    rw [← hv2] at hz4 m1 b4 ⊢
    clear hv2
    have b0' := m1.at b0 id
    have b1' := m1.at b1 id
    have b2' := m1.at b2 id
    have b3' := m1.at b3 id
    have hm2 := HM0.out.trans m1
    clear b0 b1 b2 b3 m1 hz0 HM0
    refine (each_any a0 c0 l v2 (HRd.out.mod hm2 (fun _ _ => id))).mono ?_
    rintro e v3 ⟨rfl, hv3⟩
    have m3 : Mod (fun _ => False) v2 v3 := by rw [hv3]; exact (Mod.refl _ v2).alloc _
    have b5 : v3.heap[w.heap.size + 5]? = some (.cells #[.string ⟨l.toArray⟩] 9 (0, 0)) := by rw [hv3, ← hz4]; exact heap_alloc_new v2 _
    have hz3 : v3.heap.size = w.heap.size + 6 := by rw [hv3]; simp [hz4]
    have c0' := m3.at b0' id
    have c1' := m3.at b1' id
    have c2' := m3.at b2' id
    have c3' := m3.at b3' id
    have c4' : Boxed v3 (w.heap.size + 4) 180 (.slice none 0 0) := m3.at b4 id
    have HC := Lib.hid (And.intro c0' (And.intro c1' (And.intro c2' c3')))
    have HM3 := Lib.hid (hm2.trans m3)
    have hT3 := tabs_mod HTw.out (hm2.trans m3)
    have HT3 := Lib.hid hT3
    have hI0 : ReI v3 (w.heap.size + 4) [] v3 := ⟨Mod.refl _ _, none, 0, c4', Mine.Own.nil _ _ _, by simp⟩
    have HI0 := Lib.hid hI0
    have h2 := tabs_lt hT3
    have hKb := KpL.putObj (w := v3) (B := w.heap.size + 5) (by rw [hz3]; omega) h2
    have hSeq := each_stops 2 (w.heap.size + 5) ⟨l.toArray⟩ v3 b5 hT3 h2 (show l.length < 2 ^ 30 from hl)
    rw [foundL_short (s := ⟨l.toArray⟩) hlong] at hSeq
    have hlen := toksOf_len ⟨l.toArray⟩
    have hlenI := seqOf_len (scanL ⟨l.toArray⟩)
    have HLN := Lib.hid (And.intro hlen hlenI)
    have HZ3 := Lib.hid hz3
    have H23 := Lib.hid h2
    have hz45 : v2.heap.size = w.heap.size + 5 := hz4
    rw [hz45]
    clear b0' b1' b2' b3' b4 hm2 hv3 m3 c0' c1' c2' c3' c4' hT3 hI0 h2 hlen hlenI hz3 hz4 hz45 b5
    go_wp2_with fail
    refine (wpIn_wide (n := 3)).1 ?_
    refine name_frame7 (fun T hT => ?_)
    refine wpIn_rangeFunc_ownH rfl (by omega) (gf := 146) (lb := #[.pointer (some ⟨w.heap.size + 5, 0, none⟩)]) (by rw [hT]; rfl) trivial (enters_of Tryz.func146 (by kernel_rfl) rfl)
      hSeq (fun h k => KpL.trans h k) hKb (Below.refl _ _) (fun _ => rfl) (ReI v3 (w.heap.size + 4)) (fun _ _ _ => False) (reI_own v3 _ _ (Nat.le_refl _)) (fun c _ _ _ _ h _ _ => h) HI0.out
      (fun x a' W => ∃ Bx, v3.heap.size ≤ Bx ∧ W.heap[Bx]? = some (.cells (tokC x.1).toArray 185 (0, 0)) ∧ a' = { tmps := (((T.setIfInBounds 18 (encT x.1)).setIfInBounds 19 (.int .i64 x.2)).setIfInBounds 8 (.pointer (some ⟨Bx, 0, none⟩))).setIfInBounds 9 (.int .i64 x.2), defers := [] })
      (fun x a' _ X Y row hs hg hr => by obtain ⟨Bx, h1, h2, h3⟩ := hs; exact ⟨Bx, h1, (Mod.ofGrown hg).at h2 (fun hs => cells_ne (fun r e => (hr r e).2) h2 hs), h3⟩)
      ?assign ?body ?done ?stop
    case assign =>
      rintro l1 pre x W K hi hK
      obtain ⟨⟨xk, xt, xa⟩, xe⟩ := x
      have hsW : v3.heap.size ≤ W.heap.size := hi.md.size
      have h23 := H23.out
      have hz3 := HZ3.out
      have HK := Lib.hid hK
      have HI := Lib.hid hi
      clear hK hi hKb hSeq
      subst hT
      simp only [encI, encT]
      gi_wp2
      refine HK.out _ _ ((KeepsOthers.alloc _ _).from _) (KpL.of_mod ((Mod.refl (fun _ => False) W).alloc _) (by omega) (by omega) id id id (fun _ _ _ h => h.elim))
        ((reI_own v3 _ _ (Nat.le_refl _)).alloc _ HI.out) ⟨W.heap.size, hsW, heap_alloc_new W _, ?_⟩
      simp only [encT, List.setIfInBounds_toArray, List.set_cons_succ, List.set_cons_zero]
    case body =>
      rintro l1 pre x a' W hl1 ⟨rc, hrc⟩ hi ⟨Bx, hBx, hbx, rfl⟩ hlt
      obtain ⟨h1, a5, c5, h4, h5, h6⟩ := hi
      obtain ⟨⟨xk, xt, xa⟩, xe⟩ := x
      have h23 := H23.out
      have hz3 := HZ3.out
      have hsW : v3.heap.size ≤ W.heap.size := h1.size
      have d0 : W.cell? ⟨Bx, 0, none⟩ = some (.int .i64 xk) := cell_at hbx rfl
      have d1 : W.cell? ⟨Bx, 1, none⟩ = some (.string xt) := cell_at hbx rfl
      have d2 : W.cell? ⟨Bx, 2, none⟩ = some (.int .i64 xa) := cell_at hbx rfl
      have d5 := h4.cell
      have f5 := h4.frozen
      have hln := HLN.out
      have hb3 : pre.length ≤ 2 ^ 20 := by have h1 := hln.1; have h2 := hln.2; have : (toksOf ⟨l.toArray⟩).ts.length = (scanL ⟨l.toArray⟩).1.length := rfl; have h3 : (⟨l.toArray⟩ : ByteArray).size = l.length := rfl; omega
      have H1 := Lib.hid h1; have H4 := Lib.hid h4; have H5 := Lib.hid h5; have H6 := Lib.hid h6
      have HN5 : Hid (blk a5 ≠ some (w.heap.size + 4)) := fun h => by have := h6 _ h; omega
      have HRC := Lib.hid hrc
      have HZ := Lib.hid hz3
      clear h1 h4 h5 h6 hrc hKb hSeq hbx hln hz3
      subst hT
      simp only [encT, List.setIfInBounds_toArray, List.set_cons_succ, List.set_cons_zero]
      gi_wp2_with (gi_at_builtin; refine wpLI_appendN (fun _ => trivial) (us := [_, _, _, _]) rfl (.tmp 20) (.tmp 24) 180 rfl ti142 rfl H5.out rfl rfl rfl (by omega) (by unfold maxLen; omega) ?_; intro a6 c6 w6 hO6 hG6 _
                   have hb6 : Boxed w6 _ _ _ := hG6.mod.at H4.out HN5.out
                   have d6 := hb6.cell
                   have f6 := hb6.frozen
                   have HB6 := Lib.hid hb6; have HO6 := Lib.hid hO6; have HG6 := Lib.hid hG6
                   clear hb6 hO6 hG6 d5)
      have hz3 := HZ.out
      have hM : Mod (fun k => k = w.heap.size + 4 ∨ blk a5 = some k) W (w6.setCell ⟨w.heap.size + 4, 0, none⟩ (.slice a6 (pre.length + 1) c6)) := (HG6.out.mod.mono (fun _ _ h => .inr h)).setCell (fun _ => .inl rfl) _
      have hlow : ∀ k, k < w.heap.size + 4 → ¬ (k = w.heap.size + 4 ∨ blk a5 = some k) := by
        rintro k hk (rfl | h)
        · omega
        · have := H6.out k h; omega
      have h2w := H2w.out
      refine ⟨keepsFrom_mod hM ?_, KpL.of_mod hM (by omega) (by omega) ?_ (hlow _ (by omega)) (hlow _ (by omega)) ?_, ⟨?_, a6, c6, ?_, ?_, ?_⟩⟩
      · rintro k (rfl | h) o ho
        · have := H4.out; unfold Boxed at this; rw [this] at ho; cases ho; rfl
        · obtain ⟨cur, hc⟩ := Mine.Own.blk_cells H5.out k h
          rw [hc] at ho; cases ho; rfl
      · rintro (h | h)
        · omega
        · have := H6.out _ h; omega
      · rintro k cs fz (rfl | h) he
        · have := H4.out; unfold Boxed at this; rw [this] at he; cases he
        · obtain ⟨cur, hc⟩ := Mine.Own.blk_cells H5.out k h
          rw [hc] at he; cases he
      · exact H1.out.step hM (fun i hi hs => by
          rcases hs with h | h
          · exact h
          · have := H6.out i h; omega)
      · rw [List.length_append]; exact bx_put HB6.out _
      · rw [List.length_append, itsC_append]
        exact HO6.out.mod ((Mod.refl (fun b => b = w.heap.size + 4) w6).setCell (fun _ => rfl) _) (fun b hb e => by
          subst e
          rcases HG6.out.pos with e | ⟨g, e, hg⟩
          · rw [e] at hb; exact HN5.out hb
          · rw [e] at hb; cases hb; omega)
      · intro b hb
        rcases HG6.out.pos with e | ⟨g, e, hg⟩
        · rw [e] at hb; exact H6.out b hb
        · rw [e] at hb; cases hb; omega
    case stop =>
      rintro D cc pre W hD hpre h hK
      exact h.elim
    case done =>
      rintro D xs W hD rfl hi hK
      have hmf : ∀ (fn : Fn) (first cap : Array Value) (w : World), (Instr.makeFunc fn first cap).run Tryz.prog w = .ok (.func fn first cap) w := fun _ _ _ _ => rfl
      obtain ⟨hmd, la, lc, hl4, hlo, hlf⟩ := hi
      have hz3 := HZ3.out
      have hsW := hmd.size
      obtain ⟨k0, k1, k2, k3⟩ := HC.out
      have k0 := hmd.at k0 (by omega)
      have k1 := hmd.at k1 (by omega)
      have k2 := hmd.at k2 (by omega)
      have k3 := hmd.at k3 (by omega)
      have hln := HLN.out
      have hsl : (⟨l.toArray⟩ : ByteArray).size = l.length := rfl
      obtain ⟨S, hS⟩ : ∃ S, S = toksOf ⟨l.toArray⟩ := ⟨_, rfl⟩
      have hit : seqOf (scanL ⟨l.toArray⟩) = itemsOf S := by rw [hS, toksOf_items]
      rw [hit] at hl4 hlo
      rw [← hS] at HX
      have hSl : S.ts.length ≤ 65537 := by rw [hS]; have := hln.1; omega
      have hSf : S.fault = 0 → S.fin = l.length := by rw [hS]; unfold toksOf; intro h; simp only at h ⊢; rw [if_pos h]; rfl
      have hSs : ∀ k, (S.tok k).text.size < 2 ^ 30 := by rw [hS]; exact toksOf_size _ (by show l.length < _; omega)
      have hSw : S.Wf := by rw [hS]; exact toksOf_wf _
      clear hS hln hit
      obtain ⟨E, hE⟩ : ∃ E : Env, E = ⟨W.heap.size + 1, W.heap.size, w.heap.size + 4, w.heap.size, la, lc, l.length, S, 112⟩ := ⟨_, rfl⟩
      have hlal := hlo.lt
      have hEO : E.Ok := by
        rw [hE]
        refine ⟨⟨by simp, ?_, ?_, ?_, ?_⟩, ⟨fun h => ?_, fun h => ?_⟩, by show S.ts.length < _; omega, hSf, ⟨fun _ _ => by go_simp, fun la lc l N n bn bl bt w h hb hl hn => nextR_any la lc l N n bn bl bt w h hb hl hn⟩, hSs, hSw⟩
        · show W.heap.size + 1 ≠ w.heap.size + 4; omega
        · show W.heap.size + 1 ≠ w.heap.size; omega
        · show W.heap.size ≠ w.heap.size + 4; omega
        · show W.heap.size ≠ w.heap.size; omega
        · have := hlal _ h; simp only at this; omega
        · have := hlal _ h; simp only at this; omega
      obtain ⟨v5, hv5⟩ : ∃ v5, v5 = (W.alloc (.cells #[.int .i64 0] 3)).alloc (.cells #[E.next, .int .i64 0, .string ⟨#[]⟩, .int .i64 0, .int .i64 0, .bool false] 193) := ⟨_, rfl⟩
      have m5 : Mod (fun _ => False) W v5 := by rw [hv5]; exact ((Mod.refl _ W).alloc _).alloc _
      have hpn : v5.heap[W.heap.size]? = some (.cells #[.int .i64 0] 3 (0, 0)) := by rw [hv5]; exact ((Mod.refl (fun _ => False) _).alloc _).at (heap_alloc_new W _) id
      have hpp : v5.heap[W.heap.size + 1]? = some (.cells #[E.next, .int .i64 0, .string ⟨#[]⟩, .int .i64 0, .int .i64 0, .bool false] 193 (0, 0)) := by
        have := heap_alloc_new (W.alloc (.cells #[.int .i64 0] 3)) (.cells #[E.next, .int .i64 0, .string ⟨#[]⟩, .int .i64 0, .int .i64 0, .bool false] 193)
        rw [hv5]; simpa using this
      have hz5 : v5.heap.size = W.heap.size + 2 := by rw [hv5]; simp
      have hsrc : SrcAt v5 E.la E.lc (itemsOf E.S) E.N 0 E.bn E.bl E.bt := by
        rw [hE]
        exact ⟨hlo.rd.mod m5 (fun _ _ => id), hpn, m5.at hl4 id, a0, c0, m5.at k0 id⟩
      have hpar : v5.heap[E.bp]? = some (.cells #[E.next, .int .i64 0, .string ⟨#[]⟩, .int .i64 0, .int .i64 0, .bool false] 193 (0, 0)) := by rw [hE] at hpp ⊢; exact hpp
      have HST := Lib.hid (step0_any E 0 false _ _ _ _ v5 hEO hsrc hpar (Nat.zero_le _) (fun b hb => by rw [hE] at hb; have := hlal b hb; omega))
      have hFar : Mod (Far w) w v5 := (((HM3.out.mono fun _ _ f => f.elim).step hmd fun i hi h => by omega).step m5 fun _ _ h => h.elim)
      have hDW : D < W.heap.size := (Array.getElem?_eq_some_iff.1 hK).1
      have HDI := Lib.hid (DoorI.mk (w := w) (B := W.heap.size) (m5.at k1 id) (m5.at k2 id) (m5.at k3 id) (m5.at hK id) hFar hDW (by omega))
      have HV5 := Lib.hid hv5
      have HZW := Lib.hid (show w.heap.size + 6 ≤ W.heap.size by omega)
      have hEn : E.next = .func (.func 112) #[] #[.pointer (some ⟨W.heap.size, 0, none⟩), .pointer (some ⟨w.heap.size + 4, 0, none⟩), .pointer (some ⟨w.heap.size, 0, none⟩)] := by rw [hE]; rfl
      have HEN := Lib.hid hEn
      have HEB := Lib.hid (show E.bp = W.heap.size + 1 ∧ E.bn = W.heap.size ∧ E.S = S by rw [hE]; exact ⟨rfl, rfl, rfl⟩)
      have HEL := Lib.hid (show E.bl = w.heap.size + 4 ∧ E.bt = w.heap.size ∧ ∀ b, blk E.la = some b → w.heap.size + 6 ≤ b by rw [hE]; exact ⟨rfl, rfl, fun b hb => by have := hlf b hb; omega⟩)
      have henF := HF.enters
      clear hD hK hDW hmd hl4 hlo hlf hz3 hsW k0 k1 k2 k3 hsl hSl hSf hSs hSw hE hlal hEO hv5 m5 hpn hpp hz5 hsrc hpar hFar hEn hKb hSeq HI0 HLN
      subst hT
      rw [HEB.out.1] at HST
      have HCH : Hid (∀ b, E.Ch b → W.heap.size ≤ b) := fun b hb => by rcases hb with rfl | rfl <;> (have := HEB.out; omega)
      go_wp2_with fail
      have hw5 : (W.alloc (.cells #[.int .i64 0] 3)).alloc (.cells #[.func (.func 112) #[] #[.pointer (some ⟨W.heap.size, 0, none⟩), .pointer (some ⟨w.heap.size + 1 + 1 + 1 + 1, 0, none⟩), .pointer (some ⟨w.heap.size, 0, none⟩)], .int .i64 0, .string ⟨#[]⟩, .int .i64 0, .int .i64 0, .bool false] 193) = v5 := by rw [HV5.out, HEN.out]
      rw [hw5]
      clear hw5
      refine HST.out.mono ?_
      rintro e v6 ⟨rfl, hS6, hM6⟩
      have HD6 := Lib.hid (HDI.out.call hM6 HCH.out)
      have HO := Lib.hid (HF.calls E v6 hS6)
      rw [HEB.out.1] at HO
      have hle6 : W.heap.size ≤ v6.heap.size := by have := hS6.src.lts.1; have := HEB.out.2.1; omega
      have HLE6 := Lib.hid hle6
      clear hS6 hM6 hle6 HST HDI
      go_wp2_with fail
      refine HO.out.mono ?_
      rintro e v7 (⟨x, hx, rfl, hM⟩ | ⟨⟨rs, k7⟩, hx, ⟨p, a1, n1, a2, n2, ag7, rfl, hRR, hS7⟩, hM⟩)
      · have HXX := Lib.hid (show readL ⟨l.toArray⟩ one = .error x by rw [HX.out]; rw [HEB.out.2.2] at hx; rw [hx]; rfl)
        have HD7 := Lib.hid (HD6.out.call hM HCH.out)
        clear hx hM HO HD6
        go_wp2_with fail
        refine ⟨by simp, .inr ⟨by simp, _, _, 111, #[.pointer (some ⟨w.heap.size + 1, 0, none⟩), .pointer (some ⟨w.heap.size + 1 + 1, 0, none⟩), .pointer (some ⟨w.heap.size + 1 + 1 + 1, 0, none⟩)], rfl, by simp [go_sem], fun _ _ => trivial, ?_⟩⟩
        refine (catchR_wrong _ _ _ _ _ _ _ _ _ _ _ _ x _ HD7.out.g1 HD7.out.g2 HD7.out.g3 ⟨by omega, by omega, by omega⟩).mono ?_
        rintro e u' v8 ⟨⟨vv, rfl⟩, rfl, hM8, q1, q2, q3⟩
        have hlD := HD7.out.geD
        have qD := hM8.at HD7.out.gD (by omega)
        have hG := Mod.ofGrown (grownBy_putObj' v8 D (.deferred none))
        have hne : ∀ b, b < w.heap.size + 6 → ¬ (some D = some b) := fun b hb e => by cases e; omega
        have q1' := hG.at q1 (hne _ (by omega))
        have q2' := hG.at q2 (hne _ (by omega))
        have q3' := hG.at q3 (hne _ (by omega))
        have hfin : Mod (fun _ => False) w (v8.putObj D (.deferred none)) := new_mod ((HD7.out.far.step hM8 fun i _ h => by unfold Far; omega).step hG fun i _ e => by cases e; unfold Far; omega)
        refine ⟨by simp [settle], .inl ⟨D, _, rfl, run_takeDeferred qD, ?_⟩⟩
        have e10 := cell_at (j := 0) q1' rfl; have e11 := cell_at (j := 1) q1' rfl; have e12 := cell_at (j := 2) q1' rfl
        have e2 := cell_at (j := 0) q2' rfl
        have e3 := cell_at (j := 0) q3' rfl
        simp only [settle]
        refine ⟨.tuple #[.agg #[.string ⟨#[]⟩, .slice none 0 0, .slice none 0 0], .int .i64 x.2, .int .i64 x.1], by simp [results, Tryz.results56, go_sem, e10, e11, e12, e2, e3], ?_⟩
        exact ⟨.inl ⟨_, HXX.out, rfl⟩, hfin⟩
      have HXX := Lib.hid (show readL ⟨l.toArray⟩ one = (wantP E.S k7 [0]).bind fun _ => .ok rs by rw [HX.out]; rw [HEB.out.2.2] at hx ⊢; unfold wholeP; rw [hx]; rfl)
      have hD7 := HD6.out.call hM HCH.out
      have hge := hD7.geD
      have hzw := HZW.out
      have hle7 : v6.heap.size ≤ v7.heap.size := hM.size
      obtain ⟨v8, hv8⟩ : ∃ v8, v8 = ((v7.setCell ⟨w.heap.size + 1, 0, none⟩ (.string p)).setCell ⟨w.heap.size + 1, 1, none⟩ (.slice a1 n1 n1)).setCell ⟨w.heap.size + 1, 2, none⟩ (.slice a2 n2 n2) := ⟨_, rfl⟩
      have g8 : v8.heap[w.heap.size + 1]? = some (.cells #[.string p, .slice a1 n1 n1, .slice a2 n2 n2] 46 (0, 0)) := by rw [hv8]; exact heap_setCell_at (j := 2) (.slice a2 n2 n2) (heap_setCell_at (j := 1) (.slice a1 n1 n1) (heap_setCell_at (j := 0) (.string p) (hD7.g1)))
      have m8 : Mod (fun b => b = w.heap.size + 1) v7 v8 := by rw [hv8]; exact (((Mod.refl (fun b => b = w.heap.size + 1) v7).setCell (p := ⟨w.heap.size + 1, 0, none⟩) (fun _ => rfl) _).setCell (p := ⟨w.heap.size + 1, 1, none⟩) (fun _ => rfl) _).setCell (p := ⟨w.heap.size + 1, 2, none⟩) (fun _ => rfl) _
      have hD8 : DoorI w v8 W.heap.size D #[.string p, .slice a1 n1 n1, .slice a2 n2 n2] 46 := ⟨g8, m8.at hD7.g2 (by omega), m8.at hD7.g3 (by omega), m8.at hD7.gD (by omega), hD7.far.step m8 (fun i _ e => by have e : i = w.heap.size + 1 := e; unfold Far; omega), hD7.ltD, hD7.geD⟩
      have hS8 : PSt v8 E k7 ag7 := hS7.mod m8 (by have := HEB.out.1; omega) (by have := HEB.out.2.1; omega) (by have := HEL.out.1; omega) (by have := HEL.out.2.1; omega) (fun b hb e => by have := HEL.out.2.2 b hb; omega)
      have hR8 := HF.keeps _ _ p a1 n1 a2 n2 v7 v8 _ hRR m8 (fun b hb e => by have := HLE6.out; omega)
      have hz8 : v8.heap.size = v7.heap.size := by rw [hv8]; simp
      have HW1 := Lib.hid (want1 E k7 ag7 0 v8 hS8 v8.heap.size 0)
      rw [HEB.out.1] at HW1
      have HD8 := Lib.hid hD8
      have HR8 := Lib.hid hR8
      have HV8 := Lib.hid hv8
      have HZ8 := Lib.hid (show v8.heap.size = v7.heap.size from hz8)
      have c10 := cell_at (j := 0) hD7.g1 rfl
      have f10 : v7.frozen? ⟨w.heap.size + 1, 0, none⟩ = false := frozen_at hD7.g1
      have c11 := cell_at (j := 1) hD7.g1 rfl
      have f11 : v7.frozen? ⟨w.heap.size + 1, 1, none⟩ = false := frozen_at hD7.g1
      have c12 := cell_at (j := 2) hD7.g1 rfl
      have f12 : v7.frozen? ⟨w.heap.size + 1, 2, none⟩ = false := frozen_at hD7.g1
      clear hx hM hD7 g8 m8 hD8 hS8 hR8 hv8 hz8 hS7 hRR HO HD6
      go_wp2_with fail
      rw [← HV8.out, ← HZ8.out]
      clear HV8 c10 f10 c11 f11 c12 f12
      refine HW1.out.mono ?_
      rintro e w' ⟨(⟨x, hx, rfl⟩ | ⟨hx, rfl⟩), rfl⟩
      · have HXX2 := Lib.hid (show readL ⟨l.toArray⟩ one = .error x by rw [HXX.out, hx]; rfl)
        have HD7 := Lib.hid (HD8.out.call ((Mod.refl (fun _ => False) v8).alloc (.cells #[.int .i64 0] 3)) (fun _ h => h.elim))
        clear hx HW1 HD8 HXX
        have HXX := HXX2
        go_wp2_with fail
        refine ⟨by simp, .inr ⟨by simp, _, _, 111, #[.pointer (some ⟨w.heap.size + 1, 0, none⟩), .pointer (some ⟨w.heap.size + 1 + 1, 0, none⟩), .pointer (some ⟨w.heap.size + 1 + 1 + 1, 0, none⟩)], rfl, by simp [go_sem], fun _ _ => trivial, ?_⟩⟩
        refine (catchR_wrong _ _ _ _ _ _ _ _ _ _ _ _ x _ HD7.out.g1 HD7.out.g2 HD7.out.g3 ⟨by omega, by omega, by omega⟩).mono ?_
        rintro e u' v8 ⟨⟨vv, rfl⟩, rfl, hM8, q1, q2, q3⟩
        have hlD := HD7.out.geD
        have qD := hM8.at HD7.out.gD (by omega)
        have hG := Mod.ofGrown (grownBy_putObj' v8 D (.deferred none))
        have hne : ∀ b, b < w.heap.size + 6 → ¬ (some D = some b) := fun b hb e => by cases e; omega
        have q1' := hG.at q1 (hne _ (by omega))
        have q2' := hG.at q2 (hne _ (by omega))
        have q3' := hG.at q3 (hne _ (by omega))
        have hfin : Mod (fun _ => False) w (v8.putObj D (.deferred none)) := new_mod ((HD7.out.far.step hM8 fun i _ h => by unfold Far; omega).step hG fun i _ e => by cases e; unfold Far; omega)
        refine ⟨by simp [settle], .inl ⟨D, _, rfl, run_takeDeferred qD, ?_⟩⟩
        have e10 := cell_at (j := 0) q1' rfl; have e11 := cell_at (j := 1) q1' rfl; have e12 := cell_at (j := 2) q1' rfl
        have e2 := cell_at (j := 0) q2' rfl
        have e3 := cell_at (j := 0) q3' rfl
        simp only [settle]
        refine ⟨.tuple #[.agg #[.string ⟨#[]⟩, .slice none 0 0, .slice none 0 0], .int .i64 x.2, .int .i64 x.1], by simp [results, Tryz.results56, go_sem, e10, e11, e12, e2, e3], ?_⟩
        exact ⟨.inl ⟨_, HXX.out, rfl⟩, hfin⟩
      have HXX2 := Lib.hid (show readL ⟨l.toArray⟩ one = .ok rs by rw [HXX.out, hx]; rfl)
      have hm9 : Mod (fun _ => False) v8 (v8.alloc (.cells #[.int .i64 0] 3)) := (Mod.refl _ v8).alloc _
      have HD9 := Lib.hid (HD8.out.call hm9 (fun _ h => h.elim))
      have HR9 := Lib.hid (HF.keeps _ _ p a1 n1 a2 n2 _ _ _ HR8.out hm9 (fun _ _ h => h))
      obtain ⟨v9, hv9⟩ : ∃ v9, v9 = v8.alloc (.cells #[.int .i64 0] 3) := ⟨_, rfl⟩
      rw [← hv9] at HD9 HR9 ⊢
      clear hx hm9 HW1 HD8 HR8 HXX hv9 HZ8
      have c10 := cell_at (j := 0) HD9.out.g1 rfl
      have f10 : v9.frozen? ⟨w.heap.size + 1, 0, none⟩ = false := frozen_at HD9.out.g1
      have c11 := cell_at (j := 1) HD9.out.g1 rfl
      have f11 : v9.frozen? ⟨w.heap.size + 1, 1, none⟩ = false := frozen_at HD9.out.g1
      have c12 := cell_at (j := 2) HD9.out.g1 rfl
      have f12 : v9.frozen? ⟨w.heap.size + 1, 2, none⟩ = false := frozen_at HD9.out.g1
      have f2 : v9.frozen? ⟨w.heap.size + 1 + 1, 0, none⟩ = false := frozen_at HD9.out.g2
      have f3 : v9.frozen? ⟨w.heap.size + 1 + 1 + 1, 0, none⟩ = false := frozen_at HD9.out.g3
      have c2 := cell_at (j := 0) HD9.out.g2 rfl
      have c3 := cell_at (j := 0) HD9.out.g3 rfl
      go_wp2_with fail
      obtain ⟨v10, hv10⟩ : ∃ v10, v10 = ((((v9.setCell ⟨w.heap.size + 1, 0, none⟩ (.string p)).setCell ⟨w.heap.size + 1, 1, none⟩ (.slice a1 n1 n1)).setCell ⟨w.heap.size + 1, 2, none⟩ (.slice a2 n2 n2)).setCell ⟨w.heap.size + 1 + 1, 0, none⟩ (.int .i64 0)).setCell ⟨w.heap.size + 1 + 1 + 1, 0, none⟩ (.int .i64 0) := ⟨_, rfl⟩
      rw [← hv10]
      have gA : (((v9.setCell ⟨w.heap.size + 1, 0, none⟩ (.string p)).setCell ⟨w.heap.size + 1, 1, none⟩ (.slice a1 n1 n1)).setCell ⟨w.heap.size + 1, 2, none⟩ (.slice a2 n2 n2)).heap[w.heap.size + 1]? = some (.cells #[.string p, .slice a1 n1 n1, .slice a2 n2 n2] 46 (0, 0)) := heap_setCell_at (j := 2) (.slice a2 n2 n2) (heap_setCell_at (j := 1) (.slice a1 n1 n1) (heap_setCell_at (j := 0) (.string p) (HD9.out.g1)))
      have mA : Mod (fun b => b = w.heap.size + 1) v9 (((v9.setCell ⟨w.heap.size + 1, 0, none⟩ (.string p)).setCell ⟨w.heap.size + 1, 1, none⟩ (.slice a1 n1 n1)).setCell ⟨w.heap.size + 1, 2, none⟩ (.slice a2 n2 n2)) := (((Mod.refl (fun b => b = w.heap.size + 1) v9).setCell (p := ⟨w.heap.size + 1, 0, none⟩) (fun _ => rfl) _).setCell (p := ⟨w.heap.size + 1, 1, none⟩) (fun _ => rfl) _).setCell (p := ⟨w.heap.size + 1, 2, none⟩) (fun _ => rfl) _
      generalize (((v9.setCell ⟨w.heap.size + 1, 0, none⟩ (.string p)).setCell ⟨w.heap.size + 1, 1, none⟩ (.slice a1 n1 n1)).setCell ⟨w.heap.size + 1, 2, none⟩ (.slice a2 n2 n2)) = vA at *
      have gB2 := mA.at HD9.out.g2 (by omega)
      have gB3 := mA.at HD9.out.g3 (by omega)
      have mB : Mod (fun b => b = w.heap.size + 1 + 1) vA (vA.setCell ⟨w.heap.size + 1 + 1, 0, none⟩ (.int .i64 0)) := (Mod.refl (fun b => b = w.heap.size + 1 + 1) vA).setCell (p := ⟨w.heap.size + 1 + 1, 0, none⟩) (fun _ => rfl) _
      have gC2 : (vA.setCell ⟨w.heap.size + 1 + 1, 0, none⟩ (.int .i64 0)).heap[w.heap.size + 1 + 1]? = some (.cells #[.int .i64 0] 3 (0, 0)) := heap_setCell_at (j := 0) (.int .i64 0) gB2
      have gC1 := mB.at gA (by omega)
      have gC3 := mB.at gB3 (by omega)
      generalize vA.setCell ⟨w.heap.size + 1 + 1, 0, none⟩ (.int .i64 0) = vB at *
      have mC : Mod (fun b => b = w.heap.size + 1 + 1 + 1) vB v10 := by rw [hv10]; exact (Mod.refl (fun b => b = w.heap.size + 1 + 1 + 1) vB).setCell (p := ⟨w.heap.size + 1 + 1 + 1, 0, none⟩) (fun _ => rfl) _
      have gD3 : v10.heap[w.heap.size + 1 + 1 + 1]? = some (.cells #[.int .i64 0] 26 (0, 0)) := by rw [hv10]; exact heap_setCell_at (j := 0) (.int .i64 0) gC3
      have gD1 := mC.at gC1 (by omega)
      have gD2 := mC.at gC2 (by omega)
      have gDD := mC.at (mB.at (mA.at HD9.out.gD (by omega)) (by omega)) (by omega)
      have mT : Mod (fun b => b = w.heap.size + 1 ∨ b = w.heap.size + 1 + 1 ∨ b = w.heap.size + 1 + 1 + 1) v9 v10 := ((mA.mono fun _ _ e => .inl e).trans (mB.mono fun _ _ e => .inr (.inl e))).trans (mC.mono fun _ _ e => .inr (.inr e))
      clear hv10 mA mB mC gA gB2 gB3 gC1 gC2 gC3 c10 f10 c11 f11 c12 f12 f2 f3 c2 c3
      refine ⟨by simp, .inr ⟨by simp, _, _, 111, #[.pointer (some ⟨w.heap.size + 1, 0, none⟩), .pointer (some ⟨w.heap.size + 1 + 1, 0, none⟩), .pointer (some ⟨w.heap.size + 1 + 1 + 1, 0, none⟩)], rfl, by simp [go_sem], fun _ _ => trivial, ?_⟩⟩
      refine (catchR_idle _ _ _ _ _).mono ?_
      rintro e u' w'' ⟨⟨vv, rfl⟩, rfl, rfl⟩
      have hG := Mod.ofGrown (grownBy_putObj' w'' D (.deferred none))
      have hne : ∀ b, b < w.heap.size + 6 → ¬ (some D = some b) := fun b hb e => by cases e; omega
      have q1 := hG.at gD1 (hne _ (by omega))
      have q2 := hG.at gD2 (hne _ (by omega))
      have q3 := hG.at gD3 (hne _ (by omega))
      have hfin : Mod (fun _ => False) w (w''.putObj D (.deferred none)) := new_mod ((HD9.out.far.step mT fun i _ h => by unfold Far; omega).step hG fun i _ e => by cases e; unfold Far; omega)
      have hR10 := HF.keeps _ _ p a1 n1 a2 n2 _ _ _ (HF.keeps _ _ p a1 n1 a2 n2 _ _ _ HR9.out mT (fun b hb e => by have := HLE6.out; omega)) hG (fun b hb e => by cases e; have := HLE6.out; have := HD9.out.ltD; omega)
      have hR11 := HF.mono v6.heap.size w.heap.size _ p a1 n1 a2 n2 _ (by have := HLE6.out; omega) hR10
      refine ⟨by simp [settle], .inl ⟨D, _, rfl, run_takeDeferred gDD, ?_⟩⟩
      have e10 := cell_at (j := 0) q1 rfl; have e11 := cell_at (j := 1) q1 rfl; have e12 := cell_at (j := 2) q1 rfl
      have e2 := cell_at (j := 0) q2 rfl
      have e3 := cell_at (j := 0) q3 rfl
      simp only [settle]
      refine ⟨.tuple #[.agg #[.string p, .slice a1 n1 n1, .slice a2 n2 n2], .int .i64 0, .int .i64 0], by simp [results, Tryz.results56, go_sem, e10, e11, e12, e2, e3], ?_⟩
      exact ⟨.inr ⟨_, _, HXX2.out, rfl, _, _, _, _, _, rfl, hR11⟩, hfin⟩
end
section
variable {α : Type}
/-- what the reader of a thing does -/
structure OneA (one : Toks → PR (α × Nat)) (R : Nat → α → ByteArray → Option Addr → Nat → World → Prop) (F : FuncId) : Prop where
  enters : ∀ (args : Array Value) (w : World), (callFunc F args).run Tryz.prog w = .ok (.enter F args) w
  calls : ∀ (E : Env) (w : World), PSt w E 0 false → Calls Tryz.prog F #[.pointer (some ⟨E.bp, 0, none⟩)] w (PP E w (one E.S) fun r e w' => ∃ p a1 n1 ag, e = .returned (.agg #[.string p, .slice a1 n1 n1]) ∧ R w.heap.size r.1 p a1 n1 w' ∧ PSt w' E r.2 ag)
  mono : ∀ lo lo' a p a1 n1 w, lo' ≤ lo → R lo a p a1 n1 w → R lo' a p a1 n1 w
  keeps : ∀ lo a p a1 n1 w w' (T : Nat → Prop), R lo a p a1 n1 w → Mod T w w' → (∀ b, lo ≤ b → ¬ T b) → R lo a p a1 n1 w'
theorem readA_any (one : Toks → PR (α × Nat)) (R : Nat → α → ByteArray → Option Addr → Nat → World → Prop) (F : FuncId) (HF : OneA one R F) (a0 : Option Addr) (c0 : Nat) (l : List UInt8) (w : World) (hR : Rd w a0 (bts l)) (hT : Lib.Utf8Tabs 1 2 w) (hl : l.length < 2 ^ 30) :
    Calls Tryz.prog 61 #[.slice a0 l.length c0, .func (.func F) #[] #[]] w (RdPost w (.agg #[.string ⟨#[]⟩, .slice none 0 0]) (readL ⟨l.toArray⟩ one) fun a v w' => ∃ p a1 n1, v = .agg #[.string p, .slice a1 n1 n1] ∧ R w.heap.size a p a1 n1 w') := by
  have hsz : (⟨l.toArray⟩ : ByteArray).size = l.length := rfl
  have h2w := tabs_lt hT
  have HM0 : Hid (Mod (fun _ => False) w ((((w.alloc (.cells #[.slice a0 l.length c0] 34)).alloc (.cells #[.string ⟨#[]⟩, .slice none 0 0] 43)).alloc (.cells #[.int .i64 0] 3)).alloc (.cells #[.int .i64 0] 26))) := ((((Mod.refl _ w).alloc _).alloc _).alloc _).alloc _
  have b0 : ((((w.alloc (.cells #[.slice a0 l.length c0] 34)).alloc (.cells #[.string ⟨#[]⟩, .slice none 0 0] 43)).alloc (.cells #[.int .i64 0] 3)).alloc (.cells #[.int .i64 0] 26)).heap[w.heap.size]? = some (.cells #[.slice a0 l.length c0] 34 (0, 0)) := ((((Mod.refl (fun _ => False) _).alloc _).alloc _).alloc _).at (heap_alloc_new w _) id
  have b1 : ((((w.alloc (.cells #[.slice a0 l.length c0] 34)).alloc (.cells #[.string ⟨#[]⟩, .slice none 0 0] 43)).alloc (.cells #[.int .i64 0] 3)).alloc (.cells #[.int .i64 0] 26)).heap[w.heap.size + 1]? = some (.cells #[.string ⟨#[]⟩, .slice none 0 0] 43 (0, 0)) := (((Mod.refl (fun _ => False) _).alloc _).alloc _).at (by have := heap_alloc_new (w.alloc (.cells #[.slice a0 l.length c0] 34)) (.cells #[.string ⟨#[]⟩, .slice none 0 0] 43); simpa using this) id
  have b2 : ((((w.alloc (.cells #[.slice a0 l.length c0] 34)).alloc (.cells #[.string ⟨#[]⟩, .slice none 0 0] 43)).alloc (.cells #[.int .i64 0] 3)).alloc (.cells #[.int .i64 0] 26)).heap[w.heap.size + 1 + 1]? = some (.cells #[.int .i64 0] 3 (0, 0)) := ((Mod.refl (fun _ => False) _).alloc _).at (by have := heap_alloc_new ((w.alloc (.cells #[.slice a0 l.length c0] 34)).alloc (.cells #[.string ⟨#[]⟩, .slice none 0 0] 43)) (.cells #[.int .i64 0] 3); simpa using this) id
  have b3 : ((((w.alloc (.cells #[.slice a0 l.length c0] 34)).alloc (.cells #[.string ⟨#[]⟩, .slice none 0 0] 43)).alloc (.cells #[.int .i64 0] 3)).alloc (.cells #[.int .i64 0] 26)).heap[w.heap.size + 1 + 1 + 1]? = some (.cells #[.int .i64 0] 26 (0, 0)) := by have := heap_alloc_new (((w.alloc (.cells #[.slice a0 l.length c0] 34)).alloc (.cells #[.string ⟨#[]⟩, .slice none 0 0] 43)).alloc (.cells #[.int .i64 0] 3)) (.cells #[.int .i64 0] 26); simpa using this
  have hz0 : ((((w.alloc (.cells #[.slice a0 l.length c0] 34)).alloc (.cells #[.string ⟨#[]⟩, .slice none 0 0] 43)).alloc (.cells #[.int .i64 0] 3)).alloc (.cells #[.int .i64 0] 26)).heap.size = w.heap.size + 4 := by simp
  have HB := Lib.hid (And.intro b0 (And.intro b1 (And.intro b2 (And.intro b3 hz0))))
  have H2w := Lib.hid h2w
  have HRd := Lib.hid hR
  have HTw := Lib.hid hT
  clear b0 b1 b2 b3 hz0 h2w hR hT
  refine (callsIn_wide (n := 3)).1 ?_
  refine callsIn_of_wp_marks Tryz.func61 rfl trivial ?_ rfl
  simp only [Tryz.ntmps61, List.size_toArray, List.length_cons, List.length_nil, Nat.reduceAdd, Nat.reduceSub, Array.replicate_succ, Array.replicate_zero, List.push_toArray, List.append_toArray, List.nil_append, List.cons_append]
  refine (wpIn_wide (n := 3)).2 ?_
  by_cases hlong : 65536 < l.length
  · have HX := Lib.hid (show readL ⟨l.toArray⟩ one = .error (3, 0) from if_pos hlong)
    go_wp2_with fail
    have hm9 : Mod (fun _ => False) w ((((w.alloc (.cells #[.slice a0 l.length c0] 34)).alloc (.cells #[.string ⟨#[]⟩, .slice none 0 0] 43)).alloc (.cells #[.int .i64 0] 3)).alloc (.cells #[.int .i64 3] 26)) := ((((Mod.refl _ w).alloc _).alloc _).alloc _).alloc _
    have g1 : ((((w.alloc (.cells #[.slice a0 l.length c0] 34)).alloc (.cells #[.string ⟨#[]⟩, .slice none 0 0] 43)).alloc (.cells #[.int .i64 0] 3)).alloc (.cells #[.int .i64 3] 26)).heap[w.heap.size + 1]? = some (.cells #[.string ⟨#[]⟩, .slice none 0 0] 43 (0, 0)) := (((Mod.refl (fun _ => False) _).alloc _).alloc _).at (by have := heap_alloc_new (w.alloc (.cells #[.slice a0 l.length c0] 34)) (.cells #[.string ⟨#[]⟩, .slice none 0 0] 43); simpa using this) id
    have g2 : ((((w.alloc (.cells #[.slice a0 l.length c0] 34)).alloc (.cells #[.string ⟨#[]⟩, .slice none 0 0] 43)).alloc (.cells #[.int .i64 0] 3)).alloc (.cells #[.int .i64 3] 26)).heap[w.heap.size + 1 + 1]? = some (.cells #[.int .i64 0] 3 (0, 0)) := ((Mod.refl (fun _ => False) _).alloc _).at (by have := heap_alloc_new ((w.alloc (.cells #[.slice a0 l.length c0] 34)).alloc (.cells #[.string ⟨#[]⟩, .slice none 0 0] 43)) (.cells #[.int .i64 0] 3); simpa using this) id
    have g3 : ((((w.alloc (.cells #[.slice a0 l.length c0] 34)).alloc (.cells #[.string ⟨#[]⟩, .slice none 0 0] 43)).alloc (.cells #[.int .i64 0] 3)).alloc (.cells #[.int .i64 3] 26)).heap[w.heap.size + 1 + 1 + 1]? = some (.cells #[.int .i64 3] 26 (0, 0)) := by have := heap_alloc_new (((w.alloc (.cells #[.slice a0 l.length c0] 34)).alloc (.cells #[.string ⟨#[]⟩, .slice none 0 0] 43)).alloc (.cells #[.int .i64 0] 3)) (.cells #[.int .i64 3] 26); simpa using this
    obtain ⟨w9, hw9⟩ : ∃ w9, w9 = (((w.alloc (.cells #[.slice a0 l.length c0] 34)).alloc (.cells #[.string ⟨#[]⟩, .slice none 0 0] 43)).alloc (.cells #[.int .i64 0] 3)).alloc (.cells #[.int .i64 3] 26) := ⟨_, rfl⟩
    rw [← hw9] at g1 g2 g3 hm9 ⊢
    clear hw9
    have e10 := cell_at (j := 0) g1 rfl
    have e11 := cell_at (j := 1) g1 rfl
    have e2 := cell_at (j := 0) g2 rfl
    have e3 := cell_at (j := 0) g3 rfl
    refine ⟨.tuple #[.agg #[.string ⟨#[]⟩, .slice none 0 0], .int .i64 0, .int .i64 3], by simp [results, Tryz.results61, go_sem, e10, e11, e2, e3], ?_⟩
    exact ⟨.inl ⟨_, HX.out, rfl⟩, hm9⟩
  · have HX := Lib.hid (show readL ⟨l.toArray⟩ one = wholeP (toksOf ⟨l.toArray⟩) (one (toksOf ⟨l.toArray⟩)) from if_neg hlong)
    go_wp2_with fail
    obtain ⟨b0, b1, b2, b3, hz0⟩ := HB.out
    obtain ⟨v0, hv0⟩ : ∃ v0, v0 = (((w.alloc (.cells #[.slice a0 l.length c0] 34)).alloc (.cells #[.string ⟨#[]⟩, .slice none 0 0] 43)).alloc (.cells #[.int .i64 0] 3)).alloc (.cells #[.int .i64 0] 26) := ⟨_, rfl⟩
    rw [← hv0] at b0 b1 b2 b3 hz0 HM0 ⊢
    clear hv0 HB
    have hz4 : (v0.alloc (.cells #[.slice none 0 0] 180)).heap.size = w.heap.size + 5 := by simp [hz0]
    have m1 : Mod (fun _ => False) v0 (v0.alloc (.cells #[.slice none 0 0] 180)) := (Mod.refl _ v0).alloc _
    have b4 := heap_alloc_new v0 (.cells #[.slice none 0 0] 180)
    rw [hz0] at b4
    obtain ⟨v2, hv2⟩ : ∃ v2, v2 = v0.alloc (.cells #[.slice none 0 0] 180) := ⟨_, rfl⟩
    rw [← hv2] at hz4 m1 b4 ⊢
    clear hv2
    have b0' := m1.at b0 id
    have b1' := m1.at b1 id
    have b2' := m1.at b2 id
    have b3' := m1.at b3 id
    have hm2 := HM0.out.trans m1
    clear b0 b1 b2 b3 m1 hz0 HM0
    refine (each_any a0 c0 l v2 (HRd.out.mod hm2 (fun _ _ => id))).mono ?_
    rintro e v3 ⟨rfl, hv3⟩
    have m3 : Mod (fun _ => False) v2 v3 := by rw [hv3]; exact (Mod.refl _ v2).alloc _
    have b5 : v3.heap[w.heap.size + 5]? = some (.cells #[.string ⟨l.toArray⟩] 9 (0, 0)) := by rw [hv3, ← hz4]; exact heap_alloc_new v2 _
    have hz3 : v3.heap.size = w.heap.size + 6 := by rw [hv3]; simp [hz4]
    have c0' := m3.at b0' id
    have c1' := m3.at b1' id
    have c2' := m3.at b2' id
    have c3' := m3.at b3' id
    have c4' : Boxed v3 (w.heap.size + 4) 180 (.slice none 0 0) := m3.at b4 id
    have HC := Lib.hid (And.intro c0' (And.intro c1' (And.intro c2' c3')))
    have HM3 := Lib.hid (hm2.trans m3)
    have hT3 := tabs_mod HTw.out (hm2.trans m3)
    have HT3 := Lib.hid hT3
    have hI0 : ReI v3 (w.heap.size + 4) [] v3 := ⟨Mod.refl _ _, none, 0, c4', Mine.Own.nil _ _ _, by simp⟩
    have HI0 := Lib.hid hI0
    have h2 := tabs_lt hT3
    have hKb := KpL.putObj (w := v3) (B := w.heap.size + 5) (by rw [hz3]; omega) h2
    have hSeq := each_stops 2 (w.heap.size + 5) ⟨l.toArray⟩ v3 b5 hT3 h2 (show l.length < 2 ^ 30 from hl)
    rw [foundL_short (s := ⟨l.toArray⟩) hlong] at hSeq
    have hlen := toksOf_len ⟨l.toArray⟩
    have hlenI := seqOf_len (scanL ⟨l.toArray⟩)
    have HLN := Lib.hid (And.intro hlen hlenI)
    have HZ3 := Lib.hid hz3
    have H23 := Lib.hid h2
    have hz45 : v2.heap.size = w.heap.size + 5 := hz4
    rw [hz45]
    clear b0' b1' b2' b3' b4 hm2 hv3 m3 c0' c1' c2' c3' c4' hT3 hI0 h2 hlen hlenI hz3 hz4 hz45 b5
    go_wp2_with fail
    refine (wpIn_wide (n := 3)).1 ?_
    refine name_frame7 (fun T hT => ?_)
    refine wpIn_rangeFunc_ownH rfl (by omega) (gf := 146) (lb := #[.pointer (some ⟨w.heap.size + 5, 0, none⟩)]) (by rw [hT]; rfl) trivial (enters_of Tryz.func146 (by kernel_rfl) rfl)
      hSeq (fun h k => KpL.trans h k) hKb (Below.refl _ _) (fun _ => rfl) (ReI v3 (w.heap.size + 4)) (fun _ _ _ => False) (reI_own v3 _ _ (Nat.le_refl _)) (fun c _ _ _ _ h _ _ => h) HI0.out
      (fun x a' W => ∃ Bx, v3.heap.size ≤ Bx ∧ W.heap[Bx]? = some (.cells (tokC x.1).toArray 185 (0, 0)) ∧ a' = { tmps := (((T.setIfInBounds 18 (encT x.1)).setIfInBounds 19 (.int .i64 x.2)).setIfInBounds 8 (.pointer (some ⟨Bx, 0, none⟩))).setIfInBounds 9 (.int .i64 x.2), defers := [] })
      (fun x a' _ X Y row hs hg hr => by obtain ⟨Bx, h1, h2, h3⟩ := hs; exact ⟨Bx, h1, (Mod.ofGrown hg).at h2 (fun hs => cells_ne (fun r e => (hr r e).2) h2 hs), h3⟩)
      ?assign ?body ?done ?stop
    case assign =>
      rintro l1 pre x W K hi hK
      obtain ⟨⟨xk, xt, xa⟩, xe⟩ := x
      have hsW : v3.heap.size ≤ W.heap.size := hi.md.size
      have h23 := H23.out
      have hz3 := HZ3.out
      have HK := Lib.hid hK
      have HI := Lib.hid hi
      clear hK hi hKb hSeq
      subst hT
      simp only [encI, encT]
      gi_wp2
      refine HK.out _ _ ((KeepsOthers.alloc _ _).from _) (KpL.of_mod ((Mod.refl (fun _ => False) W).alloc _) (by omega) (by omega) id id id (fun _ _ _ h => h.elim))
        ((reI_own v3 _ _ (Nat.le_refl _)).alloc _ HI.out) ⟨W.heap.size, hsW, heap_alloc_new W _, ?_⟩
      simp only [encT, List.setIfInBounds_toArray, List.set_cons_succ, List.set_cons_zero]
    case body =>
      rintro l1 pre x a' W hl1 ⟨rc, hrc⟩ hi ⟨Bx, hBx, hbx, rfl⟩ hlt
      obtain ⟨h1, a5, c5, h4, h5, h6⟩ := hi
      obtain ⟨⟨xk, xt, xa⟩, xe⟩ := x
      have h23 := H23.out
      have hz3 := HZ3.out
      have hsW : v3.heap.size ≤ W.heap.size := h1.size
      have d0 : W.cell? ⟨Bx, 0, none⟩ = some (.int .i64 xk) := cell_at hbx rfl
      have d1 : W.cell? ⟨Bx, 1, none⟩ = some (.string xt) := cell_at hbx rfl
      have d2 : W.cell? ⟨Bx, 2, none⟩ = some (.int .i64 xa) := cell_at hbx rfl
      have d5 := h4.cell
      have f5 := h4.frozen
      have hln := HLN.out
      have hb3 : pre.length ≤ 2 ^ 20 := by have h1 := hln.1; have h2 := hln.2; have : (toksOf ⟨l.toArray⟩).ts.length = (scanL ⟨l.toArray⟩).1.length := rfl; have h3 : (⟨l.toArray⟩ : ByteArray).size = l.length := rfl; omega
      have H1 := Lib.hid h1; have H4 := Lib.hid h4; have H5 := Lib.hid h5; have H6 := Lib.hid h6
      have HN5 : Hid (blk a5 ≠ some (w.heap.size + 4)) := fun h => by have := h6 _ h; omega
      have HRC := Lib.hid hrc
      have HZ := Lib.hid hz3
      clear h1 h4 h5 h6 hrc hKb hSeq hbx hln hz3
      subst hT
      simp only [encT, List.setIfInBounds_toArray, List.set_cons_succ, List.set_cons_zero]
      gi_wp2_with (gi_at_builtin; refine wpLI_appendN (fun _ => trivial) (us := [_, _, _, _]) rfl (.tmp 20) (.tmp 24) 180 rfl ti142 rfl H5.out rfl rfl rfl (by omega) (by unfold maxLen; omega) ?_; intro a6 c6 w6 hO6 hG6 _
                   have hb6 : Boxed w6 _ _ _ := hG6.mod.at H4.out HN5.out
                   have d6 := hb6.cell
                   have f6 := hb6.frozen
                   have HB6 := Lib.hid hb6; have HO6 := Lib.hid hO6; have HG6 := Lib.hid hG6
                   clear hb6 hO6 hG6 d5)
      have hz3 := HZ.out
      have hM : Mod (fun k => k = w.heap.size + 4 ∨ blk a5 = some k) W (w6.setCell ⟨w.heap.size + 4, 0, none⟩ (.slice a6 (pre.length + 1) c6)) := (HG6.out.mod.mono (fun _ _ h => .inr h)).setCell (fun _ => .inl rfl) _
      have hlow : ∀ k, k < w.heap.size + 4 → ¬ (k = w.heap.size + 4 ∨ blk a5 = some k) := by
        rintro k hk (rfl | h)
        · omega
        · have := H6.out k h; omega
      have h2w := H2w.out
      refine ⟨keepsFrom_mod hM ?_, KpL.of_mod hM (by omega) (by omega) ?_ (hlow _ (by omega)) (hlow _ (by omega)) ?_, ⟨?_, a6, c6, ?_, ?_, ?_⟩⟩
      · rintro k (rfl | h) o ho
        · have := H4.out; unfold Boxed at this; rw [this] at ho; cases ho; rfl
        · obtain ⟨cur, hc⟩ := Mine.Own.blk_cells H5.out k h
          rw [hc] at ho; cases ho; rfl
      · rintro (h | h)
        · omega
        · have := H6.out _ h; omega
      · rintro k cs fz (rfl | h) he
        · have := H4.out; unfold Boxed at this; rw [this] at he; cases he
        · obtain ⟨cur, hc⟩ := Mine.Own.blk_cells H5.out k h
          rw [hc] at he; cases he
      · exact H1.out.step hM (fun i hi hs => by
          rcases hs with h | h
          · exact h
          · have := H6.out i h; omega)
      · rw [List.length_append]; exact bx_put HB6.out _
      · rw [List.length_append, itsC_append]
        exact HO6.out.mod ((Mod.refl (fun b => b = w.heap.size + 4) w6).setCell (fun _ => rfl) _) (fun b hb e => by
          subst e
          rcases HG6.out.pos with e | ⟨g, e, hg⟩
          · rw [e] at hb; exact HN5.out hb
          · rw [e] at hb; cases hb; omega)
      · intro b hb
        rcases HG6.out.pos with e | ⟨g, e, hg⟩
        · rw [e] at hb; exact H6.out b hb
        · rw [e] at hb; cases hb; omega
    case stop =>
      rintro D cc pre W hD hpre h hK
      exact h.elim
    case done =>
      rintro D xs W hD rfl hi hK
      have hmf : ∀ (fn : Fn) (first cap : Array Value) (w : World), (Instr.makeFunc fn first cap).run Tryz.prog w = .ok (.func fn first cap) w := fun _ _ _ _ => rfl
      obtain ⟨hmd, la, lc, hl4, hlo, hlf⟩ := hi
      have hz3 := HZ3.out
      have hsW := hmd.size
      obtain ⟨k0, k1, k2, k3⟩ := HC.out
      have k0 := hmd.at k0 (by omega)
      have k1 := hmd.at k1 (by omega)
      have k2 := hmd.at k2 (by omega)
      have k3 := hmd.at k3 (by omega)
      have hln := HLN.out
      have hsl : (⟨l.toArray⟩ : ByteArray).size = l.length := rfl
      obtain ⟨S, hS⟩ : ∃ S, S = toksOf ⟨l.toArray⟩ := ⟨_, rfl⟩
      have hit : seqOf (scanL ⟨l.toArray⟩) = itemsOf S := by rw [hS, toksOf_items]
      rw [hit] at hl4 hlo
      rw [← hS] at HX
      have hSl : S.ts.length ≤ 65537 := by rw [hS]; have := hln.1; omega
      have hSf : S.fault = 0 → S.fin = l.length := by rw [hS]; unfold toksOf; intro h; simp only at h ⊢; rw [if_pos h]; rfl
      have hSs : ∀ k, (S.tok k).text.size < 2 ^ 30 := by rw [hS]; exact toksOf_size _ (by show l.length < _; omega)
      have hSw : S.Wf := by rw [hS]; exact toksOf_wf _
      clear hS hln hit
      obtain ⟨E, hE⟩ : ∃ E : Env, E = ⟨W.heap.size + 1, W.heap.size, w.heap.size + 4, w.heap.size, la, lc, l.length, S, 119⟩ := ⟨_, rfl⟩
      have hlal := hlo.lt
      have hEO : E.Ok := by
        rw [hE]
        refine ⟨⟨by simp, ?_, ?_, ?_, ?_⟩, ⟨fun h => ?_, fun h => ?_⟩, by show S.ts.length < _; omega, hSf, ⟨fun _ _ => by go_simp, fun la lc l N n bn bl bt w h hb hl hn => nextA_any la lc l N n bn bl bt w h hb hl hn⟩, hSs, hSw⟩
        · show W.heap.size + 1 ≠ w.heap.size + 4; omega
        · show W.heap.size + 1 ≠ w.heap.size; omega
        · show W.heap.size ≠ w.heap.size + 4; omega
        · show W.heap.size ≠ w.heap.size; omega
        · have := hlal _ h; simp only at this; omega
        · have := hlal _ h; simp only at this; omega
      obtain ⟨v5, hv5⟩ : ∃ v5, v5 = (W.alloc (.cells #[.int .i64 0] 3)).alloc (.cells #[E.next, .int .i64 0, .string ⟨#[]⟩, .int .i64 0, .int .i64 0, .bool false] 193) := ⟨_, rfl⟩
      have m5 : Mod (fun _ => False) W v5 := by rw [hv5]; exact ((Mod.refl _ W).alloc _).alloc _
      have hpn : v5.heap[W.heap.size]? = some (.cells #[.int .i64 0] 3 (0, 0)) := by rw [hv5]; exact ((Mod.refl (fun _ => False) _).alloc _).at (heap_alloc_new W _) id
      have hpp : v5.heap[W.heap.size + 1]? = some (.cells #[E.next, .int .i64 0, .string ⟨#[]⟩, .int .i64 0, .int .i64 0, .bool false] 193 (0, 0)) := by
        have := heap_alloc_new (W.alloc (.cells #[.int .i64 0] 3)) (.cells #[E.next, .int .i64 0, .string ⟨#[]⟩, .int .i64 0, .int .i64 0, .bool false] 193)
        rw [hv5]; simpa using this
      have hz5 : v5.heap.size = W.heap.size + 2 := by rw [hv5]; simp
      have hsrc : SrcAt v5 E.la E.lc (itemsOf E.S) E.N 0 E.bn E.bl E.bt := by
        rw [hE]
        exact ⟨hlo.rd.mod m5 (fun _ _ => id), hpn, m5.at hl4 id, a0, c0, m5.at k0 id⟩
      have hpar : v5.heap[E.bp]? = some (.cells #[E.next, .int .i64 0, .string ⟨#[]⟩, .int .i64 0, .int .i64 0, .bool false] 193 (0, 0)) := by rw [hE] at hpp ⊢; exact hpp
      have HST := Lib.hid (step0_any E 0 false _ _ _ _ v5 hEO hsrc hpar (Nat.zero_le _) (fun b hb => by rw [hE] at hb; have := hlal b hb; omega))
      have hFar : Mod (Far w) w v5 := (((HM3.out.mono fun _ _ f => f.elim).step hmd fun i hi h => by omega).step m5 fun _ _ h => h.elim)
      have hDW : D < W.heap.size := (Array.getElem?_eq_some_iff.1 hK).1
      have HDI := Lib.hid (DoorI.mk (w := w) (B := W.heap.size) (m5.at k1 id) (m5.at k2 id) (m5.at k3 id) (m5.at hK id) hFar hDW (by omega))
      have HV5 := Lib.hid hv5
      have HZW := Lib.hid (show w.heap.size + 6 ≤ W.heap.size by omega)
      have hEn : E.next = .func (.func 119) #[] #[.pointer (some ⟨W.heap.size, 0, none⟩), .pointer (some ⟨w.heap.size + 4, 0, none⟩), .pointer (some ⟨w.heap.size, 0, none⟩)] := by rw [hE]; rfl
      have HEN := Lib.hid hEn
      have HEB := Lib.hid (show E.bp = W.heap.size + 1 ∧ E.bn = W.heap.size ∧ E.S = S by rw [hE]; exact ⟨rfl, rfl, rfl⟩)
      have HEL := Lib.hid (show E.bl = w.heap.size + 4 ∧ E.bt = w.heap.size ∧ ∀ b, blk E.la = some b → w.heap.size + 6 ≤ b by rw [hE]; exact ⟨rfl, rfl, fun b hb => by have := hlf b hb; omega⟩)
      have henF := HF.enters
      clear hD hK hDW hmd hl4 hlo hlf hz3 hsW k0 k1 k2 k3 hsl hSl hSf hSs hSw hE hlal hEO hv5 m5 hpn hpp hz5 hsrc hpar hFar hEn hKb hSeq HI0 HLN
      subst hT
      rw [HEB.out.1] at HST
      have HCH : Hid (∀ b, E.Ch b → W.heap.size ≤ b) := fun b hb => by rcases hb with rfl | rfl <;> (have := HEB.out; omega)
      go_wp2_with fail
      have hw5 : (W.alloc (.cells #[.int .i64 0] 3)).alloc (.cells #[.func (.func 119) #[] #[.pointer (some ⟨W.heap.size, 0, none⟩), .pointer (some ⟨w.heap.size + 1 + 1 + 1 + 1, 0, none⟩), .pointer (some ⟨w.heap.size, 0, none⟩)], .int .i64 0, .string ⟨#[]⟩, .int .i64 0, .int .i64 0, .bool false] 193) = v5 := by rw [HV5.out, HEN.out]
      rw [hw5]
      clear hw5
      refine HST.out.mono ?_
      rintro e v6 ⟨rfl, hS6, hM6⟩
      have HD6 := Lib.hid (HDI.out.call hM6 HCH.out)
      have HO := Lib.hid (HF.calls E v6 hS6)
      rw [HEB.out.1] at HO
      have hle6 : W.heap.size ≤ v6.heap.size := by have := hS6.src.lts.1; have := HEB.out.2.1; omega
      have HLE6 := Lib.hid hle6
      clear hS6 hM6 hle6 HST HDI
      go_wp2_with fail
      refine HO.out.mono ?_
      rintro e v7 (⟨x, hx, rfl, hM⟩ | ⟨⟨rs, k7⟩, hx, ⟨p, a1, n1, ag7, rfl, hRR, hS7⟩, hM⟩)
      · have HXX := Lib.hid (show readL ⟨l.toArray⟩ one = .error x by rw [HX.out]; rw [HEB.out.2.2] at hx; rw [hx]; rfl)
        have HD7 := Lib.hid (HD6.out.call hM HCH.out)
        clear hx hM HO HD6
        go_wp2_with fail
        refine ⟨by simp, .inr ⟨by simp, _, _, 118, #[.pointer (some ⟨w.heap.size + 1, 0, none⟩), .pointer (some ⟨w.heap.size + 1 + 1, 0, none⟩), .pointer (some ⟨w.heap.size + 1 + 1 + 1, 0, none⟩)], rfl, by simp [go_sem], fun _ _ => trivial, ?_⟩⟩
        refine (catchA_wrong _ _ _ _ _ _ _ _ _ _ _ x _ HD7.out.g1 HD7.out.g2 HD7.out.g3 ⟨by omega, by omega, by omega⟩).mono ?_
        rintro e u' v8 ⟨⟨vv, rfl⟩, rfl, hM8, q1, q2, q3⟩
        have hlD := HD7.out.geD
        have qD := hM8.at HD7.out.gD (by omega)
        have hG := Mod.ofGrown (grownBy_putObj' v8 D (.deferred none))
        have hne : ∀ b, b < w.heap.size + 6 → ¬ (some D = some b) := fun b hb e => by cases e; omega
        have q1' := hG.at q1 (hne _ (by omega))
        have q2' := hG.at q2 (hne _ (by omega))
        have q3' := hG.at q3 (hne _ (by omega))
        have hfin : Mod (fun _ => False) w (v8.putObj D (.deferred none)) := new_mod ((HD7.out.far.step hM8 fun i _ h => by unfold Far; omega).step hG fun i _ e => by cases e; unfold Far; omega)
        refine ⟨by simp [settle], .inl ⟨D, _, rfl, run_takeDeferred qD, ?_⟩⟩
        have e10 := cell_at (j := 0) q1' rfl; have e11 := cell_at (j := 1) q1' rfl
        have e2 := cell_at (j := 0) q2' rfl
        have e3 := cell_at (j := 0) q3' rfl
        simp only [settle]
        refine ⟨.tuple #[.agg #[.string ⟨#[]⟩, .slice none 0 0], .int .i64 x.2, .int .i64 x.1], by simp [results, Tryz.results61, go_sem, e10, e11, e2, e3], ?_⟩
        exact ⟨.inl ⟨_, HXX.out, rfl⟩, hfin⟩
      have HXX := Lib.hid (show readL ⟨l.toArray⟩ one = (wantP E.S k7 [0]).bind fun _ => .ok rs by rw [HX.out]; rw [HEB.out.2.2] at hx ⊢; unfold wholeP; rw [hx]; rfl)
      have hD7 := HD6.out.call hM HCH.out
      have hge := hD7.geD
      have hzw := HZW.out
      have hle7 : v6.heap.size ≤ v7.heap.size := hM.size
      obtain ⟨v8, hv8⟩ : ∃ v8, v8 = (v7.setCell ⟨w.heap.size + 1, 0, none⟩ (.string p)).setCell ⟨w.heap.size + 1, 1, none⟩ (.slice a1 n1 n1) := ⟨_, rfl⟩
      have g8 : v8.heap[w.heap.size + 1]? = some (.cells #[.string p, .slice a1 n1 n1] 43 (0, 0)) := by rw [hv8]; exact heap_setCell_at (j := 1) (.slice a1 n1 n1) (heap_setCell_at (j := 0) (.string p) (hD7.g1))
      have m8 : Mod (fun b => b = w.heap.size + 1) v7 v8 := by rw [hv8]; exact ((Mod.refl (fun b => b = w.heap.size + 1) v7).setCell (p := ⟨w.heap.size + 1, 0, none⟩) (fun _ => rfl) _).setCell (p := ⟨w.heap.size + 1, 1, none⟩) (fun _ => rfl) _
      have hD8 : DoorI w v8 W.heap.size D #[.string p, .slice a1 n1 n1] 43 := ⟨g8, m8.at hD7.g2 (by omega), m8.at hD7.g3 (by omega), m8.at hD7.gD (by omega), hD7.far.step m8 (fun i _ e => by have e : i = w.heap.size + 1 := e; unfold Far; omega), hD7.ltD, hD7.geD⟩
      have hS8 : PSt v8 E k7 ag7 := hS7.mod m8 (by have := HEB.out.1; omega) (by have := HEB.out.2.1; omega) (by have := HEL.out.1; omega) (by have := HEL.out.2.1; omega) (fun b hb e => by have := HEL.out.2.2 b hb; omega)
      have hR8 := HF.keeps _ _ p a1 n1 v7 v8 _ hRR m8 (fun b hb e => by have := HLE6.out; omega)
      have hz8 : v8.heap.size = v7.heap.size := by rw [hv8]; simp
      have HW1 := Lib.hid (want1 E k7 ag7 0 v8 hS8 v8.heap.size 0)
      rw [HEB.out.1] at HW1
      have HD8 := Lib.hid hD8
      have HR8 := Lib.hid hR8
      have HV8 := Lib.hid hv8
      have HZ8 := Lib.hid (show v8.heap.size = v7.heap.size from hz8)
      have c10 := cell_at (j := 0) hD7.g1 rfl
      have f10 : v7.frozen? ⟨w.heap.size + 1, 0, none⟩ = false := frozen_at hD7.g1
      have c11 := cell_at (j := 1) hD7.g1 rfl
      have f11 : v7.frozen? ⟨w.heap.size + 1, 1, none⟩ = false := frozen_at hD7.g1
      clear hx hM hD7 g8 m8 hD8 hS8 hR8 hv8 hz8 hS7 hRR HO HD6
      go_wp2_with fail
      rw [← HV8.out, ← HZ8.out]
      clear HV8 c10 f10 c11 f11
      refine HW1.out.mono ?_
      rintro e w' ⟨(⟨x, hx, rfl⟩ | ⟨hx, rfl⟩), rfl⟩
      · have HXX2 := Lib.hid (show readL ⟨l.toArray⟩ one = .error x by rw [HXX.out, hx]; rfl)
        have HD7 := Lib.hid (HD8.out.call ((Mod.refl (fun _ => False) v8).alloc (.cells #[.int .i64 0] 3)) (fun _ h => h.elim))
        clear hx HW1 HD8 HXX
        have HXX := HXX2
        go_wp2_with fail
        refine ⟨by simp, .inr ⟨by simp, _, _, 118, #[.pointer (some ⟨w.heap.size + 1, 0, none⟩), .pointer (some ⟨w.heap.size + 1 + 1, 0, none⟩), .pointer (some ⟨w.heap.size + 1 + 1 + 1, 0, none⟩)], rfl, by simp [go_sem], fun _ _ => trivial, ?_⟩⟩
        refine (catchA_wrong _ _ _ _ _ _ _ _ _ _ _ x _ HD7.out.g1 HD7.out.g2 HD7.out.g3 ⟨by omega, by omega, by omega⟩).mono ?_
        rintro e u' v8 ⟨⟨vv, rfl⟩, rfl, hM8, q1, q2, q3⟩
        have hlD := HD7.out.geD
        have qD := hM8.at HD7.out.gD (by omega)
        have hG := Mod.ofGrown (grownBy_putObj' v8 D (.deferred none))
        have hne : ∀ b, b < w.heap.size + 6 → ¬ (some D = some b) := fun b hb e => by cases e; omega
        have q1' := hG.at q1 (hne _ (by omega))
        have q2' := hG.at q2 (hne _ (by omega))
        have q3' := hG.at q3 (hne _ (by omega))
        have hfin : Mod (fun _ => False) w (v8.putObj D (.deferred none)) := new_mod ((HD7.out.far.step hM8 fun i _ h => by unfold Far; omega).step hG fun i _ e => by cases e; unfold Far; omega)
        refine ⟨by simp [settle], .inl ⟨D, _, rfl, run_takeDeferred qD, ?_⟩⟩
        have e10 := cell_at (j := 0) q1' rfl; have e11 := cell_at (j := 1) q1' rfl
        have e2 := cell_at (j := 0) q2' rfl
        have e3 := cell_at (j := 0) q3' rfl
        simp only [settle]
        refine ⟨.tuple #[.agg #[.string ⟨#[]⟩, .slice none 0 0], .int .i64 x.2, .int .i64 x.1], by simp [results, Tryz.results61, go_sem, e10, e11, e2, e3], ?_⟩
        exact ⟨.inl ⟨_, HXX.out, rfl⟩, hfin⟩
      have HXX2 := Lib.hid (show readL ⟨l.toArray⟩ one = .ok rs by rw [HXX.out, hx]; rfl)
      have hm9 : Mod (fun _ => False) v8 (v8.alloc (.cells #[.int .i64 0] 3)) := (Mod.refl _ v8).alloc _
      have HD9 := Lib.hid (HD8.out.call hm9 (fun _ h => h.elim))
      have HR9 := Lib.hid (HF.keeps _ _ p a1 n1 _ _ _ HR8.out hm9 (fun _ _ h => h))
      obtain ⟨v9, hv9⟩ : ∃ v9, v9 = v8.alloc (.cells #[.int .i64 0] 3) := ⟨_, rfl⟩
      rw [← hv9] at HD9 HR9 ⊢
      clear hx hm9 HW1 HD8 HR8 HXX hv9 HZ8
      have c10 := cell_at (j := 0) HD9.out.g1 rfl
      have f10 : v9.frozen? ⟨w.heap.size + 1, 0, none⟩ = false := frozen_at HD9.out.g1
      have c11 := cell_at (j := 1) HD9.out.g1 rfl
      have f11 : v9.frozen? ⟨w.heap.size + 1, 1, none⟩ = false := frozen_at HD9.out.g1
      have f2 : v9.frozen? ⟨w.heap.size + 1 + 1, 0, none⟩ = false := frozen_at HD9.out.g2
      have f3 : v9.frozen? ⟨w.heap.size + 1 + 1 + 1, 0, none⟩ = false := frozen_at HD9.out.g3
      have c2 := cell_at (j := 0) HD9.out.g2 rfl
      have c3 := cell_at (j := 0) HD9.out.g3 rfl
      go_wp2_with fail
      obtain ⟨v10, hv10⟩ : ∃ v10, v10 = (((v9.setCell ⟨w.heap.size + 1, 0, none⟩ (.string p)).setCell ⟨w.heap.size + 1, 1, none⟩ (.slice a1 n1 n1)).setCell ⟨w.heap.size + 1 + 1, 0, none⟩ (.int .i64 0)).setCell ⟨w.heap.size + 1 + 1 + 1, 0, none⟩ (.int .i64 0) := ⟨_, rfl⟩
      rw [← hv10]
      have gA : ((v9.setCell ⟨w.heap.size + 1, 0, none⟩ (.string p)).setCell ⟨w.heap.size + 1, 1, none⟩ (.slice a1 n1 n1)).heap[w.heap.size + 1]? = some (.cells #[.string p, .slice a1 n1 n1] 43 (0, 0)) := heap_setCell_at (j := 1) (.slice a1 n1 n1) (heap_setCell_at (j := 0) (.string p) (HD9.out.g1))
      have mA : Mod (fun b => b = w.heap.size + 1) v9 ((v9.setCell ⟨w.heap.size + 1, 0, none⟩ (.string p)).setCell ⟨w.heap.size + 1, 1, none⟩ (.slice a1 n1 n1)) := ((Mod.refl (fun b => b = w.heap.size + 1) v9).setCell (p := ⟨w.heap.size + 1, 0, none⟩) (fun _ => rfl) _).setCell (p := ⟨w.heap.size + 1, 1, none⟩) (fun _ => rfl) _
      generalize ((v9.setCell ⟨w.heap.size + 1, 0, none⟩ (.string p)).setCell ⟨w.heap.size + 1, 1, none⟩ (.slice a1 n1 n1)) = vA at *
      have gB2 := mA.at HD9.out.g2 (by omega)
      have gB3 := mA.at HD9.out.g3 (by omega)
      have mB : Mod (fun b => b = w.heap.size + 1 + 1) vA (vA.setCell ⟨w.heap.size + 1 + 1, 0, none⟩ (.int .i64 0)) := (Mod.refl (fun b => b = w.heap.size + 1 + 1) vA).setCell (p := ⟨w.heap.size + 1 + 1, 0, none⟩) (fun _ => rfl) _
      have gC2 : (vA.setCell ⟨w.heap.size + 1 + 1, 0, none⟩ (.int .i64 0)).heap[w.heap.size + 1 + 1]? = some (.cells #[.int .i64 0] 3 (0, 0)) := heap_setCell_at (j := 0) (.int .i64 0) gB2
      have gC1 := mB.at gA (by omega)
      have gC3 := mB.at gB3 (by omega)
      generalize vA.setCell ⟨w.heap.size + 1 + 1, 0, none⟩ (.int .i64 0) = vB at *
      have mC : Mod (fun b => b = w.heap.size + 1 + 1 + 1) vB v10 := by rw [hv10]; exact (Mod.refl (fun b => b = w.heap.size + 1 + 1 + 1) vB).setCell (p := ⟨w.heap.size + 1 + 1 + 1, 0, none⟩) (fun _ => rfl) _
      have gD3 : v10.heap[w.heap.size + 1 + 1 + 1]? = some (.cells #[.int .i64 0] 26 (0, 0)) := by rw [hv10]; exact heap_setCell_at (j := 0) (.int .i64 0) gC3
      have gD1 := mC.at gC1 (by omega)
      have gD2 := mC.at gC2 (by omega)
      have gDD := mC.at (mB.at (mA.at HD9.out.gD (by omega)) (by omega)) (by omega)
      have mT : Mod (fun b => b = w.heap.size + 1 ∨ b = w.heap.size + 1 + 1 ∨ b = w.heap.size + 1 + 1 + 1) v9 v10 := ((mA.mono fun _ _ e => .inl e).trans (mB.mono fun _ _ e => .inr (.inl e))).trans (mC.mono fun _ _ e => .inr (.inr e))
      clear hv10 mA mB mC gA gB2 gB3 gC1 gC2 gC3 c10 f10 c11 f11 f2 f3 c2 c3
      refine ⟨by simp, .inr ⟨by simp, _, _, 118, #[.pointer (some ⟨w.heap.size + 1, 0, none⟩), .pointer (some ⟨w.heap.size + 1 + 1, 0, none⟩), .pointer (some ⟨w.heap.size + 1 + 1 + 1, 0, none⟩)], rfl, by simp [go_sem], fun _ _ => trivial, ?_⟩⟩
      refine (catchA_idle _ _ _ _ _).mono ?_
      rintro e u' w'' ⟨⟨vv, rfl⟩, rfl, rfl⟩
      have hG := Mod.ofGrown (grownBy_putObj' w'' D (.deferred none))
      have hne : ∀ b, b < w.heap.size + 6 → ¬ (some D = some b) := fun b hb e => by cases e; omega
      have q1 := hG.at gD1 (hne _ (by omega))
      have q2 := hG.at gD2 (hne _ (by omega))
      have q3 := hG.at gD3 (hne _ (by omega))
      have hfin : Mod (fun _ => False) w (w''.putObj D (.deferred none)) := new_mod ((HD9.out.far.step mT fun i _ h => by unfold Far; omega).step hG fun i _ e => by cases e; unfold Far; omega)
      have hR10 := HF.keeps _ _ p a1 n1 _ _ _ (HF.keeps _ _ p a1 n1 _ _ _ HR9.out mT (fun b hb e => by have := HLE6.out; omega)) hG (fun b hb e => by cases e; have := HLE6.out; have := HD9.out.ltD; omega)
      have hR11 := HF.mono v6.heap.size w.heap.size _ p a1 n1 _ (by have := HLE6.out; omega) hR10
      refine ⟨by simp [settle], .inl ⟨D, _, rfl, run_takeDeferred gDD, ?_⟩⟩
      have e10 := cell_at (j := 0) q1 rfl; have e11 := cell_at (j := 1) q1 rfl
      have e2 := cell_at (j := 0) q2 rfl
      have e3 := cell_at (j := 0) q3 rfl
      simp only [settle]
      refine ⟨.tuple #[.agg #[.string p, .slice a1 n1 n1], .int .i64 0, .int .i64 0], by simp [results, Tryz.results61, go_sem, e10, e11, e2, e3], ?_⟩
      exact ⟨.inr ⟨_, _, HXX2.out, rfl, _, _, _, rfl, hR11⟩, hfin⟩
end
end Go.Proofs.YteecbbnpgmceiaaGreatDoor
/-
  syntax.Parse, ParseRule, ParseAtom: what they answer of whatever bytes.
-/
namespace Go.Proofs.YteecbbnpgmceiaaGreatDoor
open Go Go.RowKit Go.Mine
set_option linter.unusedVariables false
set_option maxHeartbeats 1000000
set_option maxRecDepth 100000

/-- new rules, a new rule, a new atom -/
def RP (lo : Nat) (rs : List Rm) (a : Option Addr) (n : Nat) (w : World) : Prop := ∃ bs, RsF w lo (.slice a n n) rs bs
def RR (lo : Nat) (r : Rm) (p : ByteArray) (a1 : Option Addr) (n1 : Nat) (a2 : Option Addr) (n2 : Nat) (w : World) : Prop := p = r.head.pred ∧ ∃ b, RF w lo (r, .slice a1 n1 n1, .slice a2 n2 n2) b
def RA (lo : Nat) (x : Am) (p : ByteArray) (a1 : Option Addr) (n1 : Nat) (w : World) : Prop := p = x.pred ∧ ∃ b, TsF w lo (.slice a1 n1 n1) x.terms b
theorem RsF.mono {w : World} {lo lo' : Nat} {v : Value} {rs : List Rm} {bs : List Nat} (h : RsF w lo v rs bs) (hl : lo' ≤ lo) : RsF w lo' v rs bs := by
  obtain ⟨a, xs, bss, e, hc, hx, hle, ht, hb, hn, h4⟩ := h
  exact ⟨a, xs, bss, e, hc, hx, hle, fun i x b h1 h2 => (ht i x b h1 h2).mono hl, hb, hn, fun b hb => Nat.le_trans hl (h4 b hb)⟩
theorem RsF.ge {w : World} {lo : Nat} {v : Value} {rs : List Rm} {bs : List Nat} (h : RsF w lo v rs bs) : ∀ b ∈ bs, lo ≤ b := by
  obtain ⟨_, _, _, _, _, _, _, _, _, _, h4⟩ := h; exact h4
theorem one_prog : OneP (fun S => progP S) RP 53 where
  enters := fun _ _ => by go_simp
  calls := fun E w h => (program_any E false w h).mono fun e w' h => by
    rcases h with h | ⟨r, h1, ⟨v, bs, ag, rfl, h2, h3⟩, hM⟩
    · exact .inl h
    · obtain ⟨a, xs, bss, hv, _⟩ := id h2
      subst hv
      exact .inr ⟨r, h1, ⟨a, _, ag, rfl, ⟨bs, h2⟩, h3⟩, hM⟩
  mono := fun lo lo' a a1 n1 w hl h => by obtain ⟨bs, h⟩ := h; exact ⟨bs, h.mono hl⟩
  keeps := fun lo a a1 n1 w w' T h m hT => by obtain ⟨bs, h⟩ := h; exact ⟨bs, h.mod m fun b hb => hT b (h.ge b hb)⟩
theorem one_rule : OneR ruleOne RR 57 where
  enters := fun _ _ => by go_simp
  calls := fun E w h => (rule_any E 0 false w h).mono fun e w' h => by
    rcases h with ⟨x, h1, h⟩ | ⟨r, h1, ⟨hv, v, hbs, bs, rfl, h2, h3, hn, h4⟩, hM⟩
    · exact .inl ⟨x, by unfold ruleOne; rw [h1]; rfl, h⟩
    · obtain ⟨a1, hv1, _⟩ := id h2
      obtain ⟨a2, _, _, hv2, _⟩ := id h3
      subst hv1 hv2
      exact .inr ⟨(r.1, r.2.1), by unfold ruleOne; rw [h1]; rfl, ⟨_, a1, _, a2, _, r.2.2, rfl, ⟨rfl, _, hbs, bs, h2, h3, rfl, hn⟩, h4⟩, hM⟩
  mono := fun lo lo' a p a1 n1 a2 n2 w hl h => by obtain ⟨hp, b, h⟩ := h; exact ⟨hp, b, h.mono hl⟩
  keeps := fun lo a p a1 n1 a2 n2 w w' T h m hT => by obtain ⟨hp, b, h⟩ := h; exact ⟨hp, b, h.mod m fun y hy => hT y (h.bd y hy).1⟩
theorem atomC_any (E : Env) (w : World) (h : PSt w E 0 false) :
    Calls Tryz.prog 62 #[.pointer (some ⟨E.bp, 0, none⟩)] w (PP E w (atomP false E.S 0 false) (ResAm E w.heap.size)) := by
  have h0 := h.alloc (.cells #[.string ⟨#[]⟩, .slice none 0 0] 43)
  have m0 : Mod E.Ch w (w.alloc (.cells #[.string ⟨#[]⟩, .slice none 0 0] 43)) := (Mod.refl _ w).alloc _
  have HA := Lib.hid (atom_any E false _ (one_term E) 0 false _ h0)
  have HB := Lib.hid (heap_alloc_new w (.cells #[.string ⟨#[]⟩, .slice none 0 0] 43))
  have H := Lib.hid h; have M0 := Lib.hid m0
  clear h h0 m0
  go_enter Tryz.func62, Tryz.ntmps62
  go_wp2_with fail
  refine HA.out.mono ?_
  rintro e w3 (⟨x, hx, rfl, hM⟩ | ⟨⟨⟨p', ts⟩, k3, ag3⟩, hx, ⟨v, bs, rfl, hTs, hS⟩, hM⟩)
  · have HX2 := Lib.hid hx
    have HM2 := Lib.hid (M0.out.trans hM); clear hx hM
    go_wp2_with fail
    exact ⟨rfl, .inl ⟨x, HX2.out, rfl, HM2.out⟩⟩
  have HX2 := Lib.hid hx
  have HM2 := Lib.hid (M0.out.trans hM)
  simp only at hTs hS ⊢
  have hb3 := hM.at HB.out (H.out.nch (Nat.le_refl _))
  have c0 := cell_at (j := 0) hb3 rfl
  have c1 := cell_at (j := 1) hb3 rfl
  have f0 : w3.frozen? ⟨w.heap.size, 0, none⟩ = false := frozen_at hb3
  have f1 : w3.frozen? ⟨w.heap.size, 1, none⟩ = false := frozen_at hb3
  have HTS := Lib.hid hTs; have HS := Lib.hid hS; have HB3 := Lib.hid hb3
  obtain ⟨a, hv, _⟩ := hTs
  subst hv
  clear hx hM hb3 hS HA HB
  go_wp2_with fail
  obtain ⟨w9, hw9⟩ : ∃ w9, w9 = ((w3.setCell ⟨w.heap.size, 0, none⟩ (.string p')).setCell ⟨w.heap.size, 1, none⟩ (.slice a ts.length ts.length)) := ⟨_, rfl⟩
  have b9 : w9.heap[w.heap.size]? = some (.cells #[.string p', .slice a ts.length ts.length] 43 (0, 0)) := by rw [hw9]; exact heap_setCell_at (j := 1) _ (heap_setCell_at (j := 0) (.string p') HB3.out)
  have m9 : Mod (fun b => b = w.heap.size) w3 w9 := by rw [hw9]; exact ((Mod.refl (fun b => b = w.heap.size) _).setCell (p := ⟨w.heap.size, 0, none⟩) (fun _ => rfl) _).setCell (p := ⟨w.heap.size, 1, none⟩) (fun _ => rfl) _
  have mF : Mod (Far w) w3 w9 := m9.mono fun _ _ e => Nat.le_of_eq e.symm
  rw [← hw9]
  clear hw9
  have e0 := cell_at (j := 0) b9 rfl
  have e1 := cell_at (j := 1) b9 rfl
  refine bodyPost_ret (v := .agg #[.string p', .slice a ts.length ts.length]) (by simp [results, Tryz.results62, go_sem, e0, e1]) rfl ?_
  have hT9 := (HTS.out.mono (lo' := w.heap.size) (by simp)).mod m9 (fun b hb e => by
    have := HTS.out.ge b hb; simp at this; omega)
  exact .inr ⟨_, HX2.out, ⟨_, _, rfl, hT9, H.out.far HS.out mF⟩, Mod.far HM2.out mF⟩
theorem one_atom : OneA atomOne RA 62 where
  enters := fun _ _ => by go_simp
  calls := fun E w h => (atomC_any E w h).mono fun e w' h => by
    rcases h with ⟨x, h1, h⟩ | ⟨r, h1, ⟨v, bs, rfl, h2, h4⟩, hM⟩
    · exact .inl ⟨x, by unfold atomOne; rw [h1]; rfl, h⟩
    · obtain ⟨a1, hv1, _⟩ := id h2
      subst hv1
      exact .inr ⟨(r.1, r.2.1), by unfold atomOne; rw [h1]; rfl, ⟨_, a1, _, r.2.2, rfl, ⟨rfl, bs, h2⟩, h4⟩, hM⟩
  mono := fun lo lo' a p a1 n1 w hl h => by obtain ⟨hp, b, h⟩ := h; exact ⟨hp, b, h.mono hl⟩
  keeps := fun lo a p a1 n1 w w' T h m hT => by obtain ⟨hp, b, h⟩ := h; exact ⟨hp, b, h.mod m fun y hy => hT y (h.ge y hy)⟩

def progS (s : ByteArray) : PR (List Rm) := readL s progP
def ruleS (s : ByteArray) : PR Rm := readL s ruleOne
def atomS (s : ByteArray) : PR Am := readL s atomOne
theorem parse_any (a0 : Option Addr) (c0 : Nat) (l : List UInt8) (w : World) (hR : Rd w a0 (bts l)) (hT : Lib.Utf8Tabs 1 2 w) (hl : l.length < 2 ^ 30) :
    Calls Tryz.prog 15 #[.slice a0 l.length c0] w (RdPost w (.agg #[.slice none 0 0]) (progS ⟨l.toArray⟩) fun rs v w' => ∃ a n, v = .agg #[.slice a n n] ∧ RP w.heap.size rs a n w') := by
  have m0 : Mod (fun _ => False) w (w.alloc (.cells #[.slice none 0 0] 24)) := (Mod.refl _ w).alloc _
  have HA := Lib.hid (readP_any _ _ _ one_prog a0 c0 l _ (hR.mod m0 (fun _ _ => id)) (tabs_mod hT m0) hl)
  have HB := Lib.hid (heap_alloc_new w (.cells #[.slice none 0 0] 24))
  have M0 := Lib.hid m0
  clear hR hT m0
  go_enter Tryz.func15, Tryz.ntmps15
  go_wp2_with fail
  refine HA.out.mono ?_
  rintro e w3 ⟨(⟨x, hx, rfl⟩ | ⟨rs, v, hx, rfl, a, n, rfl, hP⟩), hM⟩
  all_goals
    have hb3 := hM.at HB.out id
    have c0 := cell_at (j := 0) hb3 rfl
    have f0 : w3.frozen? ⟨w.heap.size, 0, none⟩ = false := frozen_at hb3
    have HB3 := Lib.hid hb3
    have HM3 := Lib.hid hM
    have HX := Lib.hid hx
    clear hb3 hM hx HA HB
  · go_wp2_with fail
    have b9 := heap_setCell_at (j := 0) (.slice none 0 0) HB3.out
    have m9 : Mod (fun b => b = w.heap.size) w3 (w3.setCell ⟨w.heap.size, 0, none⟩ (.slice none 0 0)) := (Mod.refl (fun b => b = w.heap.size) w3).setCell (p := ⟨w.heap.size, 0, none⟩) (fun _ => rfl) _
    generalize w3.setCell ⟨w.heap.size, 0, none⟩ (.slice none 0 0) = w9 at *
    clear c0 f0
    have e0 := cell_at (j := 0) b9 rfl
    refine bodyPost_ret (v := .tuple #[.agg #[.slice none 0 0], .int .i64 x.2, .int .i64 x.1]) (by simp [results, Tryz.results15, go_sem, e0]) rfl ?_
    exact ⟨.inl ⟨x, HX.out, rfl⟩, (M0.out.trans HM3.out).step m9 fun i hi e => by omega⟩
  · have HP := Lib.hid hP; clear hP
    go_wp2_with fail
    have b9 := heap_setCell_at (j := 0) (.slice a n n) HB3.out
    have m9 : Mod (fun b => b = w.heap.size) w3 (w3.setCell ⟨w.heap.size, 0, none⟩ (.slice a n n)) := (Mod.refl (fun b => b = w.heap.size) w3).setCell (p := ⟨w.heap.size, 0, none⟩) (fun _ => rfl) _
    generalize w3.setCell ⟨w.heap.size, 0, none⟩ (.slice a n n) = w9 at *
    clear c0 f0
    have e0 := cell_at (j := 0) b9 rfl
    refine bodyPost_ret (v := .tuple #[.agg #[.slice a n n], .int .i64 0, .int .i64 0]) (by simp [results, Tryz.results15, go_sem, e0]) rfl ?_
    have hP9 := one_prog.mono _ w.heap.size _ a n _ (by simp) (one_prog.keeps _ _ a n _ _ _ HP.out m9 (fun b hb e => by simp at hb; omega))
    exact ⟨.inr ⟨rs, _, HX.out, rfl, a, n, rfl, hP9⟩, (M0.out.trans HM3.out).step m9 fun i hi e => by omega⟩
theorem parseRule_any (a0 : Option Addr) (c0 : Nat) (l : List UInt8) (w : World) (hR : Rd w a0 (bts l)) (hT : Lib.Utf8Tabs 1 2 w) (hl : l.length < 2 ^ 30) :
    Calls Tryz.prog 18 #[.slice a0 l.length c0] w (RdPost w (.agg #[.string ⟨#[]⟩, .slice none 0 0, .slice none 0 0]) (ruleS ⟨l.toArray⟩) fun rs v w' => ∃ p a1 n1 a2 n2, v = .agg #[.string p, .slice a1 n1 n1, .slice a2 n2 n2] ∧ RR w.heap.size rs p a1 n1 a2 n2 w') := by
  have m0 : Mod (fun _ => False) w (w.alloc (.cells #[.string ⟨#[]⟩, .slice none 0 0, .slice none 0 0] 46)) := (Mod.refl _ w).alloc _
  have HA := Lib.hid (readR_any _ _ _ one_rule a0 c0 l _ (hR.mod m0 (fun _ _ => id)) (tabs_mod hT m0) hl)
  have HB := Lib.hid (heap_alloc_new w (.cells #[.string ⟨#[]⟩, .slice none 0 0, .slice none 0 0] 46))
  have M0 := Lib.hid m0
  clear hR hT m0
  go_enter Tryz.func18, Tryz.ntmps18
  go_wp2_with fail
  refine HA.out.mono ?_
  rintro e w3 ⟨(⟨x, hx, rfl⟩ | ⟨rs, v, hx, rfl, p, a1, n1, a2, n2, rfl, hP⟩), hM⟩
  all_goals
    have hb3 := hM.at HB.out id
    have c0 := cell_at (j := 0) hb3 rfl
    have f0 : w3.frozen? ⟨w.heap.size, 0, none⟩ = false := frozen_at hb3
    have c1 := cell_at (j := 1) hb3 rfl
    have f1 : w3.frozen? ⟨w.heap.size, 1, none⟩ = false := frozen_at hb3
    have c2 := cell_at (j := 2) hb3 rfl
    have f2 : w3.frozen? ⟨w.heap.size, 2, none⟩ = false := frozen_at hb3
    have HB3 := Lib.hid hb3
    have HM3 := Lib.hid hM
    have HX := Lib.hid hx
    clear hb3 hM hx HA HB
  · go_wp2_with fail
    obtain ⟨w9, hw9⟩ : ∃ w9, w9 = ((w3.setCell ⟨w.heap.size, 0, none⟩ (.string ⟨#[]⟩)).setCell ⟨w.heap.size, 1, none⟩ (.slice none 0 0)).setCell ⟨w.heap.size, 2, none⟩ (.slice none 0 0) := ⟨_, rfl⟩
    have b9 : w9.heap[w.heap.size]? = some (.cells #[.string ⟨#[]⟩, .slice none 0 0, .slice none 0 0] 46 (0, 0)) := by rw [hw9]; exact heap_setCell_at (j := 2) (.slice none 0 0) (heap_setCell_at (j := 1) (.slice none 0 0) (heap_setCell_at (j := 0) (.string ⟨#[]⟩) (HB3.out)))
    have m9 : Mod (fun b => b = w.heap.size) w3 w9 := by rw [hw9]; exact (((Mod.refl (fun b => b = w.heap.size) w3).setCell (p := ⟨w.heap.size, 0, none⟩) (fun _ => rfl) _).setCell (p := ⟨w.heap.size, 1, none⟩) (fun _ => rfl) _).setCell (p := ⟨w.heap.size, 2, none⟩) (fun _ => rfl) _
    rw [← hw9]
    clear hw9 c0 f0 c1 f1 c2 f2
    have e0 := cell_at (j := 0) b9 rfl
    have e1 := cell_at (j := 1) b9 rfl
    have e2 := cell_at (j := 2) b9 rfl
    refine bodyPost_ret (v := .tuple #[.agg #[.string ⟨#[]⟩, .slice none 0 0, .slice none 0 0], .int .i64 x.2, .int .i64 x.1]) (by simp [results, Tryz.results18, go_sem, e0, e1, e2]) rfl ?_
    exact ⟨.inl ⟨x, HX.out, rfl⟩, (M0.out.trans HM3.out).step m9 fun i hi e => by omega⟩
  · have HP := Lib.hid hP; clear hP
    go_wp2_with fail
    obtain ⟨w9, hw9⟩ : ∃ w9, w9 = ((w3.setCell ⟨w.heap.size, 0, none⟩ (.string p)).setCell ⟨w.heap.size, 1, none⟩ (.slice a1 n1 n1)).setCell ⟨w.heap.size, 2, none⟩ (.slice a2 n2 n2) := ⟨_, rfl⟩
    have b9 : w9.heap[w.heap.size]? = some (.cells #[.string p, .slice a1 n1 n1, .slice a2 n2 n2] 46 (0, 0)) := by rw [hw9]; exact heap_setCell_at (j := 2) (.slice a2 n2 n2) (heap_setCell_at (j := 1) (.slice a1 n1 n1) (heap_setCell_at (j := 0) (.string p) (HB3.out)))
    have m9 : Mod (fun b => b = w.heap.size) w3 w9 := by rw [hw9]; exact (((Mod.refl (fun b => b = w.heap.size) w3).setCell (p := ⟨w.heap.size, 0, none⟩) (fun _ => rfl) _).setCell (p := ⟨w.heap.size, 1, none⟩) (fun _ => rfl) _).setCell (p := ⟨w.heap.size, 2, none⟩) (fun _ => rfl) _
    rw [← hw9]
    clear hw9 c0 f0 c1 f1 c2 f2
    have e0 := cell_at (j := 0) b9 rfl
    have e1 := cell_at (j := 1) b9 rfl
    have e2 := cell_at (j := 2) b9 rfl
    refine bodyPost_ret (v := .tuple #[.agg #[.string p, .slice a1 n1 n1, .slice a2 n2 n2], .int .i64 0, .int .i64 0]) (by simp [results, Tryz.results18, go_sem, e0, e1, e2]) rfl ?_
    have hP9 := one_rule.mono _ w.heap.size _ p a1 n1 a2 n2 _ (by simp) (one_rule.keeps _ _ p a1 n1 a2 n2 _ _ _ HP.out m9 (fun b hb e => by simp at hb; omega))
    exact ⟨.inr ⟨rs, _, HX.out, rfl, p, a1, n1, a2, n2, rfl, hP9⟩, (M0.out.trans HM3.out).step m9 fun i hi e => by omega⟩
theorem parseAtom_any (a0 : Option Addr) (c0 : Nat) (l : List UInt8) (w : World) (hR : Rd w a0 (bts l)) (hT : Lib.Utf8Tabs 1 2 w) (hl : l.length < 2 ^ 30) :
    Calls Tryz.prog 22 #[.slice a0 l.length c0] w (RdPost w (.agg #[.string ⟨#[]⟩, .slice none 0 0]) (atomS ⟨l.toArray⟩) fun rs v w' => ∃ p a1 n1, v = .agg #[.string p, .slice a1 n1 n1] ∧ RA w.heap.size rs p a1 n1 w') := by
  have m0 : Mod (fun _ => False) w (w.alloc (.cells #[.string ⟨#[]⟩, .slice none 0 0] 43)) := (Mod.refl _ w).alloc _
  have HA := Lib.hid (readA_any _ _ _ one_atom a0 c0 l _ (hR.mod m0 (fun _ _ => id)) (tabs_mod hT m0) hl)
  have HB := Lib.hid (heap_alloc_new w (.cells #[.string ⟨#[]⟩, .slice none 0 0] 43))
  have M0 := Lib.hid m0
  clear hR hT m0
  go_enter Tryz.func22, Tryz.ntmps22
  go_wp2_with fail
  refine HA.out.mono ?_
  rintro e w3 ⟨(⟨x, hx, rfl⟩ | ⟨rs, v, hx, rfl, p, a1, n1, rfl, hP⟩), hM⟩
  all_goals
    have hb3 := hM.at HB.out id
    have c0 := cell_at (j := 0) hb3 rfl
    have f0 : w3.frozen? ⟨w.heap.size, 0, none⟩ = false := frozen_at hb3
    have c1 := cell_at (j := 1) hb3 rfl
    have f1 : w3.frozen? ⟨w.heap.size, 1, none⟩ = false := frozen_at hb3
    have HB3 := Lib.hid hb3
    have HM3 := Lib.hid hM
    have HX := Lib.hid hx
    clear hb3 hM hx HA HB
  · go_wp2_with fail
    obtain ⟨w9, hw9⟩ : ∃ w9, w9 = (w3.setCell ⟨w.heap.size, 0, none⟩ (.string ⟨#[]⟩)).setCell ⟨w.heap.size, 1, none⟩ (.slice none 0 0) := ⟨_, rfl⟩
    have b9 : w9.heap[w.heap.size]? = some (.cells #[.string ⟨#[]⟩, .slice none 0 0] 43 (0, 0)) := by rw [hw9]; exact heap_setCell_at (j := 1) (.slice none 0 0) (heap_setCell_at (j := 0) (.string ⟨#[]⟩) (HB3.out))
    have m9 : Mod (fun b => b = w.heap.size) w3 w9 := by rw [hw9]; exact ((Mod.refl (fun b => b = w.heap.size) w3).setCell (p := ⟨w.heap.size, 0, none⟩) (fun _ => rfl) _).setCell (p := ⟨w.heap.size, 1, none⟩) (fun _ => rfl) _
    rw [← hw9]
    clear hw9 c0 f0 c1 f1
    have e0 := cell_at (j := 0) b9 rfl
    have e1 := cell_at (j := 1) b9 rfl
    refine bodyPost_ret (v := .tuple #[.agg #[.string ⟨#[]⟩, .slice none 0 0], .int .i64 x.2, .int .i64 x.1]) (by simp [results, Tryz.results22, go_sem, e0, e1]) rfl ?_
    exact ⟨.inl ⟨x, HX.out, rfl⟩, (M0.out.trans HM3.out).step m9 fun i hi e => by omega⟩
  · have HP := Lib.hid hP; clear hP
    go_wp2_with fail
    obtain ⟨w9, hw9⟩ : ∃ w9, w9 = (w3.setCell ⟨w.heap.size, 0, none⟩ (.string p)).setCell ⟨w.heap.size, 1, none⟩ (.slice a1 n1 n1) := ⟨_, rfl⟩
    have b9 : w9.heap[w.heap.size]? = some (.cells #[.string p, .slice a1 n1 n1] 43 (0, 0)) := by rw [hw9]; exact heap_setCell_at (j := 1) (.slice a1 n1 n1) (heap_setCell_at (j := 0) (.string p) (HB3.out))
    have m9 : Mod (fun b => b = w.heap.size) w3 w9 := by rw [hw9]; exact ((Mod.refl (fun b => b = w.heap.size) w3).setCell (p := ⟨w.heap.size, 0, none⟩) (fun _ => rfl) _).setCell (p := ⟨w.heap.size, 1, none⟩) (fun _ => rfl) _
    rw [← hw9]
    clear hw9 c0 f0 c1 f1
    have e0 := cell_at (j := 0) b9 rfl
    have e1 := cell_at (j := 1) b9 rfl
    refine bodyPost_ret (v := .tuple #[.agg #[.string p, .slice a1 n1 n1], .int .i64 0, .int .i64 0]) (by simp [results, Tryz.results22, go_sem, e0, e1]) rfl ?_
    have hP9 := one_atom.mono _ w.heap.size _ p a1 n1 _ (by simp) (one_atom.keeps _ _ p a1 n1 _ _ _ HP.out m9 (fun b hb e => by simp at hb; omega))
    exact ⟨.inr ⟨rs, _, HX.out, rfl, p, a1, n1, rfl, hP9⟩, (M0.out.trans HM3.out).step m9 fun i hi e => by omega⟩
end Go.Proofs.YteecbbnpgmceiaaGreatDoor
