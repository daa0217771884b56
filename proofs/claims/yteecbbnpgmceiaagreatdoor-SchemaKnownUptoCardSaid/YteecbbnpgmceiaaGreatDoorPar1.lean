/-
  The parser's state, and its smallest steps: is, want, give, step, word, mark.
-/
import Derived.Test.YteecbbnpgmceiaaGreatDoorParse1
import Derived.WalkSmall
import Derived.Test.YteecbbnpgmceiaaGreatDoorMayG
import Derived.Deep.LoopGhost
import Derived.Test.YteecbbnpgmceiaaGreatDoorOwG
namespace Go.Proofs.YteecbbnpgmceiaaGreatDoor
open Go Go.RowKit Go.Mine
set_option linter.unusedVariables false
set_option maxHeartbeats 4000000
set_option maxRecDepth 100000

theorem its_get {w : World} {a : Option Addr} {ks : List Nat} (h : Rd w a (its (ks.map fun k : Nat => (k : Int)))) {i : Nat} (hi : i < ks.length) :
    ∃ b o, a = some ⟨b, o, none⟩ ∧ w.cell? ⟨b, o + i, none⟩ = some (.int .i64 (ks[i] : Nat)) := by
  exact h i _ (by simp [its, hi])
/-- the first place of a number in a list -/
def idxL : List Nat → Nat → Nat → Int
  | [], _, _ => -1
  | x :: l, v, i => if v = x then i else idxL l v (i + 1)
theorem idxL_ge : ∀ (l : List Nat) (v i : Nat), (0 ≤ idxL l v i) ↔ l.contains v = true
  | [], v, i => by simp [idxL]
  | x :: l, v, i => by
    have := idxL_ge l v (i + 1)
    rw [idxL]
    by_cases h : v = x
    · rw [if_pos h]; simp [h]
    · rw [if_neg h, this]; simp [h]
theorem index_any (a : Option Addr) (c : Nat) (ks : List Nat) (v : Nat) (w : World) (h : Rd w a (its (ks.map fun k : Nat => (k : Int)))) (hl : ks.length < 2 ^ 30) :
    Calls Tryz.prog 180 #[.slice a ks.length c, .int .i64 v] w fun e w' => e = .returned (.int .i64 (idxL ks v 0)) ∧ w = w' := by
  have HR := Lib.hid h; clear h
  go_enter Tryz.func180, Tryz.ntmps180
  go_wp2
  go_loop [8] (fun iv => ∃ k : Nat, iv = .int .i64 k ∧ k ≤ ks.length ∧ Hid (idxL ks v 0 = idxL (ks.drop k) v k)) (fun iv => ks.length - (intOf iv).toNat)
  case atStart => exact ⟨0, rfl, Nat.zero_le _, rfl⟩
  case round =>
    obtain ⟨k, rfl, hk, hI⟩ := hrel
    by_cases hlt : k < ks.length
    · obtain ⟨b, o, rfl, hc⟩ := its_get HR.out hlt
      have hd : ks.drop k = ks[k] :: ks.drop (k + 1) := List.drop_eq_getElem_cons hlt
      have HD := Lib.hid hd; clear hd
      generalize ks[k] = x at *
      by_cases hx : v = x
      · subst hx
        go_wp2
        go_ret
        refine ⟨?_, rfl⟩
        rw [hI.out, HD.out, idxL, if_pos rfl]; rfl
      · have hb : ((v : Int) == (x : Int)) = false := by simp; omega
        go_wp2
        go_round
        case rel => exact ⟨k + 1, by go_num, hlt, by have := hI.out; rw [HD.out, idxL, if_neg hx] at this; exact this⟩
        case measure => simp [intOf]; omega
    · obtain rfl : k = ks.length := by omega
      go_wp2
      go_ret
      refine ⟨?_, rfl⟩
      rw [hI.out, List.drop_length]; rfl
theorem contains_any (a : Option Addr) (c : Nat) (ks : List Nat) (v : Nat) (w : World) (h : Rd w a (its (ks.map fun k : Nat => (k : Int)))) (hl : ks.length < 2 ^ 30) :
    Calls Tryz.prog 152 #[.slice a ks.length c, .int .i64 v] w fun e w' => e = .returned (.bool (ks.contains v)) ∧ w = w' := by
  have HI := Lib.hid (index_any a c ks v w h hl)
  have hg := idxL_ge ks v 0
  generalize idxL ks v 0 = z at *
  generalize ks.contains v = b at *
  clear h
  by_cases hz : 0 ≤ z
  · obtain rfl := hg.1 hz
    clear hg
    go_enter Tryz.func152, Tryz.ntmps152
    go_wp2_with (go_at_call 180; refine HI.out.mono ?_; rintro e w' ⟨rfl, rfl⟩)
    go_ret
    exact ⟨ret_bool (by simp), rfl⟩
  · obtain rfl : b = false := by cases b with
      | false => rfl
      | true => exact absurd (hg.2 rfl) hz
    clear hg
    go_enter Tryz.func152, Tryz.ntmps152
    go_wp2_with (go_at_call 180; refine HI.out.mono ?_; rintro e w' ⟨rfl, rfl⟩)
    go_ret
    exact ⟨ret_bool (by simp; omega), rfl⟩

/-- what is thrown -/
def wrongE (x : Nat × Nat) : List PanicEntry := [{ v := .iface 189 (.agg #[.int .i64 x.1, .int .i64 x.2]), recovered := false }]
def itemsOf (S : Toks) : List (Tok × Nat) := S.ts.map (fun t => (t, 0)) ++ if S.fault = 0 then [] else [(⟨0, emptyB, S.fin⟩, S.fault)]
def errS (S : Toks) (k : Nat) : Nat := if S.bad k = true then S.fault else 0
/-- what does not turn while a text is read: the parser's block, the source's boxes, the tokens -/
structure Env where
  (bp bn bl bt : Nat)
  la : Option Addr
  (lc N : Nat)
  S : Toks
  F : FuncId
/-- the source of tokens does what it should -/
def NextOk (F : FuncId) : Prop := (∀ (args : Array Value) (w : World), (callFunc F args).run Tryz.prog w = .ok (.enter F args) w) ∧
  ∀ (la : Option Addr) (lc : Nat) (l : List (Tok × Nat)) (N n bn bl bt : Nat) (w : World) (h : SrcAt w la lc l N n bn bl bt) (hb : bn ≠ bl ∧ bn ≠ bt ∧ blk la ≠ some bn) (hl : l.length < 2 ^ 30) (hn : n ≤ l.length),
    Calls Tryz.prog F #[.pointer (some ⟨bn, 0, none⟩), .pointer (some ⟨bl, 0, none⟩), .pointer (some ⟨bt, 0, none⟩)] w fun e w' => ∃ b, e = .returned (.tuple #[tokV (itAt l N n).1, .int .i64 (itAt l N n).2, .bool b]) ∧ SrcAt w' la lc l N (min (n + 1) l.length) bn bl bt ∧ Mod (fun b => b = bn) w w'
structure Env.Ok (E : Env) : Prop where
  n1 : E.bp ≠ E.bn ∧ E.bp ≠ E.bl ∧ E.bp ≠ E.bt ∧ E.bn ≠ E.bl ∧ E.bn ≠ E.bt
  n2 : blk E.la ≠ some E.bn ∧ blk E.la ≠ some E.bp
  len : E.S.ts.length < 2 ^ 20
  fin : E.S.fault = 0 → E.S.fin = E.N
  next : NextOk E.F
  size : ∀ k, (E.S.tok k).text.size < 2 ^ 30
  wf : E.S.Wf
/-- what reading turns -/
def Env.Ch (E : Env) (b : Nat) : Prop := b = E.bp ∨ b = E.bn
def Env.next (E : Env) : Value := .func (.func E.F) #[] #[.pointer (some ⟨E.bn, 0, none⟩), .pointer (some ⟨E.bl, 0, none⟩), .pointer (some ⟨E.bt, 0, none⟩)]
def Env.cells (E : Env) (k : Nat) (agg : Bool) : Array Value := #[E.next, .int .i64 (E.S.tok k).kind, .string (E.S.tok k).text, .int .i64 (E.S.tok k).at_, .int .i64 (errS E.S k), .bool agg]
/-- the parser stands at token k -/
structure PSt (w : World) (E : Env) (k : Nat) (agg : Bool) : Prop where
  ok : E.Ok
  src : SrcAt w E.la E.lc (itemsOf E.S) E.N (min (k + 1) (itemsOf E.S).length) E.bn E.bl E.bt
  par : w.heap[E.bp]? = some (.cells (E.cells k agg) 193 (0, 0))
  le : k ≤ E.S.ts.length
  lal : ∀ b, blk E.la = some b → b < w.heap.size
section
variable {w w' : World} {E : Env} {k : Nat} {agg : Bool}
theorem SrcAt.lts {la : Option Addr} {lc : Nat} {l : List (Tok × Nat)} {N n bn bl bt : Nat} (h : SrcAt w la lc l N n bn bl bt) : bn < w.heap.size ∧ bl < w.heap.size ∧ bt < w.heap.size := by
  obtain ⟨_, h1, h2, _, _, h3⟩ := h
  exact ⟨(Array.getElem?_eq_some_iff.1 h1).1, (Array.getElem?_eq_some_iff.1 h2).1, (Array.getElem?_eq_some_iff.1 h3).1⟩
theorem PSt.mod {T : Nat → Prop} (h : PSt w E k agg) (m : Mod T w w') (h1 : ¬ T E.bp) (h2 : ¬ T E.bn) (h3 : ¬ T E.bl) (h4 : ¬ T E.bt) (h5 : ∀ b, blk E.la = some b → ¬ T b) : PSt w' E k agg :=
  ⟨h.ok, h.src.mod m h2 h3 h4 h5, m.at h.par h1, h.le, fun b hb => Nat.lt_of_lt_of_le (h.lal b hb) m.size⟩
theorem PSt.mod0 (h : PSt w E k agg) (m : Mod (fun _ => False) w w') : PSt w' E k agg := h.mod m id id id id (fun _ _ => id)
theorem PSt.alloc (h : PSt w E k agg) (o : Obj) : PSt (w.alloc o) E k agg := h.mod0 ((Mod.refl _ w).alloc o)
theorem PSt.kind (h : PSt w E k agg) : w.cell? ⟨E.bp, 1, none⟩ = some (.int .i64 (E.S.tok k).kind) := cell_at h.par rfl
theorem PSt.text (h : PSt w E k agg) : w.cell? ⟨E.bp, 2, none⟩ = some (.string (E.S.tok k).text) := cell_at h.par rfl
theorem PSt.at_ (h : PSt w E k agg) : w.cell? ⟨E.bp, 3, none⟩ = some (.int .i64 (E.S.tok k).at_) := cell_at h.par rfl
theorem PSt.err (h : PSt w E k agg) : w.cell? ⟨E.bp, 4, none⟩ = some (.int .i64 (errS E.S k)) := cell_at h.par rfl
theorem PSt.aggC (h : PSt w E k agg) : w.cell? ⟨E.bp, 5, none⟩ = some (.bool agg) := cell_at h.par rfl
theorem PSt.nextC (h : PSt w E k agg) : w.cell? ⟨E.bp, 0, none⟩ = some E.next := cell_at h.par rfl
theorem PSt.fz (h : PSt w E k agg) (j : Nat) : w.frozen? ⟨E.bp, j, none⟩ = false := frozen_at h.par
theorem PSt.lt (h : PSt w E k agg) : E.bp < w.heap.size := (Array.getElem?_eq_some_iff.1 h.par).1
/-- what lies beyond what was there when the parser stood -/
def Far (w : World) (b : Nat) : Prop := w.heap.size ≤ b
theorem PSt.nch (h : PSt w E k agg) {b : Nat} (hb : w.heap.size ≤ b) : ¬ E.Ch b := by
  have h1 := h.lt; have h2 := h.src.lts
  rintro (rfl | rfl) <;> omega
theorem PSt.far {w0 : World} {k0 : Nat} {agg0 : Bool} (h0 : PSt w0 E k0 agg0) (h : PSt w E k agg) (m : Mod (Far w0) w w') : PSt w' E k agg := by
  have h1 := h0.lt; have h2 := h0.src.lts; have h3 := h0.lal
  unfold Far at m
  exact h.mod m (by omega) (by omega) (by omega) (by omega) (fun b hb hc => by have := h3 b hb; omega)
theorem Mod.far {T : Nat → Prop} {w0 : World} (h : Mod T w0 w) (m : Mod (Far w0) w w') : Mod T w0 w' := h.step m fun i hi hf => by unfold Far at hf; omega
theorem PSt.setAgg (h : PSt w E k agg) (b : Bool) : PSt (w.setCell ⟨E.bp, 5, none⟩ (.bool b)) E k b ∧ Mod E.Ch w (w.setCell ⟨E.bp, 5, none⟩ (.bool b)) := by
  have m : Mod (fun b => b = E.bp) w (w.setCell ⟨E.bp, 5, none⟩ (.bool b)) := (Mod.refl (fun b => b = E.bp) w).setCell (p := ⟨E.bp, 5, none⟩) (fun _ => rfl) _
  have hn1 := h.ok.n1
  refine ⟨⟨h.ok, h.src.mod m (fun e => hn1.1 e.symm) (fun e => hn1.2.1 e.symm) (fun e => hn1.2.2.1 e.symm) (fun b hb e => h.ok.n2.2 (by rw [hb, e])), ?_, h.le, fun b hb => Nat.lt_of_lt_of_le (h.lal b hb) m.size⟩, m.mono fun _ _ h => .inl h⟩
  exact heap_setCell_at (j := 5) (.bool b) h.par
theorem itemsOf_len (S : Toks) : S.ts.length ≤ (itemsOf S).length ∧ (itemsOf S).length ≤ S.ts.length + 1 := by
  unfold itemsOf
  split <;> simp
theorem itAt_of (h : E.Ok) (hk : k ≤ E.S.ts.length) : itAt (itemsOf E.S) E.N k = (E.S.tok k, errS E.S k) := by
  unfold itAt itemsOf errS
  rw [List.getD_eq_getElem?_getD]
  by_cases hlt : k < E.S.ts.length
  · rw [List.getElem?_append_left (by simpa using hlt), List.getElem?_map, List.getElem?_eq_getElem hlt]
    have hb := not_bad hlt
    rw [hb, tok_in hlt]; rfl
  · obtain rfl : k = E.S.ts.length := by omega
    rw [List.getElem?_append_right (by simp), tok_out (Nat.le_refl _)]
    by_cases hf : E.S.fault = 0
    · rw [if_pos hf]
      have : E.S.bad E.S.ts.length = false := by unfold Toks.bad; simp [hf]
      rw [this, h.fin hf]; simp
    · rw [if_neg hf]
      have : E.S.bad E.S.ts.length = true := by unfold Toks.bad; simp [hf]
      rw [this]; simp
end

theorem give_any (E : Env) (k : Nat) (agg : Bool) (c : Nat) (w : World) (h : PSt w E k agg) :
    Calls Tryz.prog 107 #[.pointer (some ⟨E.bp, 0, none⟩), .int .i64 c] w fun e w' => e = .panicked (wrongE (c, (E.S.tok k).at_)) ∧ w = w' := by
  have c3 := h.at_
  clear h
  go_enter Tryz.func107, Tryz.ntmps107
  go_wp2_with fail
  exact ⟨rfl, rfl, rfl⟩
/-- what reading may come to -/
def PP {α : Type} (E : Env) (w : World) (r : PR α) (R : α → Ending → World → Prop) (e : Ending) (w' : World) : Prop :=
  (∃ x, r = .error x ∧ e = .panicked (wrongE x) ∧ Mod E.Ch w w') ∨ ∃ a, r = .ok a ∧ R a e w' ∧ Mod E.Ch w w'
theorem errS_eq (S : Toks) (k : Nat) (h : S.Wf) : ((errS S k : Int) != 0) = S.bad k := by
  unfold errS
  cases hb : S.bad k with
  | true =>
    have : S.fault ≠ 0 := by
      unfold Toks.bad at hb
      simp at hb; exact hb.2
    simp; omega
  | false => simp
theorem is_any (E : Env) (k : Nat) (agg : Bool) (a : Option Addr) (c : Nat) (ks : List Nat) (w : World) (h : PSt w E k agg) (hk : Rd w a (its (ks.map fun k : Nat => (k : Int)))) (hl : ks.length < 2 ^ 30) :
    Calls Tryz.prog 106 #[.pointer (some ⟨E.bp, 0, none⟩), .slice a ks.length c] w fun e w' => ((∃ x, isP E.S k ks = .error x ∧ e = .panicked (wrongE x)) ∨ (∃ b, isP E.S k ks = .ok b ∧ e = .returned (.bool b))) ∧ w = w' := by
  have c1 := h.kind
  have c4 := h.err
  have hb := errS_eq E.S k h.ok.wf
  cases hbad : E.S.bad k with
  | true =>
    rw [hbad] at hb
    have HG := Lib.hid (give_any E k agg E.S.fault w h)
    have he : errS E.S k = E.S.fault := by unfold errS; rw [hbad]; rfl
    have HP := Lib.hid (isP_bad (ks := ks) hbad)
    rw [he] at c4 hb
    clear h hk he hbad
    go_enter Tryz.func106, Tryz.ntmps106
    go_wp2_with fail
    refine HG.out.mono ?_
    rintro e w' ⟨rfl, rfl⟩
    go_wp2_with fail
    exact ⟨rfl, .inl ⟨_, HP.out, rfl⟩, rfl⟩
  | false =>
    rw [hbad] at hb
    have HC := Lib.hid (contains_any a c ks (E.S.tok k).kind w hk hl)
    have HP := Lib.hid (isP_val (ks := ks) hbad)
    clear h hk hbad
    generalize (ks.contains (E.S.tok k).kind) = b at *
    go_enter Tryz.func106, Tryz.ntmps106
    go_wp2_with fail
    refine HC.out.mono ?_
    rintro e w' ⟨rfl, rfl⟩
    go_wp2_with fail
    go_ret
    exact ⟨.inr ⟨_, HP.out, rfl⟩, rfl⟩
theorem want_any (E : Env) (k : Nat) (agg : Bool) (a : Option Addr) (c : Nat) (ks : List Nat) (w : World) (h : PSt w E k agg) (hk : Rd w a (its (ks.map fun k : Nat => (k : Int)))) (hl : ks.length < 2 ^ 30) :
    Calls Tryz.prog 105 #[.pointer (some ⟨E.bp, 0, none⟩), .slice a ks.length c] w fun e w' => ((∃ x, wantP E.S k ks = .error x ∧ e = .panicked (wrongE x)) ∨ (wantP E.S k ks = .ok () ∧ e = .returned (.tuple #[]))) ∧ w = w' := by
  have HI := Lib.hid (is_any E k agg a c ks w h hk hl)
  have HG := Lib.hid (give_any E k agg 80 w h)
  have HW : Hid (wantP E.S k ks = (isP E.S k ks).bind fun b => if b = true then .ok () else .error (80, (E.S.tok k).at_)) := rfl
  clear h hk
  go_enter Tryz.func105, Tryz.ntmps105
  go_wp2_with fail
  refine HI.out.mono ?_
  rintro e w' ⟨(⟨x, hx, rfl⟩ | ⟨b, hx, rfl⟩), rfl⟩
  · have HX := Lib.hid hx; clear hx
    go_wp2_with fail
    exact ⟨rfl, .inl ⟨x, by rw [HW.out, HX.out]; rfl, rfl⟩, rfl⟩
  · have HX := Lib.hid hx; clear hx
    cases b with
    | true =>
      go_wp2_with fail
      go_end0
      exact ⟨.inr ⟨by rw [HW.out, HX.out]; rfl, rfl⟩, rfl⟩
    | false =>
      go_wp2_with fail
      refine HG.out.mono ?_
      rintro e w' ⟨rfl, rfl⟩
      go_wp2_with fail
      exact ⟨rfl, .inl ⟨_, by rw [HW.out, HX.out]; rfl, rfl⟩, rfl⟩
theorem step0_any (E : Env) (n : Nat) (agg : Bool) (v1 v2 v3 v4 : Value) (w : World) (ok : E.Ok) (hs : SrcAt w E.la E.lc (itemsOf E.S) E.N n E.bn E.bl E.bt)
    (hp : w.heap[E.bp]? = some (.cells #[E.next, v1, v2, v3, v4, .bool agg] 193 (0, 0))) (hn : n ≤ E.S.ts.length) (hla : ∀ b, blk E.la = some b → b < w.heap.size) :
    Calls Tryz.prog 104 #[.pointer (some ⟨E.bp, 0, none⟩)] w fun e w' => e = .returned (.tuple #[]) ∧ PSt w' E n agg ∧ Mod E.Ch w w' := by
  have hlen := itemsOf_len E.S
  have hl20 := ok.len
  have HN := Lib.hid (ok.next.2 E.la E.lc (itemsOf E.S) E.N n E.bn E.bl E.bt w hs ⟨ok.n1.2.2.2.1, ok.n1.2.2.2.2, ok.n2.1⟩ (by omega) (by omega))
  rw [itAt_of ok hn] at HN
  have hcf := ok.next.1
  have c0 : w.cell? ⟨E.bp, 0, none⟩ = some E.next := cell_at hp rfl
  unfold Env.next at c0
  have HP := Lib.hid hp; have HOK := Lib.hid ok; have HS := Lib.hid hs; have HLA := Lib.hid hla
  have hne : E.bp ≠ E.bn := ok.n1.1
  clear hp hs ok hlen hl20 hla
  go_enter Tryz.func104, Tryz.ntmps104
  go_wp2_with fail
  refine HN.out.mono ?_
  rintro e w1 ⟨bb, rfl, hS1, hM1⟩
  have hp1 := hM1.at HP.out hne
  have f1 : w1.frozen? ⟨E.bp, 1, none⟩ = false := frozen_at hp1
  have f2 : w1.frozen? ⟨E.bp, 2, none⟩ = false := frozen_at hp1
  have f3 : w1.frozen? ⟨E.bp, 3, none⟩ = false := frozen_at hp1
  have f4 : w1.frozen? ⟨E.bp, 4, none⟩ = false := frozen_at hp1
  have d1 := cell_at (j := 1) hp1 rfl
  have d2 := cell_at (j := 2) hp1 rfl
  have d3 := cell_at (j := 3) hp1 rfl
  have d4 := cell_at (j := 4) hp1 rfl
  have HP1 := Lib.hid hp1; have HS1 := Lib.hid hS1; have HM1 := Lib.hid hM1
  clear hp1 hS1 hM1 c0
  unfold tokV
  go_wp2_with fail
  go_end0
  obtain ⟨w5, hw5⟩ : ∃ w5, w5 = ((((w1.setCell ⟨E.bp, 1, none⟩ (.int .i64 (E.S.tok n).kind)).setCell ⟨E.bp, 2, none⟩ (.string (E.S.tok n).text)).setCell ⟨E.bp, 3, none⟩ (.int .i64 (E.S.tok n).at_)).setCell ⟨E.bp, 4, none⟩ (.int .i64 (errS E.S n))) := ⟨_, rfl⟩
  have hp5 : w5.heap[E.bp]? = some (.cells (E.cells n agg) 193 (0, 0)) := by
    have g1 := heap_setCell_at (j := 1) (.int .i64 (E.S.tok n).kind) HP1.out
    have g2 := heap_setCell_at (j := 2) (.string (E.S.tok n).text) g1
    have g3 := heap_setCell_at (j := 3) (.int .i64 (E.S.tok n).at_) g2
    have g4 := heap_setCell_at (j := 4) (.int .i64 (errS E.S n)) g3
    rw [hw5]; exact g4
  have hm5 : Mod (fun b => b = E.bp) w1 w5 := by
    rw [hw5]
    exact ((((Mod.refl (fun b => b = E.bp) w1).setCell (p := ⟨E.bp, 1, none⟩) (fun _ => rfl) _).setCell (p := ⟨E.bp, 2, none⟩) (fun _ => rfl) _).setCell (p := ⟨E.bp, 3, none⟩) (fun _ => rfl) _).setCell (p := ⟨E.bp, 4, none⟩) (fun _ => rfl) _
  rw [← hw5]
  have hn1 := HOK.out.n1
  exact ⟨rfl, ⟨HOK.out, HS1.out.mod hm5 (fun e => hne e.symm) (fun e => hn1.2.1 e.symm) (fun e => hn1.2.2.1 e.symm) (fun b hb e => HOK.out.n2.2 (by rw [hb, e])), hp5, hn, fun b hb => by have := HLA.out b hb; have h1 := HM1.out.size; have h2 := hm5.size; omega⟩, (HM1.out.mono (fun _ _ h => .inr h)).step hm5 (fun i _ h => .inl h)⟩
theorem step_any (E : Env) (k : Nat) (agg : Bool) (w : World) (h : PSt w E k agg) (hk : k < E.S.ts.length) :
    Calls Tryz.prog 104 #[.pointer (some ⟨E.bp, 0, none⟩)] w fun e w' => e = .returned (.tuple #[]) ∧ PSt w' E (k + 1) agg ∧ Mod E.Ch w w' := by
  have hl := itemsOf_len E.S
  have hs := h.src
  rw [Nat.min_eq_left (by omega)] at hs
  exact step0_any E (k + 1) agg _ _ _ _ w h.ok hs h.par hk h.lal
theorem word_any (E : Env) (k : Nat) (agg : Bool) (a : Option Addr) (c : Nat) (ks : List Nat) (w : World) (h : PSt w E k agg) (hk : Rd w a (its (ks.map fun k : Nat => (k : Int)))) (hl : ks.length < 2 ^ 30) (h0 : ks.contains 0 = false) :
    Calls Tryz.prog 121 #[.pointer (some ⟨E.bp, 0, none⟩), .slice a ks.length c] w (PP E w (wordP E.S k ks) fun r e w' => e = .returned (.string r.1) ∧ PSt w' E r.2 agg) := by
  have HW := Lib.hid (want_any E k agg a c ks w h hk hl)
  have HG := Lib.hid (give_any E k agg 84 w h)
  have hsz := h.ok.size k
  have c2 := h.text
  have H := Lib.hid h
  have HD : Hid (wordP E.S k ks = (wantP E.S k ks).bind fun _ => if 4096 < (E.S.tok k).text.size then .error (84, (E.S.tok k).at_) else .ok ((E.S.tok k).text, k + 1)) := rfl
  have HIN : Hid (wantP E.S k ks = .ok () → k < E.S.ts.length) := fun hw => by
    cases hb : E.S.bad k with
    | true => rw [wantP_bad hb] at hw; cases hw
    | false =>
      cases hc : ks.contains (E.S.tok k).kind with
      | true => exact in_of (b := true) hc h0
      | false => rw [wantP_no hb hc] at hw; cases hw
  obtain ⟨s, hse⟩ : ∃ s, s = (E.S.tok k).text := ⟨_, rfl⟩
  rw [← hse] at hsz c2 HD
  clear h hk hse
  go_enter Tryz.func121, Tryz.ntmps121
  go_wp2_with fail
  refine HW.out.mono ?_
  rintro e w' ⟨(⟨x, hx, rfl⟩ | ⟨hx, rfl⟩), rfl⟩
  · have HX := Lib.hid hx; clear hx
    go_wp2_with fail
    exact ⟨rfl, .inl ⟨x, by rw [HD.out, HX.out]; rfl, rfl, Mod.refl _ _⟩⟩
  · have HX := Lib.hid hx
    have HS := Lib.hid (step_any E k agg w H.out (HIN.out hx))
    clear hx
    by_cases hlong : 4096 < s.size
    · have HE := Lib.hid (show wordP E.S k ks = .error (84, (E.S.tok k).at_) by rw [HD.out, HX.out, bind_ok', if_pos hlong])
      go_wp2_with fail
      refine HG.out.mono ?_
      rintro e w' ⟨rfl, rfl⟩
      go_wp2_with fail
      exact ⟨rfl, .inl ⟨_, HE.out, rfl, Mod.refl _ _⟩⟩
    · have HE := Lib.hid (show wordP E.S k ks = .ok (s, k + 1) by rw [HD.out, HX.out, bind_ok', if_neg hlong])
      go_wp2_with fail
      refine HS.out.mono ?_
      rintro e w1 ⟨rfl, hS1, hM1⟩
      have HS1 := Lib.hid hS1; have HM1 := Lib.hid hM1; clear hS1 hM1 c2
      go_wp2_with fail
      go_ret
      exact .inr ⟨_, HE.out, ⟨rfl, HS1.out⟩, HM1.out⟩
theorem mark_any (E : Env) (k : Nat) (agg : Bool) (c : Nat) (w : World) (h : PSt w E k agg) (hc : c ≠ 0) :
    Calls Tryz.prog 115 #[.pointer (some ⟨E.bp, 0, none⟩), .int .i64 c] w (PP E w (markP E.S k c) fun r e w' => e = .returned (.tuple #[]) ∧ PSt w' E r agg) := by
  have HW := Lib.hid (want_any E k agg (some ⟨w.heap.size, 0, none⟩) 1 [c] (w.alloc (.cells #[.int .i64 c] 3)) (h.alloc _) (Rd.new w _ _) (by simp))
  have H := Lib.hid (h.alloc (.cells #[.int .i64 c] 3))
  have HD : Hid (markP E.S k c = (wantP E.S k [c]).bind fun _ => .ok (k + 1)) := rfl
  have HIN : Hid (wantP E.S k [c] = .ok () → k < E.S.ts.length) := fun hw => by
    cases hb : E.S.bad k with
    | true => rw [wantP_bad hb] at hw; cases hw
    | false =>
      cases hcc : ([c] : List Nat).contains (E.S.tok k).kind with
      | true => exact in_of (b := true) hcc (by simp; omega)
      | false => rw [wantP_no hb hcc] at hw; cases hw
  have HM : Hid (Mod E.Ch w (w.alloc (.cells #[.int .i64 c] 3))) := (Mod.refl _ w).alloc _
  clear h
  go_enter Tryz.func115, Tryz.ntmps115
  go_wp2_with fail
  refine HW.out.mono ?_
  rintro e w' ⟨(⟨x, hx, rfl⟩ | ⟨hx, rfl⟩), rfl⟩
  · have HX := Lib.hid hx; clear hx
    go_wp2_with fail
    exact ⟨rfl, .inl ⟨x, by rw [HD.out, HX.out]; rfl, rfl, HM.out⟩⟩
  · have HX := Lib.hid hx
    have HS := Lib.hid (step_any E k agg _ H.out (HIN.out hx))
    clear hx
    have HE := Lib.hid (show markP E.S k c = .ok (k + 1) by rw [HD.out, HX.out]; rfl)
    go_wp2_with fail
    refine HS.out.mono ?_
    rintro e w1 ⟨rfl, hS1, hM1⟩
    have HS1 := Lib.hid hS1; have HM1 := Lib.hid hM1; clear hS1 hM1
    go_wp2_with fail
    go_end0
    exact .inr ⟨_, HE.out, ⟨rfl, HS1.out⟩, HM.out.trans HM1.out⟩
end Go.Proofs.YteecbbnpgmceiaaGreatDoor
/-
  The parser: a term, an aggregate's word, a part of a head.
-/
namespace Go.Proofs.YteecbbnpgmceiaaGreatDoor
open Go Go.RowKit Go.Mine
set_option linter.unusedVariables false
set_option maxHeartbeats 1000000
set_option maxRecDepth 100000

theorem is1 (E : Env) (k : Nat) (agg : Bool) (c : Nat) (w : World) (h : PSt w E k agg) (g : Nat) (z : Int) (hg : g = w.heap.size := by first | rfl | simp) (hz : z = (c : Int) := by rfl) :
    Calls Tryz.prog 106 #[.pointer (some ⟨E.bp, 0, none⟩), .slice (some ⟨g, 0, none⟩) 1 1] (w.alloc (.cells #[.int .i64 z] 3)) fun e w' => ((∃ x, isP E.S k [c] = .error x ∧ e = .panicked (wrongE x)) ∨ (∃ b, isP E.S k [c] = .ok b ∧ e = .returned (.bool b))) ∧ w.alloc (.cells #[.int .i64 z] 3) = w' := by
  subst hg hz
  exact is_any E k agg (some ⟨w.heap.size, 0, none⟩) 1 [c] _ (h.alloc _) (Rd.new w _ _) (by simp)
theorem want1 (E : Env) (k : Nat) (agg : Bool) (c : Nat) (w : World) (h : PSt w E k agg) (g : Nat) (z : Int) (hg : g = w.heap.size := by first | rfl | simp) (hz : z = (c : Int) := by rfl) :
    Calls Tryz.prog 105 #[.pointer (some ⟨E.bp, 0, none⟩), .slice (some ⟨g, 0, none⟩) 1 1] (w.alloc (.cells #[.int .i64 z] 3)) fun e w' => ((∃ x, wantP E.S k [c] = .error x ∧ e = .panicked (wrongE x)) ∨ (wantP E.S k [c] = .ok () ∧ e = .returned (.tuple #[]))) ∧ w.alloc (.cells #[.int .i64 z] 3) = w' := by
  subst hg hz
  exact want_any E k agg (some ⟨w.heap.size, 0, none⟩) 1 [c] _ (h.alloc _) (Rd.new w _ _) (by simp)
theorem PP.pre {α : Type} {E : Env} {w w1 : World} {r : PR α} {R : α → Ending → World → Prop} (m : Mod (fun _ => False) w w1) {e : Ending} {w' : World} (h : PP E w1 r R e w') : PP E w r R e w' := by
  rcases h with ⟨x, h1, h2, h3⟩ | ⟨a, h1, h2, h3⟩
  · exact .inl ⟨x, h1, h2, (m.mono fun _ _ f => f.elim).trans h3⟩
  · exact .inr ⟨a, h1, h2, (m.mono fun _ _ f => f.elim).trans h3⟩
theorem word1 (E : Env) (k : Nat) (agg : Bool) (c : Nat) (w : World) (h : PSt w E k agg) (hc : c ≠ 0) (g : Nat) (z : Int) (hg : g = w.heap.size := by first | rfl | simp) (hz : z = (c : Int) := by rfl) :
    Calls Tryz.prog 121 #[.pointer (some ⟨E.bp, 0, none⟩), .slice (some ⟨g, 0, none⟩) 1 1] (w.alloc (.cells #[.int .i64 z] 3)) (PP E w (wordP E.S k [c]) fun r e w' => e = .returned (.string r.1) ∧ PSt w' E r.2 agg) := by
  subst hg hz
  have h1 := word_any E k agg (some ⟨w.heap.size, 0, none⟩) 1 [c] _ (h.alloc (.cells #[.int .i64 c] 3)) (Rd.new w _ _) (by simp) (by simp; omega)
  exact h1.mono fun e w' h => PP.pre ((Mod.refl _ w).alloc _) h
theorem word2 (E : Env) (k : Nat) (agg : Bool) (c d : Nat) (w : World) (h : PSt w E k agg) (hc : c ≠ 0) (hd : d ≠ 0) (g : Nat) (z y : Int) (hg : g = w.heap.size := by first | rfl | simp) (hz : z = (c : Int) := by rfl) (hy : y = (d : Int) := by rfl) :
    Calls Tryz.prog 121 #[.pointer (some ⟨E.bp, 0, none⟩), .slice (some ⟨g, 0, none⟩) 2 2] (w.alloc (.cells #[.int .i64 z, .int .i64 y] 3)) (PP E w (wordP E.S k [c, d]) fun r e w' => e = .returned (.string r.1) ∧ PSt w' E r.2 agg) := by
  subst hg hz hy
  have h1 := word_any E k agg (some ⟨w.heap.size, 0, none⟩) 2 [c, d] _ (h.alloc (.cells #[.int .i64 c, .int .i64 d] 3)) (Rd.news w [.int .i64 c, .int .i64 d] _) (by simp) (by simp; omega)
  exact h1.mono fun e w' h => PP.pre ((Mod.refl _ w).alloc _) h

def ResTm (E : Env) (agg : Bool) (r : Tm × Nat) (e : Ending) (w' : World) : Prop := e = .returned (tmV r.1) ∧ PSt w' E r.2 agg
theorem term_is (E : Env) (k : Nat) (agg : Bool) (w : World) (h : PSt w E k agg) :
    Calls Tryz.prog 64 #[.pointer (some ⟨E.bp, 0, none⟩)] w (PP E w (termP E.S k) (ResTm E agg)) := by
  have m0 : Mod E.Ch w (w.alloc (.cells #[.int .i64 0, .string ⟨#[]⟩] 100)) := (Mod.refl _ w).alloc _
  have h0 := h.alloc (.cells #[.int .i64 0, .string ⟨#[]⟩] 100)
  have b0 := heap_alloc_new w (.cells #[.int .i64 0, .string ⟨#[]⟩] 100)
  have b1 : ((w.alloc (.cells #[.int .i64 0, .string ⟨#[]⟩] 100)).alloc (.cells #[.int .i64 2] 3)).heap[w.heap.size]? = some (.cells #[.int .i64 0, .string ⟨#[]⟩] 100 (0, 0)) := ((Mod.refl (fun _ => False) _).alloc _).at b0 id
  have h1 := h0.alloc (.cells #[.int .i64 2] 3)
  have m1 := m0.alloc (.cells #[.int .i64 2] 3)
  have HI := Lib.hid (is1 E k agg 2 _ h0 (w.heap.size + 1) 2)
  have HD : Hid (termP E.S k = (isP E.S k [2]).bind fun g => if g = true then (wordP E.S k [2]).bind fun r => .ok (varL r.1, r.2) else (wordP E.S k [1, 3]).bind fun r => .ok (⟨3, r.1⟩, r.2)) := rfl
  have H := Lib.hid h; have H1 := Lib.hid h1; have M1 := Lib.hid m1; have B1 := Lib.hid b1
  clear h h0 m0 b0 b1 h1 m1
  go_enter Tryz.func64, Tryz.ntmps64
  go_wp2_with fail
  refine (HI.out).mono ?_
  rintro e w' ⟨(⟨x, hx, rfl⟩ | ⟨b, hx, rfl⟩), rfl⟩
  · have HX := Lib.hid hx; clear hx
    go_wp2_with fail
    exact ⟨rfl, .inl ⟨x, by rw [HD.out, HX.out]; rfl, rfl, M1.out⟩⟩
  · have HX := Lib.hid hx; clear hx
    obtain ⟨v1, hv1⟩ : ∃ v1, v1 = ((w.alloc (.cells #[.int .i64 0, .string ⟨#[]⟩] 100)).alloc (.cells #[.int .i64 2] 3)) := ⟨_, rfl⟩
    have hz : w.heap.size < v1.heap.size := by rw [hv1]; simp; omega
    rw [← hv1] at H1 M1 B1 ⊢
    clear hv1 HI
    have HE : Hid (∀ (r : ByteArray × Nat) (t : Tm) (w2 w4 : World), termP E.S k = .ok (t, r.2) → PSt w2 E r.2 agg → Mod E.Ch v1 w2 → Mod (Far w) w2 w4 → PP E w (termP E.S k) (ResTm E agg) (.returned (tmV t)) w4) :=
      fun r t w2 w4 h1 h2 h3 h4 => .inr ⟨_, h1, ⟨rfl, H.out.far h2 h4⟩, Mod.far (M1.out.trans h3) h4⟩
    cases b with
    | true =>
      have HW := Lib.hid (word1 E k agg 2 v1 H1.out (by omega) v1.heap.size 2)
      go_wp2_with fail
      refine (HW.out).mono ?_
      rintro e w2 (⟨x, hx, rfl, hM⟩ | ⟨⟨s, k'⟩, hx, ⟨rfl, hS⟩, hM⟩)
      · have HX2 := Lib.hid hx; have HM := Lib.hid hM; clear hx hM
        go_wp2_with fail
        exact ⟨rfl, .inl ⟨x, by rw [HD.out, HX.out, bind_ok', if_pos rfl, HX2.out]; rfl, rfl, M1.out.trans HM.out⟩⟩
      have HX2 := Lib.hid (show termP E.S k = .ok (varL s, k') by rw [HD.out, HX.out, bind_ok', if_pos rfl, hx]; rfl)
      have b2 := hM.at B1.out (H.out.nch (Nat.le_refl _))
      have c0 := cell_at (j := 0) b2 rfl
      have c1 := cell_at (j := 1) b2 rfl
      have f0 : w2.frozen? ⟨w.heap.size, 0, none⟩ = false := frozen_at b2
      have f1 : w2.frozen? ⟨w.heap.size, 1, none⟩ = false := frozen_at b2
      have HM := Lib.hid hM; have HS := Lib.hid hS; have B2 := Lib.hid b2
      clear hx hM hS b2 HW HX B1
      by_cases hs : s = blankB
      · have HX3 : Hid (varL s = ⟨2, emptyB⟩) := by unfold varL; rw [if_pos hs]; exact rfl
        unfold blankB at hs
        subst hs
        go_wp2_with fail
        obtain ⟨s, hss⟩ : ∃ s : ByteArray, s = ⟨#[95]⟩ := ⟨_, rfl⟩
        rw [← hss] at HX2 HX3
        obtain ⟨w4, hw4⟩ : ∃ w4, w4 = ((w2.setCell ⟨w.heap.size, 0, none⟩ (.int .i64 2)).setCell ⟨w.heap.size, 1, none⟩ (.string ⟨#[]⟩)) := ⟨_, rfl⟩
        have b4 : w4.heap[w.heap.size]? = some (.cells #[.int .i64 2, .string ⟨#[]⟩] 100 (0, 0)) := by rw [hw4]; exact heap_setCell_at (j := 1) (.string ⟨#[]⟩) (heap_setCell_at (j := 0) (.int .i64 2) B2.out)
        have m4 : Mod (Far w) w2 w4 := by rw [hw4]; exact ((Mod.refl (Far w) w2).setCell (p := ⟨w.heap.size, 0, none⟩) (fun _ => Nat.le_refl _) _).setCell (p := ⟨w.heap.size, 1, none⟩) (fun _ => Nat.le_refl _) _
        rw [← hw4]
        clear hw4 c0 c1 f0 f1
        have e0 := cell_at (j := 0) b4 rfl
        have e1 := cell_at (j := 1) b4 rfl
        refine bodyPost_ret (v := .agg #[.int .i64 2, .string ⟨#[]⟩]) (by simp [results, Tryz.results64, go_sem, e0, e1]) rfl ?_
        exact HE.out (s, k') ⟨2, ⟨#[]⟩⟩ w2 w4 (by rw [HX2.out, HX3.out]; rfl) HS.out HM.out m4
      · have HX3 : Hid (varL s = ⟨1, s⟩) := by unfold varL; rw [if_neg hs]; exact rfl
        have hse : (s.toList == [95]) = false := by simpa using toList_ne (l := [95]) hs
        clear hs
        go_wp2_with fail
        obtain ⟨w4, hw4⟩ : ∃ w4, w4 = ((w2.setCell ⟨w.heap.size, 0, none⟩ (.int .i64 1)).setCell ⟨w.heap.size, 1, none⟩ (.string s)) := ⟨_, rfl⟩
        have b4 : w4.heap[w.heap.size]? = some (.cells #[.int .i64 1, .string s] 100 (0, 0)) := by rw [hw4]; exact heap_setCell_at (j := 1) (.string s) (heap_setCell_at (j := 0) (.int .i64 1) B2.out)
        have m4 : Mod (Far w) w2 w4 := by rw [hw4]; exact ((Mod.refl (Far w) w2).setCell (p := ⟨w.heap.size, 0, none⟩) (fun _ => Nat.le_refl _) _).setCell (p := ⟨w.heap.size, 1, none⟩) (fun _ => Nat.le_refl _) _
        rw [← hw4]
        clear hw4 c0 c1 f0 f1
        have e0 := cell_at (j := 0) b4 rfl
        have e1 := cell_at (j := 1) b4 rfl
        refine bodyPost_ret (v := .agg #[.int .i64 1, .string s]) (by simp [results, Tryz.results64, go_sem, e0, e1]) rfl ?_
        exact HE.out (s, k') ⟨1, s⟩ w2 w4 (by rw [HX2.out, HX3.out]) HS.out HM.out m4
    | false =>
      have HW := Lib.hid (word2 E k agg 1 3 v1 H1.out (by omega) (by omega) v1.heap.size 1 3)
      go_wp2_with fail
      refine (HW.out).mono ?_
      rintro e w2 (⟨x, hx, rfl, hM⟩ | ⟨⟨s, k'⟩, hx, ⟨rfl, hS⟩, hM⟩)
      · have HX2 := Lib.hid hx; have HM := Lib.hid hM; clear hx hM
        go_wp2_with fail
        exact ⟨rfl, .inl ⟨x, by rw [HD.out, HX.out, bind_ok', if_neg (by simp), HX2.out]; rfl, rfl, M1.out.trans HM.out⟩⟩
      have HX2 := Lib.hid (show termP E.S k = .ok (⟨3, s⟩, k') by rw [HD.out, HX.out, bind_ok', if_neg (by simp), hx]; rfl)
      have b2 := hM.at B1.out (H.out.nch (Nat.le_refl _))
      have c0 := cell_at (j := 0) b2 rfl
      have c1 := cell_at (j := 1) b2 rfl
      have f0 : w2.frozen? ⟨w.heap.size, 0, none⟩ = false := frozen_at b2
      have f1 : w2.frozen? ⟨w.heap.size, 1, none⟩ = false := frozen_at b2
      have HM := Lib.hid hM; have HS := Lib.hid hS; have B2 := Lib.hid b2
      clear hx hM hS b2 HW HX B1
      go_wp2_with fail
      obtain ⟨w4, hw4⟩ : ∃ w4, w4 = ((w2.setCell ⟨w.heap.size, 0, none⟩ (.int .i64 3)).setCell ⟨w.heap.size, 1, none⟩ (.string s)) := ⟨_, rfl⟩
      have b4 : w4.heap[w.heap.size]? = some (.cells #[.int .i64 3, .string s] 100 (0, 0)) := by rw [hw4]; exact heap_setCell_at (j := 1) (.string s) (heap_setCell_at (j := 0) (.int .i64 3) B2.out)
      have m4 : Mod (Far w) w2 w4 := by rw [hw4]; exact ((Mod.refl (Far w) w2).setCell (p := ⟨w.heap.size, 0, none⟩) (fun _ => Nat.le_refl _) _).setCell (p := ⟨w.heap.size, 1, none⟩) (fun _ => Nat.le_refl _) _
      rw [← hw4]
      clear hw4 c0 c1 f0 f1
      have e0 := cell_at (j := 0) b4 rfl
      have e1 := cell_at (j := 1) b4 rfl
      refine bodyPost_ret (v := .agg #[.int .i64 3, .string s]) (by simp [results, Tryz.results64, go_sem, e0, e1]) rfl ?_
      exact HE.out (s, k') ⟨3, s⟩ w2 w4 (by rw [HX2.out]) HS.out HM.out m4

theorem aggregate_any (s : ByteArray) (w : World) :
    Calls Tryz.prog 155 #[.string s] w fun e w' => e = .returned (.int .i64 (aggL s)) ∧ w = w' := by
  obtain ⟨n, hn⟩ : ∃ n, n = aggL s := ⟨_, rfl⟩
  rw [← hn]
  unfold aggL at hn
  by_cases h1 : s = wCount
  · rw [if_pos h1] at hn
    unfold wCount at h1
    subst h1 hn
    go_enter Tryz.func155, Tryz.ntmps155
    go_wp2
    go_ret
    exact ⟨rfl, rfl⟩
  rw [if_neg h1] at hn
  have e1 : (s.toList == [99, 111, 117, 110, 116]) = false := by simpa using toList_ne (l := [99, 111, 117, 110, 116]) h1
  clear h1
  by_cases h2 : s = wSum
  · rw [if_pos h2] at hn
    unfold wSum at h2
    subst h2 hn
    clear e1
    go_enter Tryz.func155, Tryz.ntmps155
    go_wp2
    go_ret
    exact ⟨rfl, rfl⟩
  rw [if_neg h2] at hn
  have e2 : (s.toList == [115, 117, 109]) = false := by simpa using toList_ne (l := [115, 117, 109]) h2
  clear h2
  by_cases h3 : s = wMin
  · rw [if_pos h3] at hn
    unfold wMin at h3
    subst h3 hn
    clear e1 e2
    go_enter Tryz.func155, Tryz.ntmps155
    go_wp2
    go_ret
    exact ⟨rfl, rfl⟩
  rw [if_neg h3] at hn
  have e3 : (s.toList == [109, 105, 110]) = false := by simpa using toList_ne (l := [109, 105, 110]) h3
  clear h3
  by_cases h4 : s = wMax
  · rw [if_pos h4] at hn
    unfold wMax at h4
    subst h4 hn
    clear e1 e2 e3
    go_enter Tryz.func155, Tryz.ntmps155
    go_wp2
    go_ret
    exact ⟨rfl, rfl⟩
  rw [if_neg h4] at hn
  have e4 : (s.toList == [109, 97, 120]) = false := by simpa using toList_ne (l := [109, 97, 120]) h4
  clear h4
  subst hn
  go_enter Tryz.func155, Tryz.ntmps155
  go_wp2
  go_ret
  exact ⟨rfl, rfl⟩
end Go.Proofs.YteecbbnpgmceiaaGreatDoor
/-
  The parser: a part of a head.
-/
namespace Go.Proofs.YteecbbnpgmceiaaGreatDoor
open Go Go.RowKit Go.Mine
set_option linter.unusedVariables false
set_option maxHeartbeats 1000000
set_option maxRecDepth 100000

def ResPt (E : Env) (r : Tm × Nat × Bool) (e : Ending) (w' : World) : Prop := e = .returned (tmV r.1) ∧ PSt w' E r.2.1 r.2.2
theorem is_in {S : Toks} {k c : Nat} (h : isP S k [c] = .ok true) (hc : c ≠ 0) : k < S.ts.length := by
  obtain ⟨h1, h2⟩ := isP_ok h
  exact in_of (b := true) h2 (by simp; omega)
structure PtI (E : Env) (w0 W : World) (k : Nat) (ag : Bool) (g1 : Nat) (x y : Value) : Prop where
  base : ∃ k0 ag0, PSt w0 E k0 ag0
  st : PSt W E k ag
  md : Mod E.Ch w0 W
  b0 : W.heap[w0.heap.size]? = some (.cells #[.int .i64 0, .string ⟨#[]⟩] 100 (0, 0))
  b1 : W.heap[g1]? = some (.cells #[x, y] 100 (0, 0))
  gt : w0.heap.size < g1
section
variable {E : Env} {w0 W W' : World} {k k' g1 : Nat} {ag ag' : Bool} {x y : Value}
theorem PtI.call (h : PtI E w0 W k ag g1 x y) (hs : PSt W' E k' ag') (m : Mod E.Ch W W') : PtI E w0 W' k' ag' g1 x y := by
  obtain ⟨k0, ag0, h0⟩ := h.base
  exact ⟨h.base, hs, h.md.trans m, m.at h.b0 (h0.nch (Nat.le_refl _)), m.at h.b1 (h0.nch (Nat.le_of_lt h.gt)), h.gt⟩
theorem PtI.alloc (h : PtI E w0 W k ag g1 x y) (o : Obj) : PtI E w0 (W.alloc o) k ag g1 x y := h.call (h.st.alloc o) ((Mod.refl _ W).alloc o)
theorem PtI.agg (h : PtI E w0 W k ag g1 x y) (b : Bool) : PtI E w0 (W.setCell ⟨E.bp, 5, none⟩ (.bool b)) k b g1 x y := h.call (h.st.setAgg b).1 (h.st.setAgg b).2
theorem PtI.set0 (h : PtI E w0 W k ag g1 x y) (u : Value) : PtI E w0 (W.setCell ⟨g1, 0, none⟩ u) k ag g1 u y := by
  obtain ⟨k0, ag0, h0⟩ := h.base
  have hg := h.gt
  have m : Mod (Far w0) W (W.setCell ⟨g1, 0, none⟩ u) := (Mod.refl (Far w0) W).setCell (p := ⟨g1, 0, none⟩) (fun _ => Nat.le_of_lt hg) u
  have m2 : Mod (fun b => b = g1) W (W.setCell ⟨g1, 0, none⟩ u) := (Mod.refl (fun b => b = g1) W).setCell (p := ⟨g1, 0, none⟩) (fun _ => rfl) u
  exact ⟨h.base, h0.far h.st m, Mod.far h.md m, m2.at h.b0 (by omega), heap_setCell_at (j := 0) u h.b1, h.gt⟩
theorem PtI.set1 (h : PtI E w0 W k ag g1 x y) (u : Value) : PtI E w0 (W.setCell ⟨g1, 1, none⟩ u) k ag g1 x u := by
  obtain ⟨k0, ag0, h0⟩ := h.base
  have hg := h.gt
  have m : Mod (Far w0) W (W.setCell ⟨g1, 1, none⟩ u) := (Mod.refl (Far w0) W).setCell (p := ⟨g1, 1, none⟩) (fun _ => Nat.le_of_lt hg) u
  have m2 : Mod (fun b => b = g1) W (W.setCell ⟨g1, 1, none⟩ u) := (Mod.refl (fun b => b = g1) W).setCell (p := ⟨g1, 1, none⟩) (fun _ => rfl) u
  exact ⟨h.base, h0.far h.st m, Mod.far h.md m, m2.at h.b0 (by omega), heap_setCell_at (j := 1) u h.b1, h.gt⟩
end
theorem synPart_any (E : Env) (k : Nat) (agg : Bool) (w : World) (h : PSt w E k agg) :
    Calls Tryz.prog 113 #[.pointer (some ⟨E.bp, 0, none⟩)] w (PP E w (partP E.S k agg) (ResPt E)) := by
  have m0 : Mod E.Ch w (w.alloc (.cells #[.int .i64 0, .string ⟨#[]⟩] 100)) := (Mod.refl _ w).alloc _
  have h0 := h.alloc (.cells #[.int .i64 0, .string ⟨#[]⟩] 100)
  have b0 := heap_alloc_new w (.cells #[.int .i64 0, .string ⟨#[]⟩] 100)
  have b1 : ((w.alloc (.cells #[.int .i64 0, .string ⟨#[]⟩] 100)).alloc (.cells #[.int .i64 1] 3)).heap[w.heap.size]? = some (.cells #[.int .i64 0, .string ⟨#[]⟩] 100 (0, 0)) := ((Mod.refl (fun _ => False) _).alloc _).at b0 id
  have h1 := h0.alloc (.cells #[.int .i64 1] 3)
  have m1 := m0.alloc (.cells #[.int .i64 1] 3)
  have HI := Lib.hid (is1 E k agg 1 _ h0 (w.heap.size + 1) 1)
  have HD : Hid (partP E.S k agg = (isP E.S k [1]).bind fun small => (termP E.S k).bind fun r =>
    if small = false ∨ aggL r.1.text = 0 ∨ agg = true then .ok (r.1, r.2, agg) else
      (isP E.S r.2 [4]).bind fun o => if o = false then .ok (r.1, r.2, agg) else
        if aggL r.1.text = 4 then (markP E.S (r.2 + 1) 5).bind fun k2 => .ok (⟨4, emptyB⟩, k2, true)
        else (isP E.S (r.2 + 1) [2]).bind fun g => if g = true ∧ (E.S.tok (r.2 + 1)).text = blankB then .error (80, (E.S.tok (r.2 + 1)).at_) else
          (wordP E.S (r.2 + 1) [2]).bind fun q => (markP E.S q.2 5).bind fun k3 => .ok (⟨aggL r.1.text, q.1⟩, k3, true)) := rfl
  have H := Lib.hid h; have H1 := Lib.hid h1; have M1 := Lib.hid m1; have B1 := Lib.hid b1
  have HE : Hid (∀ (t : Tm) (k' : Nat) (ag : Bool) (W W4 : World), partP E.S k agg = .ok (t, k', ag) → PSt W E k' ag → Mod E.Ch w W → Mod (Far w) W W4 → PP E w (partP E.S k agg) (ResPt E) (.returned (tmV t)) W4) :=
    fun t k' ag W W4 h1 h2 h3 h4 => .inr ⟨_, h1, ⟨rfl, h.far h2 h4⟩, Mod.far h3 h4⟩
  clear h h0 m0 b0 b1 h1 m1
  go_enter Tryz.func113, Tryz.ntmps113
  go_wp2_with fail
  refine (HI.out).mono ?_
  rintro e w' ⟨(⟨x, hx, rfl⟩ | ⟨b, hx, rfl⟩), rfl⟩
  · have HX := Lib.hid hx; clear hx
    go_wp2_with fail
    exact ⟨rfl, .inl ⟨x, by rw [HD.out, HX.out]; rfl, rfl, M1.out⟩⟩
  have HX := Lib.hid hx; clear hx
  obtain ⟨v1, hv1⟩ : ∃ v1, v1 = ((w.alloc (.cells #[.int .i64 0, .string ⟨#[]⟩] 100)).alloc (.cells #[.int .i64 1] 3)) := ⟨_, rfl⟩
  have hz : w.heap.size < v1.heap.size := by rw [hv1]; simp; omega
  rw [← hv1] at H1 M1 B1 ⊢
  clear hv1 HI
  have HT := Lib.hid (term_is E k agg v1 H1.out)
  go_wp2_with fail
  refine (HT.out).mono ?_
  rintro e w2 (⟨x, hx, rfl, hM⟩ | ⟨⟨⟨tk, s⟩, k'⟩, hx, ⟨rfl, hS⟩, hM⟩)
  · have HX2 := Lib.hid hx; have HM := Lib.hid hM; clear hx hM
    go_wp2_with fail
    exact ⟨rfl, .inl ⟨x, by rw [HD.out, HX.out, bind_ok', HX2.out]; rfl, rfl, M1.out.trans HM.out⟩⟩
  have HX2 := Lib.hid hx
  simp only [tmV] at hS ⊢
  have hM2 := M1.out.trans hM
  have hs2 := hM.size
  obtain ⟨w3, hw3⟩ : ∃ w3, w3 = w2.alloc (.cells #[.int .i64 tk, .string s] 100) := ⟨_, rfl⟩
  have b3 : w3.heap[w2.heap.size]? = some (.cells #[.int .i64 tk, .string s] 100 (0, 0)) := by rw [hw3]; exact heap_alloc_new w2 _
  have m3 : Mod (fun _ => False) w2 w3 := by rw [hw3]; exact (Mod.refl _ w2).alloc _
  have hs3 : w3.heap.size = w2.heap.size + 1 := by rw [hw3]; simp
  have b2 := m3.at (hM.at B1.out (H.out.nch (Nat.le_refl _))) id
  have HM3 := Lib.hid (hM2.trans (m3.mono fun _ _ f => f.elim))
  have HS3 := Lib.hid (hS.mod0 m3)
  have HW3 := Lib.hid hw3
  clear hx hS hM hw3 m3 hM2 HT H1 M1 B1 hs3
  have HG := Lib.hid (aggregate_any s)
  go_wp2_with fail
  rw [← HW3.out]
  clear HW3
  refine (HG.out _).mono ?_
  rintro e w' ⟨rfl, rfl⟩
  have c0 := cell_at (j := 0) b2 rfl
  have c1 := cell_at (j := 1) b2 rfl
  have f0 : w3.frozen? ⟨w.heap.size, 0, none⟩ = false := frozen_at b2
  have f1 : w3.frozen? ⟨w.heap.size, 1, none⟩ = false := frozen_at b2
  have d0 := cell_at (j := 0) b3 rfl
  have d1 := cell_at (j := 1) b3 rfl
  have B2 := Lib.hid b2; have B3 := Lib.hid b3
  have H3 := HS3.out.aggC
  have HA : Hid (∀ P : b = false ∨ aggL s = 0 ∨ agg = true, partP E.S k agg = .ok (⟨tk, s⟩, k', agg)) := fun P => by
    rw [HD.out, HX.out, bind_ok', HX2.out, bind_ok', if_pos P]
  have HN : Hid (∀ P : ¬ (b = false ∨ aggL s = 0 ∨ agg = true), partP E.S k agg = (isP E.S k' [4]).bind fun o => if o = false then .ok (⟨tk, s⟩, k', agg) else
        if aggL s = 4 then (markP E.S (k' + 1) 5).bind fun k2 => .ok (⟨4, emptyB⟩, k2, true)
        else (isP E.S (k' + 1) [2]).bind fun g => if g = true ∧ (E.S.tok (k' + 1)).text = blankB then .error (80, (E.S.tok (k' + 1)).at_) else
          (wordP E.S (k' + 1) [2]).bind fun q => (markP E.S q.2 5).bind fun k3 => .ok (⟨aggL s, q.1⟩, k3, true)) := fun P => by
    rw [HD.out, HX.out, bind_ok', HX2.out, bind_ok', if_neg P]
  clear b2 b3 HD HX HX2 HG
  obtain ⟨n, hn⟩ : ∃ n, n = aggL s := ⟨_, rfl⟩
  rw [← hn] at HA HN ⊢
  have HNN := Lib.hid hn; clear hn
  by_cases hP : b = false ∨ n = 0 ∨ agg = true
  · have HP := Lib.hid (HA.out hP)
    clear HA HN
    have hway : b = false ∨ (b = true ∧ n = 0) ∨ (b = true ∧ 0 < n ∧ agg = true) := by
      cases b with
      | false => exact .inl rfl
      | true =>
        rcases hP with h | h | h
        · cases h
        · exact .inr (.inl ⟨rfl, h⟩)
        · by_cases h0 : n = 0
          · exact .inr (.inl ⟨rfl, h0⟩)
          · exact .inr (.inr ⟨rfl, by omega, h⟩)
    clear hP
    rcases hway with rfl | ⟨rfl, rfl⟩ | ⟨rfl, hn, rfl⟩
    all_goals
      go_wp2_with fail
      obtain ⟨w9, hw9⟩ : ∃ w9, w9 = (((w3).setCell ⟨w.heap.size, 0, none⟩ (.int .i64 tk)).setCell ⟨w.heap.size, 1, none⟩ (.string s)) := ⟨_, rfl⟩
      have b9 : w9.heap[w.heap.size]? = some (.cells #[.int .i64 tk, .string s] 100 (0, 0)) := by rw [hw9]; exact heap_setCell_at (j := 1) (.string s) (heap_setCell_at (j := 0) (.int .i64 tk) (B2.out))
      have m9 : Mod (Far w) (w3) w9 := by rw [hw9]; exact ((Mod.refl (Far w) _).setCell (p := ⟨w.heap.size, 0, none⟩) (fun _ => Nat.le_refl _) _).setCell (p := ⟨w.heap.size, 1, none⟩) (fun _ => Nat.le_refl _) _
      rw [← hw9]
      clear hw9
      have e0 := cell_at (j := 0) b9 rfl
      have e1 := cell_at (j := 1) b9 rfl
      refine bodyPost_ret (v := .agg #[.int .i64 tk, .string s]) (by simp [results, Tryz.results113, go_sem, e0, e1]) rfl ?_
      exact HE.out ⟨tk, s⟩ k' _ w3 _ HP.out HS3.out HM3.out m9
  · have HP := Lib.hid (HN.out hP)
    clear HA HN
    have hb : b = true := by cases b with
      | true => rfl
      | false => exact absurd (.inl rfl) hP
    have hag : agg = false := by cases agg with
      | false => rfl
      | true => exact absurd (.inr (.inr rfl)) hP
    have hn : 0 < n := by
      by_cases h0 : n = 0
      · exact absurd (.inr (.inl h0)) hP
      · omega
    subst hb hag
    clear hP
    have HI4 := Lib.hid (is1 E k' false 4 w3 HS3.out w3.heap.size 4)
    have hI4 := (PtI.mk ⟨_, _, H.out⟩ HS3.out HM3.out B2.out B3.out (by omega)).alloc (.cells #[.int .i64 4] 3)
    have HT4 := Lib.hid hI4; clear hI4
    go_wp2_with fail
    refine (HI4.out).mono ?_
    rintro e w' ⟨(⟨x, hx, rfl⟩ | ⟨b, hx, rfl⟩), rfl⟩
    · have HX9 := Lib.hid hx; clear hx
      go_wp2_with fail
      exact ⟨rfl, .inl ⟨x, by rw [HP.out, HX9.out]; rfl, rfl, HT4.out.md⟩⟩
    obtain ⟨w4, hw4⟩ : ∃ w4, w4 = w3.alloc (.cells #[.int .i64 4] 3) := ⟨_, rfl⟩
    rw [← hw4] at HT4 ⊢
    clear hw4 HI4 c0 c1 f0 f1 d0 d1 H3 B2 B3 HS3 HM3 hs2
    generalize w2.heap.size = g1 at *
    have c0 := cell_at (j := 0) HT4.out.b0 rfl
    have c1 := cell_at (j := 1) HT4.out.b0 rfl
    have f0 : w4.frozen? ⟨w.heap.size, 0, none⟩ = false := frozen_at HT4.out.b0
    have f1 : w4.frozen? ⟨w.heap.size, 1, none⟩ = false := frozen_at HT4.out.b0
    have d0 := cell_at (j := 0) HT4.out.b1 rfl
    have d1 := cell_at (j := 1) HT4.out.b1 rfl
    cases b with
    | false =>
      have HP2 := Lib.hid (show partP E.S k false = .ok (⟨tk, s⟩, k', false) by rw [HP.out, hx, bind_ok', if_pos rfl])
      clear hx HP
      go_wp2_with fail
      obtain ⟨w9, hw9⟩ : ∃ w9, w9 = (((w4).setCell ⟨w.heap.size, 0, none⟩ (.int .i64 tk)).setCell ⟨w.heap.size, 1, none⟩ (.string s)) := ⟨_, rfl⟩
      have b9 : w9.heap[w.heap.size]? = some (.cells #[.int .i64 tk, .string s] 100 (0, 0)) := by rw [hw9]; exact heap_setCell_at (j := 1) (.string s) (heap_setCell_at (j := 0) (.int .i64 tk) (HT4.out.b0))
      have m9 : Mod (Far w) (w4) w9 := by rw [hw9]; exact ((Mod.refl (Far w) _).setCell (p := ⟨w.heap.size, 0, none⟩) (fun _ => Nat.le_refl _) _).setCell (p := ⟨w.heap.size, 1, none⟩) (fun _ => Nat.le_refl _) _
      rw [← hw9]
      clear hw9
      have e0 := cell_at (j := 0) b9 rfl
      have e1 := cell_at (j := 1) b9 rfl
      refine bodyPost_ret (v := .agg #[.int .i64 tk, .string s]) (by simp [results, Tryz.results113, go_sem, e0, e1]) rfl ?_
      exact HE.out ⟨tk, s⟩ k' _ w4 _ HP2.out HT4.out.st HT4.out.md m9
    | true =>
      have hlt := is_in hx (by omega)
      have HP2 := Lib.hid (HP.out.trans (by rw [hx, bind_ok', if_neg (by simp)]))
      have a5 := HT4.out.st.aggC
      have af5 := HT4.out.st.fz 5
      have HT5 := Lib.hid (HT4.out.agg true)
      have HS := Lib.hid (step_any E k' true _ HT5.out.st hlt)
      clear hx HP c0 c1 f0 f1 d0 d1
      go_wp2_with fail
      refine HS.out.mono ?_
      rintro e w6 ⟨rfl, hS6, hM6⟩
      have HT6 := Lib.hid (HT5.out.call hS6 hM6)
      clear hS6 hM6 HS HT5 HT4 a5 af5
      have d0 := cell_at (j := 0) HT6.out.b1 rfl
      have d1 := cell_at (j := 1) HT6.out.b1 rfl
      have p0 : w6.frozen? ⟨g1, 0, none⟩ = false := frozen_at HT6.out.b1
      have p1 : w6.frozen? ⟨g1, 1, none⟩ = false := frozen_at HT6.out.b1
      have HT7 := Lib.hid ((HT6.out.set0 (.int .i64 n)).set1 (.string ⟨#[]⟩))
      by_cases h4 : n = 4
      · have HP3 := Lib.hid (HP2.out.trans (if_pos h4))
        subst h4
        have HMK := Lib.hid (mark_any E (k' + 1) true 5 _ HT7.out.st (by omega))
        clear HP2
        go_wp2_with fail
        refine (HMK.out).mono ?_
        rintro e w8 (⟨x, hx, rfl, hM⟩ | ⟨k3, hx, ⟨rfl, hS⟩, hM⟩)
        · have HX9 := Lib.hid hx; have HM9 := Lib.hid (HT7.out.md.trans hM); clear hx hM
          go_wp2_with fail
          exact ⟨rfl, .inl ⟨x, by rw [HP3.out, HX9.out]; rfl, rfl, HM9.out⟩⟩
        have HX9 := Lib.hid (show partP E.S k false = .ok (⟨4, ⟨#[]⟩⟩, k3, true) by rw [HP3.out, hx]; rfl)
        have HT8 := Lib.hid (HT7.out.call hS hM)
        clear hx hM hS d0 d1 p0 p1 HT7 HMK
        have c0 := cell_at (j := 0) HT8.out.b0 rfl
        have c1 := cell_at (j := 1) HT8.out.b0 rfl
        have f0 : w8.frozen? ⟨w.heap.size, 0, none⟩ = false := frozen_at HT8.out.b0
        have f1 : w8.frozen? ⟨w.heap.size, 1, none⟩ = false := frozen_at HT8.out.b0
        have d0 := cell_at (j := 0) HT8.out.b1 rfl
        have d1 := cell_at (j := 1) HT8.out.b1 rfl
        go_wp2_with fail
        obtain ⟨w9, hw9⟩ : ∃ w9, w9 = (((w8).setCell ⟨w.heap.size, 0, none⟩ (.int .i64 4)).setCell ⟨w.heap.size, 1, none⟩ (.string ⟨#[]⟩)) := ⟨_, rfl⟩
        have b9 : w9.heap[w.heap.size]? = some (.cells #[.int .i64 4, .string ⟨#[]⟩] 100 (0, 0)) := by rw [hw9]; exact heap_setCell_at (j := 1) (.string ⟨#[]⟩) (heap_setCell_at (j := 0) (.int .i64 4) (HT8.out.b0))
        have m9 : Mod (Far w) (w8) w9 := by rw [hw9]; exact ((Mod.refl (Far w) _).setCell (p := ⟨w.heap.size, 0, none⟩) (fun _ => Nat.le_refl _) _).setCell (p := ⟨w.heap.size, 1, none⟩) (fun _ => Nat.le_refl _) _
        rw [← hw9]
        clear hw9
        have e0 := cell_at (j := 0) b9 rfl
        have e1 := cell_at (j := 1) b9 rfl
        refine bodyPost_ret (v := .agg #[.int .i64 4, .string ⟨#[]⟩]) (by simp [results, Tryz.results113, go_sem, e0, e1]) rfl ?_
        exact HE.out ⟨4, ⟨#[]⟩⟩ k3 _ w8 _ HX9.out HT8.out.st HT8.out.md m9
      · have HP3 := Lib.hid (HP2.out.trans (if_neg h4))
        have hb4 : ((n : Int) != 4) = true := by simp; omega
        clear HP2 h4
        have HI2 := Lib.hid (is1 E (k' + 1) true 2 _ HT7.out.st ((w6.setCell ⟨g1, 0, none⟩ (.int .i64 n)).setCell ⟨g1, 1, none⟩ (.string ⟨#[]⟩)).heap.size 2)
        simp only [World.size_setCell] at HI2
        have HT8 := Lib.hid (HT7.out.alloc (.cells #[.int .i64 2] 3))
        go_wp2_with fail
        refine (HI2.out).mono ?_
        rintro e w' ⟨(⟨x, hx, rfl⟩ | ⟨b, hx, rfl⟩), rfl⟩
        · have HX9 := Lib.hid hx; clear hx
          go_wp2_with fail
          exact ⟨rfl, .inl ⟨x, by rw [HP3.out, HX9.out]; rfl, rfl, HT8.out.md⟩⟩
        obtain ⟨w8, hw8⟩ : ∃ w8, w8 = ((w6.setCell ⟨g1, 0, none⟩ (.int .i64 n)).setCell ⟨g1, 1, none⟩ (.string ⟨#[]⟩)).alloc (.cells #[.int .i64 2] 3) := ⟨_, rfl⟩
        rw [← hw8] at HT8 ⊢
        clear hw8 HI2 HT7 HT6 d0 d1 p0 p1
        have a2 := HT8.out.st.text
        obtain ⟨tx, htx⟩ : ∃ tx, tx = (E.S.tok (k' + 1)).text := ⟨_, rfl⟩
        rw [← htx] at a2 HP3
        by_cases hbl : b = true ∧ tx = blankB
        · have HX9 := Lib.hid (show partP E.S k false = .error (80, (E.S.tok (k' + 1)).at_) by rw [HP3.out, hx, bind_ok', if_pos hbl])
          have HG := Lib.hid (give_any E (k' + 1) true 80 _ HT8.out.st)
          obtain ⟨rfl, hbl⟩ := hbl
          unfold blankB at hbl
          subst hbl
          clear hx
          have HTX := Lib.hid htx; clear htx
          go_wp2_with fail
          refine HG.out.mono ?_
          rintro e w' ⟨rfl, rfl⟩
          go_wp2_with fail
          exact ⟨rfl, .inl ⟨_, HX9.out, rfl, HT8.out.md⟩⟩
        · have HX9 := Lib.hid (show partP E.S k false = (wordP E.S (k' + 1) [2]).bind fun q => (markP E.S q.2 5).bind fun k3 => .ok (⟨n, q.1⟩, k3, true) by rw [HP3.out, hx, bind_ok', if_neg hbl])
          have HTX := Lib.hid htx
          have HW := Lib.hid (word1 E (k' + 1) true 2 _ HT8.out.st (by omega) w8.heap.size 2)
          have hway : b = false ∨ (b = true ∧ (tx.toList == [95]) = false) := by
            cases b with
            | false => exact .inl rfl
            | true => exact .inr ⟨rfl, by simpa using toList_ne (l := [95]) (fun h => hbl ⟨rfl, h⟩)⟩
          clear hbl hx HP3 htx
          rcases hway with rfl | ⟨rfl, hne⟩
          all_goals
            go_wp2_with fail
            refine HW.out.mono ?_
            rintro e w9 (⟨x, hx, rfl, hM⟩ | ⟨⟨q, k9⟩, hx, ⟨rfl, hS⟩, hM⟩)
            · have HXE := Lib.hid hx; have HME := Lib.hid (HT8.out.md.trans hM); clear hx hM
              go_wp2_with fail
              exact ⟨rfl, .inl ⟨x, by rw [HX9.out, HXE.out]; rfl, rfl, HME.out⟩⟩
            have HXB := Lib.hid (show partP E.S k false = (markP E.S k9 5).bind fun k3 => .ok (⟨n, q⟩, k3, true) by rw [HX9.out, hx]; rfl)
            have HT9 := Lib.hid (HT8.out.call hS hM)
            clear hx hM hS HW HT8 a2
            have d0 := cell_at (j := 0) HT9.out.b1 rfl
            have d1 := cell_at (j := 1) HT9.out.b1 rfl
            have p1 : w9.frozen? ⟨g1, 1, none⟩ = false := frozen_at HT9.out.b1
            have HT10 := Lib.hid (HT9.out.set1 (.string q))
            have HMK := Lib.hid (mark_any E k9 true 5 _ HT10.out.st (by omega))
            go_wp2_with fail
            refine (HMK.out).mono ?_
            rintro e w11 (⟨x, hx, rfl, hM⟩ | ⟨k3, hx, ⟨rfl, hS⟩, hM⟩)
            · have HXE := Lib.hid hx; have HME := Lib.hid (HT10.out.md.trans hM); clear hx hM
              go_wp2_with fail
              exact ⟨rfl, .inl ⟨x, by rw [HXB.out, HXE.out]; rfl, rfl, HME.out⟩⟩
            have HXC := Lib.hid (show partP E.S k false = .ok (⟨n, q⟩, k3, true) by rw [HXB.out, hx]; rfl)
            have HT11 := Lib.hid (HT10.out.call hS hM)
            clear hx hM hS d0 d1 p1 HT10 HT9 HMK
            have c0 := cell_at (j := 0) HT11.out.b0 rfl
            have c1 := cell_at (j := 1) HT11.out.b0 rfl
            have f0 : w11.frozen? ⟨w.heap.size, 0, none⟩ = false := frozen_at HT11.out.b0
            have f1 : w11.frozen? ⟨w.heap.size, 1, none⟩ = false := frozen_at HT11.out.b0
            have d0 := cell_at (j := 0) HT11.out.b1 rfl
            have d1 := cell_at (j := 1) HT11.out.b1 rfl
            go_wp2_with fail
            obtain ⟨w9, hw9⟩ : ∃ w9, w9 = (((w11).setCell ⟨w.heap.size, 0, none⟩ (.int .i64 n)).setCell ⟨w.heap.size, 1, none⟩ (.string q)) := ⟨_, rfl⟩
            have b9 : w9.heap[w.heap.size]? = some (.cells #[.int .i64 n, .string q] 100 (0, 0)) := by rw [hw9]; exact heap_setCell_at (j := 1) (.string q) (heap_setCell_at (j := 0) (.int .i64 n) (HT11.out.b0))
            have m9 : Mod (Far w) (w11) w9 := by rw [hw9]; exact ((Mod.refl (Far w) _).setCell (p := ⟨w.heap.size, 0, none⟩) (fun _ => Nat.le_refl _) _).setCell (p := ⟨w.heap.size, 1, none⟩) (fun _ => Nat.le_refl _) _
            rw [← hw9]
            clear hw9
            have e0 := cell_at (j := 0) b9 rfl
            have e1 := cell_at (j := 1) b9 rfl
            refine bodyPost_ret (v := .agg #[.int .i64 n, .string q]) (by simp [results, Tryz.results113, go_sem, e0, e1]) rfl ?_
            exact HE.out ⟨n, q⟩ k3 _ w11 _ HXC.out HT11.out.st HT11.out.md m9
end Go.Proofs.YteecbbnpgmceiaaGreatDoor
/-
  Slices cut to their length; slices.Clip.
-/
namespace Go.Proofs.YteecbbnpgmceiaaGreatDoor
open Go Go.RowKit Go.Mine
set_option linter.unusedVariables false
set_option maxHeartbeats 1000000
set_option maxRecDepth 100000

/-- a slice of the call's own, cut to its length -/
def Clp (w : World) (e : TypeId) (k : Nat) (a : Option Addr) (n : Nat) (xs : List Value) : Prop :=
  xs.length = n * k ∧ ((a = none ∧ n = 0) ∨ ∃ b cur, a = some ⟨b, 0, none⟩ ∧ w.heap[b]? = some (.cells cur e (0, 0)) ∧ n * k ≤ cur.size ∧ cur.toList.take (n * k) = xs)
section
variable {w w' : World} {e : TypeId} {k : Nat} {a : Option Addr} {n c : Nat} {xs : List Value}
theorem Clp.of (h : Mine.Own w e k a n c xs) : Clp w e k a n xs := by
  refine ⟨h.1, ?_⟩
  rcases h.2 with ⟨h1, h2, _⟩ | ⟨b, cur, h1, h2, h3, h4, h5, h6⟩
  · exact .inl ⟨h1, h2⟩
  · exact .inr ⟨b, cur, h1, h2, by rw [h5]; exact Nat.mul_le_mul_right _ h3, h6⟩
theorem Clp.mod {T : Nat → Prop} (h : Clp w e k a n xs) (m : Mod T w w') (hs : ∀ b, blk a = some b → ¬ T b) : Clp w' e k a n xs := by
  refine ⟨h.1, ?_⟩
  rcases h.2 with h1 | ⟨b, cur, rfl, h2, rest⟩
  · exact .inl h1
  · exact .inr ⟨b, cur, rfl, m.at h2 (hs b rfl), rest⟩
theorem Clp.lt (h : Clp w e k a n xs) : ∀ b, blk a = some b → b < w.heap.size := by
  intro b hb
  rcases h.2 with ⟨rfl, _⟩ | ⟨b', cur, rfl, h2, rest⟩
  · simp at hb
  · simp at hb; subst hb; exact (Array.getElem?_eq_some_iff.1 h2).1
theorem Clp.rd (h : Clp w e k a n xs) : Rd w a xs := by
  intro i u hu
  rcases h.2 with ⟨rfl, rfl⟩ | ⟨b, cur, rfl, hg, _, htake⟩
  · have := h.1; simp at this; subst this; simp at hu
  · refine ⟨b, 0, rfl, ?_⟩
    rw [Nat.zero_add, cell_of_row w b i cur e (0, 0) hg]
    rw [← htake, List.getElem?_take] at hu
    split at hu
    · simpa using hu
    · cases hu
end
theorem run_clip {P : Program} {t e : TypeId} {k bytes : Nat} (ti : TI P t e k bytes) (a : Option Addr) (n c : Nat) (h : n ≤ c) (ha : ∀ x, a = some x → ∃ b, x = ⟨b, 0, none⟩) (w : World) :
    (Instr.slice t (.slice a n c) none (some (.int .i64 n)) (some (.int .i64 n))).run P w = .ok (.slice a n n) w := by
  obtain ⟨i, z, hinf, hz, rfl, rfl, hzs⟩ := ti.ex
  simp [Instr.slice, run_underlying ti.ht, Instr.sliceBounds, Instr.sliceBound, asIntOf, h, sizeOf, typeInfo, hinf]
  intro _
  cases a with
  | none => rfl
  | some x => obtain ⟨b, rfl⟩ := ha x rfl; rfl
theorem own_head {w : World} {e : TypeId} {k : Nat} {a : Option Addr} {n c : Nat} {xs : List Value} (h : Mine.Own w e k a n c xs) : (n ≤ c) ∧ (∀ x, a = some x → ∃ b, x = ⟨b, 0, none⟩) := by
  rcases h.2 with ⟨rfl, rfl, rfl⟩ | ⟨b, cur, rfl, _, h3, _⟩
  · exact ⟨Nat.le_refl _, fun _ h => by cases h⟩
  · exact ⟨h3, fun x h => by cases h; exact ⟨b, rfl⟩⟩
theorem clipT_any (a : Option Addr) (n c : Nat) (xs : List Value) (w : World) (h : Mine.Own w 100 2 a n c xs) (hn : n < 2 ^ 30) :
    Calls Tryz.prog 158 #[.slice a n c] w fun e w' => e = .returned (.slice a n n) ∧ w = w' := by
  have hr := run_clip tiT a n c (own_head h).1 (own_head h).2 w
  clear h
  go_enter Tryz.func158, Tryz.ntmps158
  go_wp2
  go_ret
  exact ⟨rfl, rfl⟩
theorem clipL_any (a : Option Addr) (n c : Nat) (xs : List Value) (w : World) (h : Mine.Own w 102 8 a n c xs) (hn : n < 2 ^ 30) :
    Calls Tryz.prog 116 #[.slice a n c] w fun e w' => e = .returned (.slice a n n) ∧ w = w' := by
  have hr := run_clip tiL a n c (own_head h).1 (own_head h).2 w
  clear h
  go_enter Tryz.func116, Tryz.ntmps116
  go_wp2
  go_ret
  exact ⟨rfl, rfl⟩
theorem clipR_any (a : Option Addr) (n c : Nat) (xs : List Value) (w : World) (h : Mine.Own w 46 3 a n c xs) (hn : n < 2 ^ 30) :
    Calls Tryz.prog 108 #[.slice a n c] w fun e w' => e = .returned (.slice a n n) ∧ w = w' := by
  have hr := run_clip tiR a n c (own_head h).1 (own_head h).2 w
  clear h
  go_enter Tryz.func108, Tryz.ntmps108
  go_wp2
  go_ret
  exact ⟨rfl, rfl⟩

/-- terms that were made anew: where they lie -/
def TsF (w : World) (lo : Nat) (v : Value) (ts : List Tm) (bs : List Nat) : Prop :=
  ∃ a, v = .slice a ts.length ts.length ∧ Clp w 100 2 a ts.length (tmsC ts) ∧ bs = (blk a).toList ∧ ∀ b ∈ bs, lo ≤ b
/-- literals that were made anew -/
def LsF (w : World) (lo : Nat) (v : Value) (ls : List Lm) (bs : List Nat) : Prop :=
  ∃ (a : Option Addr) (xs : List (Lm × Value)) (bss : List (List Nat)), v = .slice a ls.length ls.length ∧ Clp w 102 8 a ls.length (lmsC xs) ∧ xs.map Prod.fst = ls ∧
    xs.length = bss.length ∧ (∀ (i : Nat) (x : Lm × Value) (b : List Nat), xs[i]? = some x → bss[i]? = some b → TsF w lo x.2 x.1.atom.terms b) ∧ bs = (blk a).toList ++ bss.flatten ∧ bs.Nodup ∧ ∀ b ∈ bs, lo ≤ b
section
variable {w w' : World} {lo : Nat} {v : Value} {ts : List Tm} {ls : List Lm} {bs : List Nat}
theorem TsF.lt (h : TsF w lo v ts bs) : ∀ b ∈ bs, b < w.heap.size := by
  obtain ⟨a, _, hc, rfl, _⟩ := h
  intro b hb
  exact hc.lt b (by simpa using hb)
theorem TsF.nodup (h : TsF w lo v ts bs) : bs.Nodup := by
  obtain ⟨a, _, _, rfl, _⟩ := h
  cases blk a <;> simp
theorem TsF.mod {T : Nat → Prop} (h : TsF w lo v ts bs) (m : Mod T w w') (hs : ∀ b ∈ bs, ¬ T b) : TsF w' lo v ts bs := by
  obtain ⟨a, e, hc, rfl, hl⟩ := h
  exact ⟨a, e, hc.mod m (fun b hb => hs b (by simp [hb])), rfl, hl⟩
theorem TsF.at_ (h : TsF w lo v ts bs) : TsAt w v ts := by
  obtain ⟨a, e, hc, _, _⟩ := h
  exact ⟨a, _, e, hc.rd⟩
theorem TsF.mono {lo' : Nat} (h : TsF w lo v ts bs) (hl : lo' ≤ lo) : TsF w lo' v ts bs := by
  obtain ⟨a, e, hc, hb, h4⟩ := h
  exact ⟨a, e, hc, hb, fun b hb => Nat.le_trans hl (h4 b hb)⟩
theorem mem_flat {bss : List (List Nat)} {i : Nat} {b : List Nat} (h : bss[i]? = some b) {x : Nat} (hx : x ∈ b) : x ∈ bss.flatten :=
  List.mem_flatten.2 ⟨b, List.mem_of_getElem? h, hx⟩
theorem LsF.lt (h : LsF w lo v ls bs) : ∀ b ∈ bs, b < w.heap.size := by
  obtain ⟨a, xs, bss, _, hc, hx, hl, ht, rfl, _, _⟩ := h
  intro b hb
  rcases List.mem_append.1 hb with hb | hb
  · exact hc.lt b (by simpa using hb)
  · obtain ⟨l, hl1, hl2⟩ := List.mem_flatten.1 hb
    obtain ⟨i, hi, rfl⟩ := List.getElem_of_mem hl1
    have hi' : i < xs.length := by omega
    exact (ht i xs[i] bss[i] (List.getElem?_eq_getElem hi') (List.getElem?_eq_getElem hi)).lt b hl2
theorem LsF.mod {T : Nat → Prop} (h : LsF w lo v ls bs) (m : Mod T w w') (hs : ∀ b ∈ bs, ¬ T b) : LsF w' lo v ls bs := by
  obtain ⟨a, xs, bss, e, hc, hx, hl, ht, rfl, hn, h4⟩ := h
  refine ⟨a, xs, bss, e, hc.mod m (fun b hb => hs b (by simp [hb])), hx, hl, fun i x b h1 h2 => (ht i x b h1 h2).mod m fun y hy => hs y ?_, rfl, hn, h4⟩
  exact List.mem_append.2 (.inr (mem_flat h2 hy))
theorem LsF.at_ (h : LsF w lo v ls bs) : LsAt w v ls := by
  obtain ⟨a, xs, bss, e, hc, hx, hl, ht, _, _, _⟩ := h
  refine ⟨a, _, xs, e, hx, hc.rd, fun x hx => ?_⟩
  obtain ⟨i, hi, rfl⟩ := List.getElem_of_mem hx
  have hi' : i < bss.length := by omega
  exact (ht i _ bss[i] (List.getElem?_eq_getElem hi) (List.getElem?_eq_getElem hi')).at_
theorem LsF.mono {lo' : Nat} (h : LsF w lo v ls bs) (hl : lo' ≤ lo) : LsF w lo' v ls bs := by
  obtain ⟨a, xs, bss, e, hc, hx, hle, ht, hb, hn, h4⟩ := h
  exact ⟨a, xs, bss, e, hc, hx, hle, fun i x b h1 h2 => (ht i x b h1 h2).mono hl, hb, hn, fun b hb => Nat.le_trans hl (h4 b hb)⟩
end
end Go.Proofs.YteecbbnpgmceiaaGreatDoor
