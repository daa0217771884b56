/-
  schema: the map of arities: how it is looked up, and written; fits.
-/
import Derived.Test.YteecbbnpgmceiaaGreatDoorSafeG
import Derived.Test.YteecbbnpgmceiaaGreatDoorOrd
import Derived.Maps.OwnSet
import Derived.Maps.StringElems
import Derived.Test.YteecbbnpgmceiaaGreatDoorEcG
import Derived.RangeFuncWrites
namespace Go.Proofs.YteecbbnpgmceiaaGreatDoor
open Go Go.RowKit Go.Mine Go.Maps
set_option linter.unusedVariables false
set_option maxHeartbeats 4000000
set_option maxRecDepth 100000

theorem lawK : Keyed Tryz.prog 9 := string_keyed Tryz.underlying9
theorem arOf_nil (x : ByteArray) : arOf [] x = none := rfl
theorem arOf_cons (y : ByteArray × Nat) (l : Ar) (x : ByteArray) : arOf (y :: l) x = if y.1 = x then some y.2 else arOf l x := by
  unfold arOf
  rw [List.find?_cons]
  by_cases h : y.1 = x
  · rw [if_pos h, decide_eq_true h]; rfl
  · rw [if_neg h, decide_eq_false h]
theorem arOf_snoc (l : Ar) (z : ByteArray × Nat) (x : ByteArray) : arOf (l ++ [z]) x = if (arOf l x).isSome = true then arOf l x else if z.1 = x then some z.2 else none := by
  induction l with
  | nil => rw [List.nil_append, arOf_cons, arOf_nil]; rfl
  | cons y l ih =>
    rw [List.cons_append, arOf_cons, ih, arOf_cons]
    by_cases h : y.1 = x
    · rw [if_pos h, if_pos h]; rfl
    · rw [if_neg h, if_neg h]
/-- the map in block B holds the arities so far -/
def ArMap (w : World) (B : Nat) (l : Ar) : Prop :=
  ∃ D : DataW Unit, w.ownsMap Tryz.prog 9 (plainElem Tryz.prog 3) B l.length D ∧ (∀ x : ByteArray, D.atKey (.string x.data.toList) (.lit (.int .i64 0)) = .lit (.int .i64 (((arOf l x).getD 0 : Nat) : Int))) ∧ size D = l.length ∧ ∀ x : ByteArray, has D (.string x.data.toList) = (arOf l x).isSome
theorem ArMap.made (w : World) : ArMap (w.alloc (.map #[] 0)) w.heap.size [] :=
  ⟨.map [], World.ownsMap_made _ _ _ _, fun x => WideAt.atKey_none _ (fun p h => by cases h), rfl, fun x => rfl⟩
theorem ArMap.mod {S : Nat → Prop} {w w' : World} {B : Nat} {l : Ar} (h : ArMap w B l) (m : Mod S w w') (hs : ¬ S B) : ArMap w' B l := by
  obtain ⟨D, ho, h2, h3, h4⟩ := h
  refine ⟨D, ?_, h2, h3, h4⟩
  obtain ⟨es, clock, hb, rest⟩ := ho
  exact ⟨es, clock, m.at hb hs, rest⟩
theorem ArMap.lt {w : World} {B : Nat} {l : Ar} (h : ArMap w B l) : B < w.heap.size := by
  obtain ⟨D, ho, _⟩ := h
  exact ho.lt
theorem ArMap.len {w : World} {B : Nat} {l : Ar} (h : ArMap w B l) (ty : TypeId) : (Builtin.len_ #[124] ty #[.map (some B)]).run Tryz.prog w = .ok (.int .i64 l.length) w := by
  obtain ⟨D, ho, _, h3, _⟩ := h
  rw [← h3]
  exact ho.len (k := 9) (e := 3) (by kernel_rfl) ty
theorem ArMap.look {w : World} {B : Nat} {l : Ar} (h : ArMap w B l) (x : ByteArray) (hx : x.size ≤ maxLen) : (Instr.lookup 124 (.map (some B)) (.string x) true).run Tryz.prog w = .ok (.tuple #[.int .i64 (((arOf l x).getD 0 : Nat) : Int), .bool (arOf l x).isSome]) w := by
  obtain ⟨D, ho, h2, _, h4⟩ := h
  have hz : (zeroValue 3).run Tryz.prog w = .ok (.int .i64 0) w := by kernel_rfl
  obtain ⟨v, ps, hrun, hv⟩ := ho.look_ok (e := 3) lawK (t := 124) (by kernel_rfl) hz (plainElem_int Tryz.underlying3 (by decide)) (WideMaps.keyOf_string_mk Tryz.underlying9 hx)
  obtain ⟨c, rfl, hc, _⟩ := plainElem_int_inv Tryz.underlying3 hv
  rw [h2 x] at hc
  simp only [Prod.mk.injEq, DataW.lit.injEq, Lit.int.injEq] at hc
  rw [hrun, h4 x, hc.1.2]
theorem ArMap.put {w : World} {B : Nat} {l : Ar} (h : ArMap w B l) (x : ByteArray) (n : Nat) (hx : x.size ≤ maxLen) (hn : l.length < maxLen) (hnew : arOf l x = none) (hv : n < 2 ^ 40) :
    ∃ w', (Instr.mapUpdate 124 (.map (some B)) (.string x) (.int .i64 n)).run Tryz.prog w = .ok () w' ∧ ArMap w' B (l ++ [(x, n)]) ∧ w.grownBy w' (some B) := by
  obtain ⟨D, ho, h2, h3, h4⟩ := h
  have hwf : (Lit.int .i64 (n : Int)).wf = true := by
    simp only [Lit.wf, Bool.and_eq_true, decide_eq_true_eq]
    constructor
    · show (-9223372036854775808 : Int) ≤ _; omega
    · show _ ≤ (9223372036854775807 : Int); omega
  obtain ⟨w', hrun, ho', hg⟩ := ho.update (e := 3) lawK (t := 124) (by kernel_rfl) hn (WideMaps.keyOf_string_mk Tryz.underlying9 hx) (plainElem_int Tryz.underlying3 hwf)
  have hkey : WideAt.IsKeyLit (.string x.data.toList) := lawK.key (WideMaps.keyOf_string_mk Tryz.underlying9 hx)
  have hinj : ∀ y : ByteArray, y ≠ x → (Lit.string y.data.toList) ≠ .string x.data.toList := fun y hne e => hne (by
    simp only [Lit.string.injEq] at e
    exact ByteArray.ext (Array.ext' e))
  refine ⟨w', hrun, ⟨_, by rw [List.length_append]; exact ho', fun y => ?_, ?_, fun y => ?_⟩, hg⟩
  · by_cases hy : y = x
    · subst hy
      rw [atKey_put_same ho.isMap hkey, arOf_snoc, hnew]
      simp
    · rw [atKey_put_other (hinj y hy), h2 y, arOf_snoc, if_neg (fun e : x = y => hy e.symm)]
      cases arOf l y <;> rfl
  · rw [size_put (ho.tidy lawK), h4 x, hnew]
    simp [h3]
  · by_cases hy : y = x
    · subst hy
      rw [has_put_same ho.isMap hkey, arOf_snoc, hnew]
      simp
    · rw [has_put_other (hinj y hy), h4 y, arOf_snoc, if_neg (fun e : x = y => hy e.symm)]
      cases arOf l y <;> rfl
theorem grown_mod {w w' : World} {B : Nat} (h : w.grownBy w' (some B)) : Mod (fun b => b = B) w w' := ⟨h.os, h.tape, h.output, h.size, fun k hk hs => h.block k hk (fun e => hs (by cases e; rfl))⟩
theorem fits_any (B : Nat) (x : ByteArray) (n : Nat) (l : Ar) (w : World) (hm : ArMap w B l) (hx : x.size ≤ maxLen) (hl : l.length < maxLen) (hn : n < 2 ^ 40) :
    Calls Tryz.prog 67 #[.map (some B), .string x, .int .i64 n] w fun e w' => e = .returned (.bool (fitsL l (x, n))) ∧ ArMap w' B (noteL l (x, n)) ∧ w.grownBy w' (some B) := by
  have hk := hm.look x hx
  have HM := Lib.hid hm
  unfold fitsL noteL
  cases ho : arOf l x with
  | some m =>
    rw [ho] at hk
    simp only [Option.getD_some, Option.isSome_some] at hk ⊢
    clear hm
    go_enter Tryz.func67, Tryz.ntmps67
    go_wp2
    go_ret
    exact ⟨ret_bool (Bool.eq_iff_iff.2 (by simp; omega)), HM.out, ⟨rfl, rfl, rfl, Nat.le_refl _, fun _ _ _ => rfl⟩⟩
  | none =>
    rw [ho] at hk
    simp only [Option.getD_none, Option.isSome_none] at hk ⊢
    obtain ⟨w', hrun, hA, hg⟩ := hm.put x n hx hl ho hn
    clear hm
    go_enter Tryz.func67, Tryz.ntmps67
    go_wp2
    go_ret
    exact ⟨rfl, hA, hg⟩
end Go.Proofs.YteecbbnpgmceiaaGreatDoor
/-
  schema.uses: the iterator's contract; arities.rule.
-/
namespace Go.Proofs.YteecbbnpgmceiaaGreatDoor
open Go Go.RowKit Go.Mine
set_option linter.unusedVariables false
set_option maxHeartbeats 4000000
set_option maxRecDepth 100000

abbrev UU := { x : ByteArray × Nat // x.1.size ≤ maxLen ∧ x.2 < 2 ^ 40 }
def encU (x : UU) : Array Value := #[.string x.1.1, .int .i64 x.1.2]
/-- what a round that goes on keeps: all that lay ahead of the loop but the map -/
structure KpU (B0 Bm : Nat) (W W' : World) : Prop where
  size : W.heap.size ≤ W'.heap.size
  low : ∀ k, k < B0 → k ≠ Bm → W'.heap[k]? = W.heap[k]?
theorem KpU.trans {B0 Bm : Nat} {A B C : World} (h : KpU B0 Bm A B) (k : KpU B0 Bm B C) : KpU B0 Bm A C := ⟨Nat.le_trans h.size k.size, fun i hi hm => (k.low i hi hm).trans (h.low i hi hm)⟩
theorem KpU.refl (B0 Bm : Nat) (A : World) : KpU B0 Bm A A := ⟨Nat.le_refl _, fun _ _ _ => rfl⟩
theorem KpU.ofMod {S : Nat → Prop} {B0 Bm : Nat} {A B : World} (h : Mod S A B) (h0 : B0 ≤ A.heap.size) (hs : ∀ k, k < B0 → S k → k = Bm) : KpU B0 Bm A B := ⟨h.size, fun k hk hm => h.block k (by omega) (fun e => hm (hs k hk e))⟩
theorem KpU.putObj {B0 Bm : Nat} (W : World) (l : Nat) (o' : Obj) (hl : B0 ≤ l) : KpU B0 Bm W (W.putObj l o') := ⟨by simp, fun k hk _ => World.putObj_heap_other (by omega)⟩
theorem KpU.rd {B0 Bm : Nat} {A B : World} {a : Option Addr} {xs : List Value} (h : KpU B0 Bm A B) (hr : Rd A a xs) (hb : xs ≠ [] → ∀ q, blk a = some q → q < B0 ∧ q ≠ Bm) : Rd B a xs := fun i u hi => by
  obtain ⟨b, o, rfl, hc⟩ := hr i u hi
  have := hb (fun e => by rw [e] at hi; cases hi) b rfl
  exact ⟨b, o, rfl, (World.cell?_of_block (a := ⟨b, o + i, none⟩) (h.low b this.1 this.2)).trans hc⟩
def usesB (ls : List Lm) : Ar := (ls.filter fun l => decide (l.kind = 1 ∨ l.kind = 2)).map fun l => (l.atom.pred, l.atom.terms.length)
theorem usesL_eq (r : Rm) : usesL r = (r.head.pred, r.head.terms.length) :: usesB r.body := rfl
theorem usesB_yes {l : Lm} (ls : List Lm) (h : l.kind = 1 ∨ l.kind = 2) : usesB (l :: ls) = (l.atom.pred, l.atom.terms.length) :: usesB ls := by unfold usesB; rw [List.filter_cons, if_pos (by simpa using h)]; rfl
theorem usesB_no {l : Lm} (ls : List Lm) (h : ¬ (l.kind = 1 ∨ l.kind = 2)) : usesB (l :: ls) = usesB ls := by unfold usesB; rw [List.filter_cons, if_neg (by simpa using h)]
theorem map_cons_inv {rest : List UU} {p : ByteArray} {n : Nat} {l : Ar} (h : rest.map (·.1) = (p, n) :: l) : ∃ hx rest', rest = (⟨(p, n), hx⟩ : UU) :: rest' ∧ rest'.map (·.1) = l := by
  cases rest with
  | nil => cases h
  | cons x rest =>
    obtain ⟨⟨p', n'⟩, hx⟩ := x
    simp only [List.map_cons, List.cons.injEq, Prod.mk.injEq] at h
    obtain ⟨⟨rfl, rfl⟩, h2⟩ := h
    exact ⟨hx, rest, rfl, h2⟩

attribute [local go_sem] Oper.semAt_some
@[local go_sem, local simp] theorem wide_fn3 (f : FuncId) : Fence.wide.fn f = True := rfl
@[local go_sem, local simp] theorem wide_depth3 : Fence.wide.depth = none := rfl

theorem uses_any (r : Rm) (s b : Value) (w : World) : Calls Tryz.prog 122 #[rmV r s b] w fun e w' => e = .returned (.func (.func 159) #[] #[.pointer (some ⟨w.heap.size, 0, none⟩)]) ∧ w' = w.alloc (.cells #[.string r.head.pred, s, b] 46) := by
  unfold rmV
  have hmf : ∀ (fn : Fn) (first cap : Array Value) (w : World), (Instr.makeFunc fn first cap).run Tryz.prog w = .ok (.func fn first cap) w := fun _ _ _ _ => rfl
  go_enter Tryz.func122, Tryz.ntmps122
  go_wp2
  go_ret
  exact ⟨rfl, rfl⟩
theorem uses1_in (n l gr B0 Bm : Nat) (pr : ByteArray) (hn : Nat) (sa : Option Addr) (sc : Nat) (ls : List Lm) (ba : Option Addr) (bc : Nat) (xs : List (Lm × Value)) (items : List UU) (J Jx : List UU → World → Prop) (W : World)
    (hit : items.map (·.1) = (pr, hn) :: usesB ls) (hJ : AbidesFrom W.heap.size J)
    (hY : ∀ pre x W1, J pre W1 → pre.length < items.length → YieldAt Fence.wide (n - 1) Tryz.prog l (encU x) W1 fun e W' => (e = .returned (.bool true) ∧ J (pre ++ [x]) W' ∧ KpU B0 Bm W1 W') ∨ (e = .returned (.bool false) ∧ Jx (pre ++ [x]) W'))
    (h0 : B0 ≤ W.heap.size) (hg : gr < B0 ∧ gr ≠ Bm) (hbx : W.heap[gr]? = some (.cells #[.string pr, .slice sa hn sc, .slice ba ls.length bc] 46 (0, 0))) (hx : xs.map (·.1) = ls) (hr : Rd W ba (lmsC xs)) (hb : lmsC xs ≠ [] → ∀ q, blk ba = some q → q < B0 ∧ q ≠ Bm)
    (hsl : ∀ x ∈ xs, ∃ a c, x.2 = .slice a x.1.atom.terms.length c) (hJ0 : J [] W) (hl : ls.length < 2 ^ 30) :
    CallsIn Fence.wide n Tryz.prog 159 #[.func (.yield l) #[] #[], .pointer (some ⟨gr, 0, none⟩)] W fun e W' => (∃ v, e = .returned v) ∧ ((∃ ys, ys = items ∧ J ys W') ∨ (∃ pre, pre <+: items ∧ Jx pre W')) := by
  refine callsIn_of_wp Tryz.func159 rfl trivial ?_ rfl
  simp only [Tryz.ntmps159, List.size_toArray, List.length_cons, List.length_nil, Nat.reduceAdd, Nat.reduceSub, Array.replicate_succ, Array.replicate_zero, List.push_toArray, List.append_toArray, List.nil_append, List.cons_append]
  have c0 : W.cell? ⟨gr, 0, none⟩ = some (.string pr) := cell_at hbx rfl
  have c1 : W.cell? ⟨gr, 1, none⟩ = some (.slice sa hn sc) := cell_at hbx rfl
  obtain ⟨hx0, rest0, rfl, hrest⟩ := map_cons_inv hit
  have HJ := Lib.hid hJ; have HY := Lib.hid hY; have HX := Lib.hid hx; have HR := Lib.hid hr; have HB := Lib.hid hb; have HSL := Lib.hid hsl; have HBX := Lib.hid hbx; have HG := Lib.hid hg; have HZ := Lib.hid h0
  have HRE := Lib.hid hrest
  obtain ⟨fn, tmps, assign, body, hy0, hR⟩ := hY [] ⟨(pr, hn), hx0⟩ W hJ0 (by simp)
  have hy : (Instr.yield l #[.string pr, .int .i64 hn]).run Tryz.prog W = .ok (.round l fn tmps assign body) W := hy0
  have HRR := Lib.hid hR
  clear hJ hY hx hr hb hsl hbx hg h0 hrest hy0 hR hit hJ0
  gi_wp2
  refine HRR.out.mono ?_
  rintro e W1 (⟨rfl, hJ1, hk1⟩ | ⟨rfl, hJx1⟩)
  · have cb := (World.cell?_of_block (a := ⟨gr, 2, none⟩) (hk1.low gr HG.out.1 HG.out.2)).trans (cell_at (j := 2) HBX.out rfl)
    have HK1 := Lib.hid hk1; have HJ1 := Lib.hid hJ1
    clear hk1 hJ1 c0 c1
    gi_wp2
    gi_loopw [18] (fun iv wr => ∃ (k : Nat) (pre rest : List UU), iv = .int .i64 k ∧ k ≤ ls.length ∧ Hid ((⟨(pr, hn), hx0⟩ : UU) :: rest0 = pre ++ rest) ∧ Hid (rest.map (·.1) = usesB (ls.drop k)) ∧ Hid (J pre wr) ∧ Hid (KpU B0 Bm W wr)) (fun iv _ => ls.length - (intOf iv).toNat)
    case atStart => exact ⟨0, [⟨(pr, hn), hx0⟩], rest0, rfl, Nat.zero_le _, Lib.hid rfl, HRE, HJ1, HK1⟩
    case round =>
      obtain ⟨k, pre, rest, rfl, hk, hI, hU, hJs, hK⟩ := hrel
      clear HJ1 HK1 cb
      by_cases hlt : k < ls.length
      · obtain ⟨sk1, hx1, hmem1⟩ := xs_get HX.out hlt
        obtain ⟨b1, o1, rfl, x0, x1, x2, x3, x4, x5, x6, x7⟩ := rd_cell8 (hK.out.rd HR.out HB.out) hx1
        obtain ⟨sl, slc, hsk⟩ := HSL.out _ hmem1
        simp only at hsk
        subst hsk
        have hd : ls.drop k = ls[k] :: ls.drop (k + 1) := List.drop_eq_getElem_cons hlt
        have hU2 := hU.out
        rw [hd] at hU2
        clear hx1 hmem1 hd
        generalize ls[k] = t at *
        obtain ⟨lk, ⟨lp, lts⟩, lo, ⟨ll1, ll2⟩, ⟨lr1, lr2⟩⟩ := t
        simp only at *
        have hma : Mod (fun _ => False) wr (wr.alloc (.cells #[.int .i64 lk, .string lp, .slice sl lts.length slc, .int .i64 lo, .int .i64 ll1, .string ll2, .int .i64 lr1, .string lr2] 102)) := (Mod.refl _ wr).alloc _
        have hKa : KpU B0 Bm W (wr.alloc (.cells #[.int .i64 lk, .string lp, .slice sl lts.length slc, .int .i64 lo, .int .i64 ll1, .string ll2, .int .i64 lr1, .string lr2] 102)) := hK.out.trans (KpU.ofMod hma (Nat.le_trans HZ.out hK.out.size) (fun _ _ h => h.elim))
        have hJa : J pre (wr.alloc (.cells #[.int .i64 lk, .string lp, .slice sl lts.length slc, .int .i64 lo, .int .i64 ll1, .string ll2, .int .i64 lr1, .string lr2] 102)) := abides_mod HJ.out hJs.out hma
        have HKA := Lib.hid hKa
        by_cases h12 : lk = 1 ∨ lk = 2
        · rw [usesB_yes _ (by exact h12)] at hU2
          obtain ⟨hy1, rest', rfl, hU3⟩ := map_cons_inv hU2
          have HU3 := Lib.hid hU3
          obtain ⟨fn, tmps, assign, body, hy0, hR2⟩ := HY.out pre ⟨(lp, lts.length), hy1⟩ _ hJa (by rw [hI.out]; simp)
          have hy : (Instr.yield l #[.string lp, .int .i64 lts.length]).run Tryz.prog (wr.alloc (.cells #[.int .i64 lk, .string lp, .slice sl lts.length slc, .int .i64 lo, .int .i64 ll1, .string ll2, .int .i64 lr1, .string lr2] 102)) = .ok (.round l fn tmps assign body) (wr.alloc (.cells #[.int .i64 lk, .string lp, .slice sl lts.length slc, .int .i64 lo, .int .i64 ll1, .string ll2, .int .i64 lr1, .string lr2] 102)) := hy0
          have HR2 := Lib.hid hR2
          clear hy0 hR2 hU2 hU3 hma hKa hJa
          rcases h12 with rfl | rfl
          · gi_wp2
            refine HR2.out.mono ?_
            rintro e W3 (⟨rfl, hJ3, hk3⟩ | ⟨rfl, hJx3⟩)
            · have HK3 := Lib.hid (HKA.out.trans hk3); have HJ3 := Lib.hid hJ3
              clear hk3 hJ3
              gi_wp2
              go_roundw
              case rel => exact ⟨k + 1, pre ++ [⟨(lp, lts.length), hy1⟩], rest', by go_num, hlt, Lib.hid (by rw [hI.out, List.append_assoc]; rfl), HU3, HJ3, HK3⟩
              case measure => simp [intOf]; omega
            · gi_wp2
              refine bodyPost_ret (results_none rfl _ _ _) rfl ?_
              exact ⟨⟨_, rfl⟩, .inr ⟨_, ⟨rest', by rw [hI.out, List.append_assoc]; rfl⟩, hJx3⟩⟩
          · gi_wp2
            refine HR2.out.mono ?_
            rintro e W3 (⟨rfl, hJ3, hk3⟩ | ⟨rfl, hJx3⟩)
            · have HK3 := Lib.hid (HKA.out.trans hk3); have HJ3 := Lib.hid hJ3
              clear hk3 hJ3
              gi_wp2
              go_roundw
              case rel => exact ⟨k + 1, pre ++ [⟨(lp, lts.length), hy1⟩], rest', by go_num, hlt, Lib.hid (by rw [hI.out, List.append_assoc]; rfl), HU3, HJ3, HK3⟩
              case measure => simp [intOf]; omega
            · gi_wp2
              refine bodyPost_ret (results_none rfl _ _ _) rfl ?_
              exact ⟨⟨_, rfl⟩, .inr ⟨_, ⟨rest', by rw [hI.out, List.append_assoc]; rfl⟩, hJx3⟩⟩
        · rw [usesB_no _ (by exact h12)] at hU2
          have HU2 := Lib.hid hU2; have HJA := Lib.hid hJa
          have e1 : (lk == 1) = false := by simp; omega
          have e2 : (lk == 2) = false := by simp; omega
          have k1 : ¬ lk = 1 := by omega
          have k2 : ¬ lk = 2 := by omega
          clear hma hKa hJa hU2 h12
          gi_wp2
          go_roundw
          case rel => exact ⟨k + 1, pre, rest, by go_num, hlt, hI, HU2, HJA, HKA⟩
          case measure => simp [intOf]; omega
      · obtain rfl : k = ls.length := by omega
        have hU2 := hU.out
        rw [List.drop_length] at hU2
        have hnil : rest = [] := by cases rest with
          | nil => rfl
          | cons x l => cases hU2
        subst hnil
        gi_wp2
        refine bodyPost_end (results_none rfl _ _ _) rfl ?_
        exact ⟨⟨_, rfl⟩, .inl ⟨_, by rw [hI.out, List.append_nil], hJs.out⟩⟩
  · gi_wp2
    refine bodyPost_ret (results_none rfl _ _ _) rfl ?_
    exact ⟨⟨_, rfl⟩, .inr ⟨_, ⟨rest0, rfl⟩, hJx1⟩⟩
theorem ArMap.nocell {w : World} {B : Nat} {l : Ar} (h : ArMap w B l) (o : Nat) : w.cell? ⟨B, o, none⟩ = none := by
  obtain ⟨D, ⟨es, clock, hb, _⟩, _⟩ := h
  simp [World.cell?, hb]
theorem uses_stops (n gr Bm : Nat) (pr : ByteArray) (hn : Nat) (sa : Option Addr) (sc : Nat) (ls : List Lm) (ba : Option Addr) (bc : Nat) (xs : List (Lm × Value)) (items : List UU) (w : World)
    (hit : items.map (·.1) = (pr, hn) :: usesB ls) (hg : gr ≠ Bm) (hbx : w.heap[gr]? = some (.cells #[.string pr, .slice sa hn sc, .slice ba ls.length bc] 46 (0, 0))) (hx : xs.map (·.1) = ls) (hr : Rd w ba (lmsC xs)) (hb : lmsC xs ≠ [] → ∀ q, blk ba = some q → q < w.heap.size ∧ q ≠ Bm)
    (hsl : ∀ x ∈ xs, ∃ a c, x.2 = .slice a x.1.atom.terms.length c) (hl : ls.length < 2 ^ 30) :
    SeqStopsK Fence.wide n Tryz.prog 159 #[.pointer (some ⟨gr, 0, none⟩)] encU (KpU w.heap.size Bm) (fun ys => ys = items) (fun pre => pre <+: items) items.length w := by
  intro l J Jx W hW hJ hJx hY h0
  have hM : Mod (fun _ => False) w W := Mod.ofBelow hW
  exact uses1_in n l gr w.heap.size Bm pr hn sa sc ls ba bc xs items J Jx W hit hJ hY hM.size ⟨(Array.getElem?_eq_some_iff.1 hbx).1, hg⟩ (hM.at hbx id) hx (hr.mod hM (fun _ _ => id)) hb hsl h0 hl
end Go.Proofs.YteecbbnpgmceiaaGreatDoor
