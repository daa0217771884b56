/-
  The map of arities with whole numbers; slices.Sorted(maps.Keys(m)) of it; the map of counts.
-/
import Derived.Test.YteecbbnpgmceiaaGreatDoorLayK
import Derived.Test.YteecbbnpgmceiaaGreatDoorUsesG
namespace Go.Proofs.YteecbbnpgmceiaaGreatDoor
open Go Go.RowKit Go.Mine Go.Maps Go.Shelf
set_option linter.unusedVariables false
set_option maxHeartbeats 4000000
set_option maxRecDepth 100000

/-- names with numbers -/
abbrev ArZ := List (ByteArray × Int)
def arZ (l : ArZ) (x : ByteArray) : Option Int := (l.find? fun y => decide (y.1 = x)).map (·.2)
def toZ (l : Ar) : ArZ := l.map fun x => (x.1, (x.2 : Int))
theorem arZ_nil (x : ByteArray) : arZ [] x = none := rfl
theorem arZ_cons (y : ByteArray × Int) (l : ArZ) (x : ByteArray) : arZ (y :: l) x = if y.1 = x then some y.2 else arZ l x := by
  unfold arZ
  rw [List.find?_cons]
  by_cases h : y.1 = x
  · rw [if_pos h, decide_eq_true h]; rfl
  · rw [if_neg h, decide_eq_false h]
theorem arZ_snoc (l : ArZ) (z : ByteArray × Int) (x : ByteArray) : arZ (l ++ [z]) x = if (arZ l x).isSome = true then arZ l x else if z.1 = x then some z.2 else none := by
  induction l with
  | nil => rw [List.nil_append, arZ_cons, arZ_nil]; rfl
  | cons y l ih =>
    rw [List.cons_append, arZ_cons, ih, arZ_cons]
    by_cases h : y.1 = x
    · rw [if_pos h, if_pos h]; rfl
    · rw [if_neg h, if_neg h]
theorem arZ_toZ (l : Ar) (x : ByteArray) : arZ (toZ l) x = (arOf l x).map fun n => (n : Int) := by
  induction l with
  | nil => rfl
  | cons y l ih =>
    unfold toZ at ih ⊢
    rw [List.map_cons, arZ_cons, arOf_cons, ih]
    by_cases h : y.1 = x
    · rw [if_pos h, if_pos h]; rfl
    · rw [if_neg h, if_neg h]
theorem arZ_isSome (l : ArZ) (x : ByteArray) : (arZ l x).isSome = true ↔ x ∈ l.map (·.1) := by
  induction l with
  | nil => simp [arZ_nil]
  | cons y l ih =>
    rw [arZ_cons, List.map_cons, List.mem_cons]
    by_cases h : y.1 = x
    · rw [if_pos h]; simp [h]
    · rw [if_neg h, ih]; simp [show ¬ x = y.1 from fun e => h e.symm]
def noteZ (l : ArZ) (x : ByteArray × Int) : ArZ := match arZ l x.1 with
  | some _ => l
  | none => l ++ [x]
def fitsZ (l : ArZ) (x : ByteArray × Int) : Bool := match arZ l x.1 with
  | some n => decide (n = x.2)
  | none => true
def notedZ : ArZ → ArZ → Option ArZ
  | l, [] => some l
  | l, x :: xs => if fitsZ l x = true then notedZ (noteZ l x) xs else none
def In64 (z : Int) : Prop := -9223372036854775808 ≤ z ∧ z ≤ 9223372036854775807
/-- the map in block B holds these numbers -/
def ZMap (w : World) (B : Nat) (l : ArZ) : Prop :=
  (l.map (·.1)).Nodup ∧ ∃ D : DataW Unit, w.ownsMap Tryz.prog 9 (plainElem Tryz.prog 3) B l.length D ∧ (∀ x : ByteArray, D.atKey (.string x.data.toList) (.lit (.int .i64 0)) = .lit (.int .i64 ((arZ l x).getD 0))) ∧ size D = l.length ∧ ∀ x : ByteArray, has D (.string x.data.toList) = (arZ l x).isSome
theorem ZMap.of {w : World} {B : Nat} {l : Ar} (h : ArMap w B l) (hn : (l.map (·.1)).Nodup) : ZMap w B (toZ l) := by
  obtain ⟨D, h1, h2, h3, h4⟩ := h
  refine ⟨by unfold toZ; rw [List.map_map]; exact hn, D, by unfold toZ; rw [List.length_map]; exact h1, fun x => ?_, by unfold toZ; rw [List.length_map]; exact h3, fun x => ?_⟩
  · rw [h2, arZ_toZ]; cases arOf l x <;> rfl
  · rw [h4, arZ_toZ]; cases arOf l x <;> rfl
theorem ZMap.mod {S : Nat → Prop} {w w' : World} {B : Nat} {l : ArZ} (h : ZMap w B l) (m : Mod S w w') (hs : ¬ S B) : ZMap w' B l := by
  obtain ⟨hn, D, ho, h2, h3, h4⟩ := h
  refine ⟨hn, D, ?_, h2, h3, h4⟩
  obtain ⟨es, clock, hb, rest⟩ := ho
  exact ⟨es, clock, m.at hb hs, rest⟩
theorem ZMap.lt {w : World} {B : Nat} {l : ArZ} (h : ZMap w B l) : B < w.heap.size := by
  obtain ⟨hn, D, ho, _⟩ := h
  exact ho.lt
theorem ZMap.look {w : World} {B : Nat} {l : ArZ} (h : ZMap w B l) (x : ByteArray) (hx : x.size ≤ maxLen) : (Instr.lookup 124 (.map (some B)) (.string x) true).run Tryz.prog w = .ok (.tuple #[.int .i64 ((arZ l x).getD 0), .bool (arZ l x).isSome]) w := by
  obtain ⟨_, D, ho, h2, _, h4⟩ := h
  have hz : (zeroValue 3).run Tryz.prog w = .ok (.int .i64 0) w := by kernel_rfl
  obtain ⟨v, ps, hrun, hv⟩ := ho.look_ok (e := 3) lawK (t := 124) (by kernel_rfl) hz (plainElem_int Tryz.underlying3 (by decide)) (WideMaps.keyOf_string_mk Tryz.underlying9 hx)
  obtain ⟨c, rfl, hc, _⟩ := plainElem_int_inv Tryz.underlying3 hv
  rw [h2 x] at hc
  simp only [Prod.mk.injEq, DataW.lit.injEq, Lit.int.injEq] at hc
  rw [hrun, h4 x, hc.1.2]
theorem ZMap.look1 {w : World} {B : Nat} {l : ArZ} (h : ZMap w B l) (x : ByteArray) (hx : x.size ≤ maxLen) : (Instr.lookup 124 (.map (some B)) (.string x) false).run Tryz.prog w = .ok (.int .i64 ((arZ l x).getD 0)) w := by
  obtain ⟨_, D, ho, h2, _, h4⟩ := h
  have hz : (zeroValue 3).run Tryz.prog w = .ok (.int .i64 0) w := by kernel_rfl
  obtain ⟨c, hrun, hc, _⟩ := ho.lookup_int (e := 3) lawK (t := 124) (by kernel_rfl) Tryz.underlying3 hz (WideMaps.keyOf_string_mk Tryz.underlying9 hx)
  rw [h2 x] at hc
  simp only [DataW.lit.injEq, Lit.int.injEq] at hc
  rw [hrun, hc.2]
theorem lit_wf {z : Int} (h : In64 z) : (Lit.int .i64 z).wf = true := by
  simp only [Lit.wf, Bool.and_eq_true, decide_eq_true_eq]
  exact h
theorem ba_lit {x y : ByteArray} (hne : y ≠ x) : (Lit.string y.data.toList) ≠ .string x.data.toList := fun e => hne (by
  simp only [Lit.string.injEq] at e
  exact ByteArray.ext (Array.ext' e))
theorem ZMap.put {w : World} {B : Nat} {l : ArZ} (h : ZMap w B l) (x : ByteArray) (n : Int) (hx : x.size ≤ maxLen) (hn : l.length < maxLen) (hnew : arZ l x = none) (hv : In64 n) :
    ∃ w', (Instr.mapUpdate 124 (.map (some B)) (.string x) (.int .i64 n)).run Tryz.prog w = .ok () w' ∧ ZMap w' B (l ++ [(x, n)]) ∧ w.grownBy w' (some B) := by
  obtain ⟨hnd, D, ho, h2, h3, h4⟩ := h
  obtain ⟨w', hrun, ho', hg⟩ := ho.update (e := 3) lawK (t := 124) (by kernel_rfl) hn (WideMaps.keyOf_string_mk Tryz.underlying9 hx) (plainElem_int Tryz.underlying3 (lit_wf hv))
  have hkey : WideAt.IsKeyLit (.string x.data.toList) := lawK.key (WideMaps.keyOf_string_mk Tryz.underlying9 hx)
  refine ⟨w', hrun, ⟨?_, _, by rw [List.length_append]; exact ho', fun y => ?_, ?_, fun y => ?_⟩, hg⟩
  · rw [List.map_append, List.nodup_append]
    refine ⟨hnd, by simp, fun a ha b hb => ?_⟩
    simp only [List.map_cons, List.map_nil, List.mem_singleton] at hb
    subst hb
    intro e; subst e
    have := (arZ_isSome l a).2 ha
    rw [hnew] at this; cases this
  · by_cases hy : y = x
    · subst hy
      rw [atKey_put_same ho.isMap hkey, arZ_snoc, hnew]
      simp
    · rw [atKey_put_other (ba_lit hy), h2 y, arZ_snoc, if_neg (fun e : x = y => hy e.symm)]
      cases arZ l y <;> rfl
  · rw [size_put (ho.tidy lawK), h4 x, hnew]
    simp [h3]
  · by_cases hy : y = x
    · subst hy
      rw [has_put_same ho.isMap hkey, arZ_snoc, hnew]
      simp
    · rw [has_put_other (ba_lit hy), h4 y, arZ_snoc, if_neg (fun e : x = y => hy e.symm)]
      cases arZ l y <;> rfl
theorem fitsZ_any (B : Nat) (x : ByteArray) (n : Int) (l : ArZ) (w : World) (hm : ZMap w B l) (hx : x.size ≤ maxLen) (hl : l.length < maxLen) (hn : In64 n) :
    Calls Tryz.prog 67 #[.map (some B), .string x, .int .i64 n] w fun e w' => e = .returned (.bool (fitsZ l (x, n))) ∧ ZMap w' B (noteZ l (x, n)) ∧ w.grownBy w' (some B) := by
  have hk := hm.look x hx
  have HM := Lib.hid hm
  unfold fitsZ noteZ
  cases ho : arZ l x with
  | some m =>
    rw [ho] at hk
    simp only [Option.getD_some, Option.isSome_some] at hk ⊢
    clear hm hn
    go_enter Tryz.func67, Tryz.ntmps67
    go_wp2
    go_ret
    exact ⟨ret_bool (Bool.eq_iff_iff.2 (by simp)), HM.out, ⟨rfl, rfl, rfl, Nat.le_refl _, fun _ _ _ => rfl⟩⟩
  | none =>
    rw [ho] at hk
    simp only [Option.getD_none, Option.isSome_none] at hk ⊢
    obtain ⟨w', hrun, hA, hg⟩ := hm.put x n hx hl ho hn
    clear hm hn
    go_enter Tryz.func67, Tryz.ntmps67
    go_wp2
    go_ret
    exact ⟨rfl, hA, hg⟩

/-- a text's bytes; texts in their order -/
def bl (x : ByteArray) : List UInt8 := x.data.toList
def unbl (l : List UInt8) : ByteArray := ⟨l.toArray⟩
@[simp] theorem unbl_bl (x : ByteArray) : unbl (bl x) = x := by cases x; simp [bl, unbl]
@[simp] theorem bl_unbl (l : List UInt8) : bl (unbl l) = l := by simp [bl, unbl]
theorem bl_inj {x y : ByteArray} (h : bl x = bl y) : x = y := by rw [← unbl_bl x, h, unbl_bl]
def sortN (l : List ByteArray) : List ByteArray := ((l.map bl).mergeSort leB).map unbl
theorem sortN_perm (l : List ByteArray) : (sortN l).Perm l := by
  unfold sortN
  have h := (List.mergeSort_perm (l.map bl) leB).map unbl
  rw [List.map_map] at h
  have e : (unbl ∘ bl : ByteArray → ByteArray) = id := funext unbl_bl
  rw [e, List.map_id] at h
  exact h
theorem sortN_of_perm {l m : List ByteArray} (h : l.Perm m) : sortN l = sortN m := by
  unfold sortN
  rw [mergeSort_of_perm (h.map bl)]
theorem sortN_rising {l : List ByteArray} (h : l.Nodup) : (sortN l).Pairwise fun x y => bl x < bl y := by
  unfold sortN
  rw [List.pairwise_map]
  have ht1 : ∀ a b c : List UInt8, leB a b = true → leB b c = true → leB a c = true := fun a b c h1 h2 => by simp only [leB, decide_eq_true_eq] at *; exact List.le_trans h1 h2
  have ht2 : ∀ a b : List UInt8, (leB a b || leB b a) = true := fun a b => by simp only [leB, Bool.or_eq_true, decide_eq_true_eq]; exact List.le_total a b
  have h1 := List.pairwise_mergeSort ht1 ht2 (l.map bl)
  have h2 : ((l.map bl).mergeSort leB).Nodup := (List.mergeSort_perm (l.map bl) leB).nodup_iff.2 (List.pairwise_map.2 (h.imp (fun {x y} hne e => hne (bl_inj e))))
  refine (h1.and h2).imp ?_
  rintro a b ⟨h3, h4⟩
  rw [bl_unbl, bl_unbl]
  simp only [leB, decide_eq_true_eq] at h3
  rcases List.le_iff_lt_or_eq.1 h3 with h | h
  · exact h
  · exact absurd h h4

theorem keys_any (mb : Option Nat) (W : World) : Calls Tryz.prog 69 #[.map mb] W fun e w' => e = .returned (.func (.func 125) #[] #[.pointer (some ⟨W.heap.size, 0, none⟩)]) ∧ w' = W.alloc (.cells #[.map mb] 124) :=
  (callsIn_wide (n := 5)).1 (AnyZ.keys_in keysA Fence.wide 5 trivial rfl mb W)
theorem sortsA (m : Nat) : AnyZ.SortsIn Tryz.prog sortedA_ren Fence.wide m :=
  ⟨fun blk off cap ss W hH hblk hsz => callsIn_wide.2 (AnyM.slices_Sort_string sortA blk off cap ss W hH hblk hsz),
   fun p cap W => callsIn_wide.2 (AnyM.slices_Sort_string_none sortA p cap W)⟩
theorem sorted_any (B : Nat) (l : ArZ) (W : World) (h : ZMap W B l) (hl : l.length ≤ 2 ^ 42) :
    Calls Tryz.prog 68 #[.func (.func 125) #[] #[.pointer (some ⟨W.heap.size, 0, none⟩)]] (W.alloc (.cells #[.map (some B)] 124)) fun e w' =>
      ∃ a c, e = .returned (.slice a l.length c) ∧ Rd w' a (sts (sortN (l.map (·.1)))) ∧ (∀ x ∈ l, x.1.size ≤ maxLen) ∧ Mod (fun _ => False) (W.alloc (.cells #[.map (some B)] 124)) w' := by
  obtain ⟨hnd, D0, hown, h2, h3, h4⟩ := h
  refine (callsIn_wide (n := 5)).1 ?_
  have hbl := hown.lt
  have hseq : SeqGives Fence.wide 2 Tryz.prog 125 #[.pointer (some ⟨W.heap.size, 0, none⟩)] encStr (fun ss => ss.Perm (strKeys D0)) (Maps.size D0) (W.alloc (.cells #[.map (some B)] 124)) :=
    AnyZ.keys_gives (ρ := keysA_ren) { keysA with } Fence.wide _ trivial rfl (by omega) W.heap.size B l.length D0 _ (by simp) (by simp) (by
      obtain ⟨es, clock, hb, Ft, hs, hD⟩ := hown
      exact ⟨es, clock, (Below.heap_alloc _ _ B hbl).trans hb, Ft, hs, hD⟩)
  have cS := AnyZ.sorted_in sortedA Fence.wide 5 trivial trivial trivial trivial rfl (by omega) (sortsA _) (enters_of Tryz.func124 (by kernel_rfl) rfl) 125 #[.pointer (some ⟨W.heap.size, 0, none⟩)] trivial (enters_of Tryz.func125 (by kernel_rfl) rfl) _ (Maps.size D0) (by rw [h3]; unfold maxLen; omega) (by rw [h3]; omega) _ hseq
  refine CallsIn.mono cS ?_
  rintro e w' ⟨v, ss, rfl, hS, hrow, hnil, hb⟩
  have hper : (l.map fun x => bl x.1).Perm (strKeys D0) := by
    refine Collected.perm (left := fun _ => false) ⟨?_, fun x => ?_⟩ hown lawK Tryz.underlying9 (fun _ => rfl)
    · have e : (l.map fun x => bl x.1) = (l.map (·.1)).map bl := by rw [List.map_map]; rfl
      rw [e]
      exact List.pairwise_map.2 (hnd.imp (fun {x y} hne e => hne (bl_inj e)))
    · have h5 := h4 (unbl x)
      have e : (unbl x).data.toList = x := by simp [unbl]
      rw [e] at h5
      rw [h5, arZ_isSome, List.mem_map, List.mem_map]
      constructor
      · rintro ⟨p, hp, rfl⟩; exact ⟨⟨p, hp, by simp⟩, rfl⟩
      · rintro ⟨⟨p, hp, hpx⟩, _⟩; exact ⟨p, hp, by rw [hpx]; simp⟩
  have hss : ss.mergeSort leB = (l.map fun x => bl x.1).mergeSort leB := mergeSort_of_perm (hS.trans hper.symm)
  have hlen : ss.length = l.length := by rw [(hS.trans hper.symm).length_eq, List.length_map]
  have hst : sts (sortN (l.map (·.1))) = (ss.mergeSort leB).map encStr := by
    rw [hss]
    unfold sts sortN
    rw [List.map_map, List.map_map]
    rfl
  have hsm : ∀ x ∈ l, x.1.size ≤ maxLen := fun x hx => by
    have h5 := strKeys_le hown Tryz.underlying9 _ (hper.mem_iff.1 (List.mem_map.2 ⟨x, hx, rfl⟩))
    unfold bl at h5
    rw [Array.length_toList] at h5
    exact h5
  rw [hst]
  obtain ⟨r1, r2⟩ := hrow
  rcases r2 with ⟨rfl, h0⟩ | ⟨g, cap, cur, rfl, hbase, hg, r3, r4, r5, r6⟩
  · refine ⟨none, 0, by rw [← hlen, h0], ?_, hsm, ⟨hb.os, hb.tape, hb.output, hb.size, fun k hk _ => hb.block k hk⟩⟩
    have : ss = [] := List.eq_nil_of_length_eq_zero h0
    subst this
    simp [Rd.nil]
  · refine ⟨some ⟨g, 0, none⟩, cap, by rw [hlen], ?_, hsm, ⟨hb.os, hb.tape, hb.output, hb.size, fun k hk _ => hb.block k hk⟩⟩
    have ho : Mine.Own w' 9 1 (some ⟨g, 0, none⟩) ss.length cap ((ss.mergeSort leB).map encStr) := ⟨r1, .inr ⟨g, cur, rfl, hg, r3, r4, r5, r6⟩⟩
    exact ho.rd

/-- the map in block B counts so -/
def CMap (w : World) (B n : Nat) (f : ByteArray → Nat) : Prop :=
  ∃ D : DataW Unit, w.ownsMap Tryz.prog 9 (plainElem Tryz.prog 3) B n D ∧ ∀ x : ByteArray, D.atKey (.string x.data.toList) (.lit (.int .i64 0)) = .lit (.int .i64 (f x))
theorem CMap.made (w : World) : CMap (w.alloc (.map #[] 0)) w.heap.size 0 fun _ => 0 :=
  ⟨.map [], World.ownsMap_made _ _ _ _, fun x => WideAt.atKey_none _ (fun p h => by cases h)⟩
theorem CMap.mod {S : Nat → Prop} {w w' : World} {B n : Nat} {f : ByteArray → Nat} (h : CMap w B n f) (m : Mod S w w') (hs : ¬ S B) : CMap w' B n f := by
  obtain ⟨D, ho, h2⟩ := h
  refine ⟨D, ?_, h2⟩
  obtain ⟨es, clock, hb, rest⟩ := ho
  exact ⟨es, clock, m.at hb hs, rest⟩
theorem CMap.lt {w : World} {B n : Nat} {f : ByteArray → Nat} (h : CMap w B n f) : B < w.heap.size := by
  obtain ⟨D, ho, _⟩ := h
  exact ho.lt
theorem CMap.look {w : World} {B n : Nat} {f : ByteArray → Nat} (h : CMap w B n f) (x : ByteArray) (hx : x.size ≤ maxLen) : (Instr.lookup 123 (.map (some B)) (.string x) false).run Tryz.prog w = .ok (.int .i64 (f x)) w := by
  obtain ⟨D, ho, h2⟩ := h
  have hz : (zeroValue 3).run Tryz.prog w = .ok (.int .i64 0) w := by kernel_rfl
  obtain ⟨c, hrun, hc, _⟩ := ho.lookup_int (e := 3) lawK (t := 123) (by kernel_rfl) Tryz.underlying3 hz (WideMaps.keyOf_string_mk Tryz.underlying9 hx)
  rw [h2 x] at hc
  simp only [DataW.lit.injEq, Lit.int.injEq] at hc
  rw [hrun, hc.2]
theorem CMap.put {w : World} {B n : Nat} {f : ByteArray → Nat} (h : CMap w B n f) (x : ByteArray) (m : Nat) (hx : x.size ≤ maxLen) (hn : n < maxLen) (hv : m < 2 ^ 62) :
    ∃ w', (Instr.mapUpdate 123 (.map (some B)) (.string x) (.int .i64 m)).run Tryz.prog w = .ok () w' ∧ CMap w' B (n + 1) (fun y => if y = x then m else f y) ∧ w.grownBy w' (some B) := by
  obtain ⟨D, ho, h2⟩ := h
  obtain ⟨w', hrun, ho', hg⟩ := ho.update (e := 3) lawK (t := 123) (by kernel_rfl) hn (WideMaps.keyOf_string_mk Tryz.underlying9 hx) (plainElem_int Tryz.underlying3 (lit_wf (z := (m : Int)) ⟨by omega, by omega⟩))
  have hkey : WideAt.IsKeyLit (.string x.data.toList) := lawK.key (WideMaps.keyOf_string_mk Tryz.underlying9 hx)
  refine ⟨w', hrun, ⟨_, ho', fun y => ?_⟩, hg⟩
  by_cases hy : y = x
  · subst hy
    rw [atKey_put_same ho.isMap hkey]; simp
  · rw [atKey_put_other (ba_lit hy), h2 y]; simp [hy]
end Go.Proofs.YteecbbnpgmceiaaGreatDoor
