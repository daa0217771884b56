/-
  How a law's row is closed: the walk says 'true, and nothing that was there has turned'; the row's ending follows.
-/
import Derived.Test.YtjoiaejbahdjkaaGreatRows
import Derived.Test.YtjoiaejbahdjkaaGreatBase
import Derived.ProofKit
import Derived.OpenShut
import Derived.JoinedCond
import Derived.SliceStrings
import Derived.Test.YtjoiaejbahdjkaaGreatArPW
import Derived.Deep.Slices
import Derived.Lib.SmallJoins
namespace Go.Proofs.YtjoiaejbahdjkaaGreat
open Go Go.RowKit Go.Mine Go.ChangeShapes Go.WideShapes Go.ChangeAt
set_option linter.unusedVariables false

theorem own : ownKnob Tryz.prog.godebug = none := by kernel_rfl
theorem laidOut : laidOutB Tryz.prog = true := by kernel_rfl

theorem trodAll_stays {H : Type} {enc : TypeId × Value → H} {W W' : World} (hb : Below W.heap.size W W') :
    ∀ (ts : List TypeId) (vs : List Value) (ds : List (DataW H)) (p : List MemPlace), (∀ t ∈ ts, Tryz.prog.readableRec t = true ∧ t < Tryz.prog.types.size) → (∀ x ∈ p, x.block < W.heap.size) →
    DataW.TrodAll enc Tryz.prog W 0 (fun _ => true) true ts vs ds p → DataW.TrodAll enc Tryz.prog W' 0 (fun b => decide (b < W.heap.size)) true ts vs ds p
  | [], vs, ds, p, _, _, h => by
    obtain ⟨rfl, rfl, rfl⟩ := trodAll_nil h
    exact trodAll_mk0
  | t :: ts, vs, ds, p, ht, hp, h => by
    obtain ⟨v0, vs0, d0, ds0, p0, q0, rfl, rfl, rfl, h0, r0⟩ := trodAll_cons h
    exact trodAll_cons_mk (Below.trod laidOut (ht t (by simp)).1 (ht t (by simp)).2 h0 hb (fun x hx => hp x (by simp [hx])))
      (trodAll_stays hb ts vs0 ds0 q0 (fun t h => ht t (by simp [h])) (fun x hx => hp x (by simp [hx])) r0)

theorem law_fin {H : Type} {enc : TypeId × Value → H} {f : Func} {s : ChangeSpec} {W W' : World} {args : Array Value} {ds gs : List (DataW H)} {before : List MemPlace}
    (hp : ∀ t ∈ f.params.toList, Tryz.prog.readableRec t = true ∧ t < Tryz.prog.types.size) (hvars : s.vars = []) (hrt : f.resultTypes = #[4])
    (hres : (s.fn H (ds ++ gs)).results = [.lit (.bool true)]) (hargs : (s.fn H (ds ++ gs)).args = ds) (hv : (s.fn H (ds ++ gs)).vars = [])
    (hW : DataW.Whole enc Tryz.prog f.params.toList s.vars false W args.toList ds gs before) (hM : Mine.Mod (fun _ => False) W W') :
    s.post enc Tryz.prog f false true false false W args (.bool true) W' := by
  have hlt := fun x hx => hW.lt x hx
  have hW' := hW
  obtain ⟨p, q, hA, hV, rfl, _, _⟩ := hW
  rw [hvars] at hV
  obtain ⟨rfl, rfl⟩ := trodVars_none hV
  refine ⟨_, _, _, [] ++ [], p, [], hW', ?_, ?_, ?_, hM.below.frame _, fun h => by cases h⟩
  · rw [hres, hrt]
    exact trodAll_cons_mk (shut_bool (by kernel_rfl) true) trodAll_mk0
  · rw [hargs]
    exact trodAll_stays hM.below _ _ _ _ hp (fun x hx => by simpa using hlt x (by simp [hx])) hA
  · rw [hv, hvars]; rfl

theorem Rd.ofAdd {w : World} {a : Addr} {xs : List Value} (h : ∀ i u, xs[i]? = some u → w.cell? (a.add i) = some u) : Rd w (some a) xs := by
  intro i u hi
  have hs : a.spot = none := by
    cases xs with
    | nil => simp at hi
    | cons x xs =>
      have h0 := h 0 x rfl
      have e : a.add 0 = a := by simp [Addr.add]
      rw [e] at h0
      unfold World.cell? at h0
      split at h0
      · split at h0
        · cases h0
        · rename_i hh; simpa using hh
      · cases h0
  obtain ⟨b, o, s⟩ := a
  simp only at hs
  subst hs
  have e : (⟨b, o, none⟩ : Addr).add i = ⟨b, o + i, none⟩ := by unfold Addr.add; split <;> simp_all
  have := h i u hi
  rw [e] at this
  exact ⟨b, o, rfl, this⟩
theorem Rd.ofStrs {w : World} {a : Addr} {ss : List ByteArray} {n : Nat} (hcell : ∀ i, i < ss.length → w.cell? (a.add i) = some (.string (ss.getD i ByteArray.empty))) : Rd w (some a) (sts (ss.take n)) := by
  have h : Rd w (some a) (sts ss) := Rd.ofAdd fun i u hi => by
    simp only [sts, List.getElem?_map] at hi
    cases hs : ss[i]? with
    | none => rw [hs] at hi; simp at hi
    | some s =>
      rw [hs] at hi; simp at hi; subst hi
      have hlt : i < ss.length := (List.getElem?_eq_some_iff.1 hs).1
      rw [hcell i hlt]
      simp [List.getD, hs]
  have := h.take n
  simpa [sts, List.map_take] using this

/-- bulks -/
theorem bulk_strs {H : Type} (ss : List ByteArray) : ss.length ≤ Rows.uptoBulkAll (strs (H := H) ss) ∧ ∀ s ∈ ss, s.size ≤ Rows.uptoBulkAll (strs (H := H) ss) := by
  induction ss with
  | nil => simp
  | cons s ss ih =>
    have e : Rows.uptoBulkAll (strs (H := H) (s :: ss)) = s.size + 1 + Rows.uptoBulkAll (strs (H := H) ss) := by
      simp only [strs, List.map_cons, Rows.uptoBulkAll, Rows.uptoBulk]
      rw [Lib.size_eq]
    rw [e]
    refine ⟨by simp; omega, fun x hx => ?_⟩
    rcases List.mem_cons.1 hx with rfl | hx
    · omega
    · have := ih.2 x hx; omega
theorem bulk_bound {H : Type} {l : List (DataW H)} (hk : Rows.uptoSmall H l = true) : Rows.uptoBulkAll l ≤ 1048576 := of_decide_eq_true hk
end Go.Proofs.YtjoiaejbahdjkaaGreat
/-
  How a row whose argument is a []byte is opened.
-/
namespace Go.Proofs.YtjoiaejbahdjkaaGreat
open Go Go.RowKit Go.Mine Go.ChangeShapes Go.WideShapes Go.ChangeAt
set_option linter.unusedVariables false

def u8s (zs : List Int) : List UInt8 := zs.map fun n => UInt8.ofNat n.toNat
@[simp] theorem u8s_length (zs : List Int) : (u8s zs).length = zs.length := by simp [u8s]
theorem u8_back {n : Int} (h : (Lit.int .u8 n).wf = true) : (((UInt8.ofNat n.toNat).toNat : Nat) : Int) = n := by
  have h2 : 0 ≤ n ∧ n ≤ 255 := by
    simp only [Lit.wf, Bool.and_eq_true] at h
    exact ⟨of_decide_eq_true h.1, of_decide_eq_true h.2⟩
  have : (UInt8.ofNat n.toNat).toNat = n.toNat := by
    rw [UInt8.toNat_ofNat']; omega
  rw [this]; omega
theorem Rd.ofBytes {w : World} {a : Addr} {zs : List Int} {n : Nat} (hcell : ∀ i, i < zs.length → w.cell? (a.add i) = some (.int .u8 (zs.getD i 0))) (hwf : ∀ n ∈ zs, (Lit.int .u8 n).wf = true) :
    Rd w (some a) (bts (u8s (zs.take n))) := by
  have h : Rd w (some a) (bts (u8s zs)) := Rd.ofAdd fun i u hi => by
    simp only [bts, u8s, List.getElem?_map] at hi
    cases hs : zs[i]? with
    | none => rw [hs] at hi; simp at hi
    | some s =>
      rw [hs] at hi; simp only [Option.map_some, Option.some.injEq] at hi
      have hlt : i < zs.length := (List.getElem?_eq_some_iff.1 hs).1
      rw [u8_back (hwf s (List.mem_of_getElem? hs))] at hi
      rw [hcell i hlt, ← hi]
      simp [List.getD, hs]
  have := h.take n
  simpa [bts, u8s, List.map_take] using this
theorem bulk_ints {H : Type} (k : IntKind) (zs : List Int) : zs.length ≤ Rows.uptoBulkAll (lits (H := H) k zs) := by
  induction zs with
  | nil => simp
  | cons z zs ih =>
    have e : Rows.uptoBulkAll (lits (H := H) k (z :: zs)) = 1 + Rows.uptoBulkAll (lits (H := H) k zs) := by
      simp only [lits, List.map_cons, Rows.uptoBulkAll, Rows.uptoBulk]
    rw [e]; simp; omega
end Go.Proofs.YtjoiaejbahdjkaaGreat
/-
  How files that a row hands in are opened: lists of bytes out of what memory holds.
-/
namespace Go.Proofs.YtjoiaejbahdjkaaGreat
open Go Go.RowKit Go.Mine Go.Joins Go.ChangeShapes Go.WideShapes Go.ChangeAt Go.Deep
set_option linter.unusedVariables false
set_option maxRecDepth 100000

theorem flat_lenA {α : Type} {f : α → List Value} {k : Nat} (hf : ∀ y, (f y).length = k) : ∀ xs : List α, (xs.flatMap f).length = xs.length * k
  | [] => by simp
  | x :: xs => by rw [List.flatMap_cons, List.length_append, hf, flat_lenA hf xs, List.length_cons, Nat.add_mul]; omega
theorem flat_get {α : Type} {f : α → List Value} {k : Nat} (hf : ∀ y, (f y).length = k) : ∀ {xs : List α} {i : Nat} {y : α} {j : Nat}, xs[i]? = some y → j < k → (xs.flatMap f)[i * k + j]? = (f y)[j]?
  | [], i, y, j, h, _ => by simp at h
  | x :: xs, 0, y, j, h, hj => by
    simp at h
    subst h
    rw [List.flatMap_cons, List.getElem?_append_left (by rw [hf]; omega)]
    simp
  | x :: xs, i + 1, y, j, h, hj => by
    rw [List.flatMap_cons, List.getElem?_append_right (by rw [hf, Nat.add_mul]; omega), hf]
    have e : (i + 1) * k + j - k = i * k + j := by rw [Nat.add_mul]; omega
    rw [e]
    exact flat_get hf (by simpa using h) hj
theorem bulk_pos {H : Type} (d : DataW H) : 1 ≤ Rows.uptoBulk d := by
  cases d with
  | lit l => cases l <;> simp [Rows.uptoBulk]
  | _ => simp [Rows.uptoBulk]
theorem bulk_mem {H : Type} {l : List (DataW H)} : ∀ {d : DataW H}, d ∈ l → Rows.uptoBulk d ≤ Rows.uptoBulkAll l := by
  induction l with
  | nil => intro d h; cases h
  | cons x l ih =>
    intro d h
    simp only [Rows.uptoBulkAll]
    rcases List.mem_cons.1 h with rfl | h
    · omega
    · have := ih h; omega
theorem bulk_len {H : Type} (l : List (DataW H)) : l.length ≤ Rows.uptoBulkAll l := by
  induction l with
  | nil => simp
  | cons x l ih => simp only [Rows.uptoBulkAll, List.length_cons]; have := bulk_pos x; omega

section
variable {H : Type} {enc : TypeId × Value → H} {w : World} {base : Nat} {spare : Nat → Bool} {held : Bool}

theorem slice_open {α : Type} {f : α → List Value} {kk : Nat} (hf : ∀ y, (f y).length = kk) (hkk : 0 < kk) (Q : α → Nat → Prop) (hQ : ∀ y a b, Q y a → a ≤ b → Q y b) {t e : TypeId} (ht : Tryz.prog.underlying t = some (.slice e)) (hC : Tryz.prog.cellsOf e = kk)
    (hel : ∀ n cs d p, DataW.trod enc Tryz.prog w base spare held n e cs = some (d, p) → ∃ y, cs = f y ∧ Q y (Rows.uptoBulk (d, p).1)) {fuel : Nat} {cs : List Value} {d : DataW H} {p : List MemPlace} (h : DataW.trod enc Tryz.prog w base spare held fuel t cs = some (d, p)) :
    ∃ (a : Option Addr) (c : Nat) (ys : List α), cs = [.slice a ys.length c] ∧ Rd w a (ys.flatMap f) ∧ (∀ y ∈ ys, Q y (Rows.uptoBulk d)) ∧ ys.length ≤ Rows.uptoBulk d := by
  rcases open_slice ht h with ⟨rfl, he⟩ | ⟨a, len, cap, m, n, D, Pl, rfl, hb, hlc, hcm, hm, hx, hi⟩
  · exact ⟨none, 0, [], rfl, Rd.nil _ _, (fun _ h => by cases h), Nat.zero_le _⟩
  have hlm : len ≤ m := by rw [hm]; split <;> omega
  have hdb : Rows.uptoBulkAll ((List.range len).map D) ≤ Rows.uptoBulk d := by
    simp only [Prod.mk.injEq] at hx
    rw [hx.1]
    simp only [Rows.uptoBulk]
    omega
  have hstep : ∀ i : Fin len, ∃ y, (∀ r u, (f y)[r]? = some u → w.cell? (a.add (i.1 * kk + r)) = some u) ∧ Q y (Rows.uptoBulk (D i.1)) := by
    intro ⟨i, hil⟩
    obtain ⟨cs', hc, htr⟩ := hi i (by omega)
    obtain ⟨y, rfl, hq⟩ := hel _ _ _ _ htr
    refine ⟨y, fun r u hu => ?_, hq⟩
    obtain ⟨_, hcl, hat⟩ := World.cells?_some hc
    rw [hC] at hat
    have hr : r < kk := by rw [← hf y]; exact (List.getElem?_eq_some_iff.1 hu).1
    have := hat r hr
    rw [add_add] at this
    exact this.trans hu
  have hys : ∃ ys : List α, ys.length = len ∧ ∀ i (h : i < len), ∃ y, ys[i]? = some y ∧ (∀ r u, (f y)[r]? = some u → w.cell? (a.add (i * kk + r)) = some u) ∧ Q y (Rows.uptoBulk (D i)) := by
    refine ⟨List.ofFn fun i : Fin len => (hstep i).choose, by simp, fun i h => ⟨(hstep ⟨i, h⟩).choose, by simp [h], (hstep ⟨i, h⟩).choose_spec⟩⟩
  obtain ⟨ys, hl, hy⟩ := hys
  refine ⟨some a, cap, ys, by rw [hl], ?_, ?_, ?_⟩
  · refine Rd.ofAdd fun i u hu => ?_
    have hlen : i < ys.length * kk := by
      have := (List.getElem?_eq_some_iff.1 hu).1
      rwa [flat_lenA hf] at this
    have hq : i / kk < len := by
      rw [← hl]; exact Nat.div_lt_of_lt_mul (by rw [Nat.mul_comm]; exact hlen)
    have hr : i % kk < kk := Nat.mod_lt _ hkk
    obtain ⟨y, hy1, hy2, _⟩ := hy _ hq
    have e : i / kk * kk + i % kk = i := Nat.div_add_mod' i kk
    have h1 := flat_get (xs := ys) (j := i % kk) hf hy1 hr
    rw [e] at h1
    have h2 := hy2 (i % kk) u (by rw [← h1]; exact hu)
    rw [e] at h2
    exact h2
  · intro y hm
    obtain ⟨i, hi, rfl⟩ := List.getElem_of_mem hm
    obtain ⟨y, hy1, _, hy3⟩ := hy i (by omega)
    rw [List.getElem?_eq_getElem hi] at hy1
    cases hy1
    refine hQ _ _ _ hy3 (Nat.le_trans (bulk_mem (List.mem_map.2 ⟨i, List.mem_range.2 (by omega), rfl⟩)) hdb)
  · rw [hl]
    have := bulk_len ((List.range len).map D)
    simp at this
    omega

/-- what a list of bytes that came in is -/
def BsOk (w : World) (y : Sl × List UInt8) (N : Nat) : Prop := y.1.n = y.2.length ∧ Rd w y.1.a (bts y.2) ∧ y.2.length ≤ y.1.c ∧ y.2.length ≤ N
theorem el_bytes {n : Nat} {cs : List Value} {x : DataW H × List MemPlace} (h : DataW.trod enc Tryz.prog w base spare held n 23 cs = some x) : ∃ y : Sl × List UInt8, cs = [y.1.val] ∧ BsOk w y (Rows.uptoBulk x.1) := by
  rcases open_ints Tryz.underlying23 Tryz.underlying5 (by kernel_rfl) h with ⟨hcs, hx⟩ | ⟨a, len, cap, zs, hcs, _, hl, hm, hz, hx, hcell, hws⟩
  · exact ⟨(⟨none, 0, 0⟩, []), hcs, rfl, Rd.nil _ _, Nat.zero_le _, Nat.zero_le _⟩
  · obtain ⟨d, p⟩ := x
    simp only [Prod.mk.injEq] at hx
    obtain ⟨rfl, _⟩ := hx
    have b1 := bulk_ints (H := H) .u8 (zs.take len)
    have hlen : (zs.take len).length = len := by rw [List.length_take, hz]; split <;> omega
    have hrd : Rd w (some a) (bts (u8s (zs.take len))) := Rd.ofBytes hcell hws
    refine ⟨(⟨some a, len, cap⟩, u8s (zs.take len)), hcs, by simp only; rw [u8s_length, hlen], hrd, by simp only; rw [u8s_length, hlen]; exact hl, ?_⟩
    simp only [Rows.uptoBulk]
    rw [u8s_length]
    omega
theorem el_files {n : Nat} {cs : List Value} {x : DataW H × List MemPlace} (h : DataW.trod enc Tryz.prog w base spare held n 22 cs = some x) : ∃ (a : Option Addr) (c : Nat) (ys : List (Sl × List UInt8)), cs = [.slice a ys.length c] ∧ HdsB w a ys ∧ (∀ y ∈ ys, BsOk w y (Rows.uptoBulk x.1)) ∧ ys.length ≤ Rows.uptoBulk x.1 := by
  obtain ⟨d, p⟩ := x
  obtain ⟨a, c, ys, rfl, hr, hq, hl⟩ := slice_open (f := fun y : Sl × List UInt8 => [y.1.val]) (kk := 1) (fun _ => rfl) (by omega) (fun y N => BsOk w y N) (fun _ _ _ h1 h2 => ⟨h1.1, h1.2.1, h1.2.2.1, Nat.le_trans h1.2.2.2 h2⟩) Tryz.underlying22 (by kernel_rfl) (fun n cs d p h => el_bytes h) h
  have e : ys.flatMap (fun y : Sl × List UInt8 => [y.1.val]) = ys.map fun y => y.1.val := by
    have h0 : ∀ zs : List (Sl × List UInt8), zs.flatMap (fun y : Sl × List UInt8 => [y.1.val]) = zs.map fun y => y.1.val := fun zs => by
      induction zs with
      | nil => rfl
      | cons y ys ih => rw [List.flatMap_cons, ih]; rfl
    exact h0 ys
  rw [e] at hr
  exact ⟨a, c, ys, rfl, ⟨hr, fun y hy => ⟨(hq y hy).1, (hq y hy).2.1⟩⟩, hq, hl⟩
end
end Go.Proofs.YtjoiaejbahdjkaaGreat
/- ArchivePacks answers true of any files packed, where what it reads is of bulk at most 1048576. -/
namespace Go.Proofs.YtjoiaejbahdjkaaGreat.archivePacks
open Go Go.RowKit Go.Mine Go.ChangeShapes Go.WideShapes Go.ChangeAt
set_option linter.unusedVariables false

set_option maxRecDepth 100000 in
theorem contract (H : Type) (enc : TypeId × Value → H) (W : World) (base : Nat) (args : Array Value) (ds gs : List (DataW H)) (before : List MemPlace)
    (hval : ∀ (j : Nat) t v, Tryz.f3.params[j]? = some t → args[j]? = some v → Value.okWide Tryz.prog W .any base t v)
    (hW : DataW.Whole enc Tryz.prog Tryz.f3.params.toList Rows.archivePacksSpec.vars false W args.toList ds gs before) (hk : Rows.uptoSmall H (ds ++ gs) = true) :
    Calls Tryz.prog 3 args W fun e W' => ∃ v, e = .returned v ∧ Rows.archivePacksSpec.post enc Tryz.prog Tryz.f3 false true false false W args v W' := by
  have hW' := hW
  have hbulk := bulk_bound hk
  obtain ⟨p, q, hA0, hV, rfl, hfz, hnd⟩ := hW
  have hA : DataW.TrodAll enc Tryz.prog W 0 (fun _ => true) true Tryz.f3.params.toList args.toList ds p := hA0
  rw [Tryz.params3] at hA hval
  obtain ⟨v0, d0, rfl, rfl, h0⟩ := trodAll_one hA
  obtain ⟨rfl, rfl⟩ := trodVars_none hV
  obtain ⟨a0, len, cap, rfl⟩ := okWide_slice Tryz.underlying22 (hval 0 22 v0 rfl rfl)
  obtain ⟨fuel, hf⟩ := h0
  have fin : ∀ W' : World, Mine.Mod (fun _ => False) W W' → Rows.archivePacksSpec.post enc Tryz.prog Tryz.f3 false true false false W #[.slice a0 len cap] (.bool true) W' := fun W' hM =>
    law_fin (by rw [Tryz.params3]; intro t ht; simp at ht; subst ht; exact ⟨by kernel_rfl, of_decide_eq_true (by kernel_rfl)⟩) rfl rfl rfl rfl rfl hW' hM
  simp only [List.append_nil, Rows.uptoBulkAll] at hbulk
  obtain ⟨a, c, qs, hcs, hr, hq, hl⟩ := el_files hf
  simp [Value.cells] at hcs
  obtain ⟨rfl, rfl, rfl⟩ := hcs
  have hb : Rows.uptoBulk d0 ≤ 1048576 := by omega
  have hl' : qs.length ≤ Rows.uptoBulk d0 := hl
  refine (packs_walk a0 cap qs W ⟨hr, fun q h => ?_⟩ (by omega) (fun q h => ?_)).mono fun e W' ⟨he, hM⟩ => ⟨_, he, fin W' hM⟩
  · obtain ⟨q1, q2, q3, q4⟩ := hq q h
    have q4' : q.2.length ≤ Rows.uptoBulk d0 := q4
    exact ⟨q3, by omega⟩
  · obtain ⟨q1, q2, q3, q4⟩ := hq q h
    have q4' : q.2.length ≤ Rows.uptoBulk d0 := q4
    omega

set_option maxRecDepth 100000 in
theorem lifted (os : Os) (started : os.Started) (H : Type) (enc : TypeId × Value → H) (F : Stop.Interp) :
    ReturnsInHanded {} Tryz.checked os 3 .any ((Rows.OpenSpec.upto Rows.archivePacksSpec).pre6 enc Tryz.prog Tryz.f3 Rows.archivePacksUptoRow.domain false) (((Rows.OpenSpec.upto Rows.archivePacksSpec).at F).post enc Tryz.prog Tryz.f3 false true false false) := by
  refine returnsInHanded_of_cond (C := Tryz.checked) (s := Rows.OpenSpec.upto Rows.archivePacksSpec) (k := Rows.uptoSmall) rfl own started (by kernel_rfl) Tryz.func3
    (OpenSpec.witness (enc := enc) (C := Tryz.checked) (s := Rows.OpenSpec.upto Rows.archivePacksSpec) (k := Rows.uptoSmall) rfl false ⟨#[], #[.slice none 0 0], []⟩ 8 (by kernel_rfl) (by kernel_rfl) (by kernel_rfl)
      (x := ([.nil], [], [])) (by kernel_rfl) rfl (by kernel_rfl)) ?_
  intro W base args ds gs before hval hW _ hk _
  exact contract H enc W base args ds gs before hval hW hk

theorem over : Rows.archivePacksUptoRow.holds Tryz.pinned (Rows.OpenSpec.upto Rows.archivePacksSpec) :=
  OpenClaim.holds_of_cond 3 Tryz.f3 rfl rfl rfl rfl rfl rfl rfl ⟨rfl, rfl, rfl, rfl, rfl⟩ rfl rfl rfl rfl rfl (by kernel_rfl) Tryz.func3 (by kernel_rfl)
    (of_decide_eq_true (by kernel_rfl)) (by unfold Func.isWrapper; first | (rw [if_pos (by decide +kernel)]; kernel_rfl) | (rw [if_neg (by decide +kernel)]; exact ⟨rfl, rfl⟩))
    (fun os started H enc _ F => lifted os started H enc F)

theorem proved : Rows.ArchivePacksUptoSaid := over
end Go.Proofs.YtjoiaejbahdjkaaGreat.archivePacks
