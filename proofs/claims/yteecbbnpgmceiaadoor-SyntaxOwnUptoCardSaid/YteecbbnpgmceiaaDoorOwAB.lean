/-
  SyntaxOwn: an append to a full list, whoever it belongs to; a number as a text, and back.
-/
import Derived.Test.YteecbbnpgmceiaaDoorLawA
import Derived.Test.YteecbbnpgmceiaaDoorPar1
namespace Go.Mine
open Go Go.RowKit
section
variable {P : Program} {w : World}
/-- append to a slice that is full: new memory -/
theorem run_append_full {t tx ty e : TypeId} {k bytes : Nat} (ti : TI P t e k bytes) {a : Option Addr} {n : Nat} {xs : List Value} (ha : (a = none ∧ n = 0) ∨ ∃ b, a = some ⟨b, 0, none⟩)
    (h : Rd w a xs) (hxl : xs.length = n * k)
    {x : Value} {m : Nat} {news : List Value} (hs : Src P k tx x m news w) (hm : 0 < m) (hb : (n + m) * bytes ≤ 140737488355328) (h63 : n + m ≤ maxLen) :
    ∃ g c' w', (Builtin.append_ #[t, tx] ty #[.slice a n n, x]).run P w = .ok (.slice (some ⟨g, 0, none⟩) (n + m) c') w' ∧ Own w' e k (some ⟨g, 0, none⟩) (n + m) c' (xs ++ news) ∧
      Mod (fun _ => False) w w' ∧ w.heap.size ≤ g := by
  rcases ha with ⟨rfl, rfl⟩ | ⟨b, rfl⟩
  · obtain rfl : xs = [] := List.eq_nil_of_length_eq_zero (by simpa using hxl)
    obtain ⟨a', c', w', hr, h2, h3, h4, h5⟩ := run_append_mine (ty := ty) ti (Own.nil w e k) hs hb h63
    obtain ⟨g, rfl⟩ := h2.atHead (by omega)
    refine ⟨g, c', w', hr, h2, h3.mono (fun _ _ e => by simp at e), ?_⟩
    rcases h4 with e | ⟨b, e, hb⟩
    · simp at e
    · cases e; exact hb
  obtain ⟨i, z, hi, hz, rfl, rfl, hzs⟩ := ti.ex
  have hlen : (xs ++ news).length = (n + m) * i.size := by rw [List.length_append, hxl, hs.newsLen, Nat.add_mul]
  have hnew : n + m ≤ 9223372036854775807 := by unfold maxLen at h63; omega
  have holds : ∀ j u, xs[j]? = some u → w.drew.cell? ((⟨b, 0, none⟩ : Addr).add j) = some u := fun j u hu => by
    have hadd : (⟨b, 0, none⟩ : Addr).add j = ⟨b, 0 + j, none⟩ := by unfold Addr.add; split <;> simp_all
    rw [hadd]
    obtain ⟨b', o', e', hc⟩ := h j u hu
    cases e'
    simpa using hc
  have hold := run_firstCells_some (P := P) w.drew i.size n ⟨b, 0, none⟩ n n xs hxl holds
  have hr := run_append_grow_src (P := P) w t tx ty e i z ti.ht hi hz (some ⟨b, 0, none⟩) n n xs hold x m news hs (by omega) (by omega) (growslice_fits (by omega) hb)
  have hge := grownCap_ge w (n + m) n e
  have hcm : grownCap w (n + m) n e ≤ maxLen := grownCap_le_maxLen w (n + m) n e h63
  refine ⟨_, _, _, hr, ⟨hlen, .inr ⟨w.heap.size, _, rfl, heap_alloc_new w.drew _, hge, hcm, ?_, ?_⟩⟩, (Mod.refl _ w).drew.alloc _, Nat.le_refl _⟩
  · simp only [Array.size_append, List.size_toArray, size_zeroCells, hzs, hlen, ← Nat.add_mul]
    congr 1
    omega
  · simp only [Array.toList_append]
    rw [← hlen]
    exact List.take_left
/-- append of elements that were just laid to a list that is full -/
theorem wpL_append_fullN {ops : Array Oper} {rest : List Oper} {o : Oper} {A : Act} {Q : Exit → Act → World → Prop} (hgd : o.guard = none) (s x : Operand) (t : TypeId)
    (ho : o.op = .call { callee := .builtin .append, args := #[s, x], argTypes := #[t, t] }) {e : TypeId} {k bytes : Nat} (ti : TI P t e k bytes)
    {a : Option Addr} {n : Nat} {xs : List Value} (hs : A.eval s = .slice a n n) (ha : (a = none ∧ n = 0) ∨ ∃ b, a = some ⟨b, 0, none⟩) (h : Rd w a xs) (hxl : xs.length = n * k)
    {m m' gx : Nat} {us : List Value} (hx : A.eval x = .slice (some ⟨gx, 0, none⟩) m m') (hu : us.length = m * k) (h1 : us.all Value.oneCell' = true) (hm : 0 < m)
    (hb : (n + m) * bytes ≤ 140737488355328) (h63 : n + m ≤ maxLen)
    (hk : ∀ g c' w', Own w' e k (some ⟨g, 0, none⟩) (n + m) c' (xs ++ us) → Mod (fun _ => False) w w' → w.heap.size ≤ g →
      wpList P ops Q rest (A.put o.dst (.slice (some ⟨g, 0, none⟩) (n + m) c')) w') (hgx : gx = w.heap.size := by first | rfl | simp) : wpList P ops Q (o :: rest) A (w.alloc (.cells us.toArray e)) := by
  subst hgx
  refine wpList_plain hgd fun _ hK => ?_
  have hm1 : Mod (fun _ => False) w (w.alloc (.cells us.toArray e)) := (Mod.refl _ w).alloc _
  obtain ⟨g, c', w', hr, h2, h3, h4⟩ := run_append_full (ty := o.type) ti ha (h.mod hm1 (fun _ _ => id)) hxl (Src.ofRd ti.ht m m' (Rd.news w us e) hu (by simpa using h1)) hm hb h63
  unfold Oper.wp execOp
  simp only [ho, resolve, invoke, builtin, Sem.run_bind, Sem.run_pure, Result.andThen_ok, List.map_toArray, List.map_cons, List.map_nil, hs, hx, hr]
  exact hK _ _ (hk g c' w' h2 (hm1.trans h3) (Nat.le_trans hm1.size h4))
end
end Go.Mine
namespace Go.Proofs.YteecbbnpgmceiaaDoor
open Go Go.RowKit Go.Mine
set_option linter.unusedVariables false
set_option maxHeartbeats 1000000
set_option maxRecDepth 100000

/-- a number below 2 to the 24 as three bytes -/
def txt3 (n : Nat) : ByteArray := ⟨#[UInt8.ofNat n, UInt8.ofNat (n / 256), UInt8.ofNat (n / 65536)]⟩
theorem text_any (n : Nat) (w : World) (hn : n < 2 ^ 24) : Calls Tryd.prog 108 #[.int .i64 n] w fun e w' => e = .returned (.string (txt3 n)) ∧ Mod (fun _ => False) w w' := by
  have h0 : (UInt8.ofNat n).toNat = n % 256 := by simp
  have h1 : (UInt8.ofNat (n / 256)).toNat = n / 256 % 256 := by simp
  have h2 : (UInt8.ofNat (n / 65536)).toNat = n / 65536 := by simp; omega
  have hcv : (convert 22 9 (.slice (some ⟨w.heap.size, 0, none⟩) 3 3)).run Tryd.prog (w.alloc (.cells #[.int .u8 ((n : Int) % 256), .int .u8 ((n : Int) / 256 % 256), .int .u8 ((n : Int) / 65536)] 5)) = .ok (.string (txt3 n)) (w.alloc (.cells #[.int .u8 ((n : Int) % 256), .int .u8 ((n : Int) / 256 % 256), .int .u8 ((n : Int) / 65536)] 5)) := by
    refine run_bytes_str (P := Tryd.prog) (src := 22) (dst := 9) (e := 5) (a := some ⟨w.heap.size, 0, none⟩) (l := [UInt8.ofNat n, UInt8.ofNat (n / 256), UInt8.ofNat (n / 65536)]) (by kernel_rfl) (by kernel_rfl) (by kernel_rfl) 3 ?_
    simp only [bts, List.map_cons, List.map_nil, h0, h1, h2]
    have := Rd.news w [.int .u8 ((n : Int) % 256), .int .u8 ((n : Int) / 256 % 256), .int .u8 ((n : Int) / 65536)] 5
    simpa using this
  clear h0 h1 h2
  go_enter Tryd.func108, Tryd.ntmps108
  go_wp2_with fail
  go_ret
  exact ⟨rfl, (Mod.refl _ w).alloc _⟩
theorem value_any (n : Nat) (w : World) (hn : n < 2 ^ 24) : Calls Tryd.prog 109 #[.string (txt3 n)] w fun e w' => e = .returned (.int .i64 n) ∧ Mod (fun _ => False) w w' := by
  obtain ⟨s, hs, h0, x0, x1, x2⟩ : ∃ s, s = txt3 n ∧ ∃ h0 : s.size = 3, s[0].toNat = n % 256 ∧ s[1].toNat = n / 256 % 256 ∧ s[2].toNat = n / 65536 :=
    ⟨_, rfl, rfl, by show (UInt8.ofNat n).toNat = _; simp, by show (UInt8.ofNat (n / 256)).toNat = _; simp, by show (UInt8.ofNat (n / 65536)).toNat = _; simp; omega⟩
  rw [← hs]
  clear hs
  go_enter Tryd.func109, Tryd.ntmps109
  go_wp2_with fail
  refine wp_region_ord (fun _ => True) [(0, 0), (0, 1), (0, 2), (0, 3), (0, 4), (0, 5), (0, 6), (0, 7), (0, 8), (0, 9), (0, 10), (0, 11), (0, 12), (0, 13)] (by kernel_rfl) (by kernel_rfl) ?_
  go_wp2_with (first
    | (refine ord_pure rfl rfl rfl (fun K hK => ?_); go_big_quiet_op; refine hK _ ?_; clear hK K)
    | (refine ord_skip rfl rfl ?_; simp only [Act.put, List.setIfInBounds_toArray, List.set_cons_zero, List.set_cons_succ])
    | (refine ord_held rfl rfl rfl trivial (fun K hK => ?_); apply Exists.intro; refine ⟨fun w' hs => ?_, hK _ ?_⟩; (revert hs; dsimp only; (try simp only [and_imp]); intros; go_simp; rfl); clear hK K)
    | (refine ord_nil ?_))
  go_ret
  have : ((n : Int) % 256 + (n : Int) / 256 % 256 * 256 + (n : Int) / 65536 * 65536) = (n : Int) := by omega
  exact ⟨congrArg (fun z => Ending.returned (.int .i64 z)) this, (Mod.refl _ w).drew⟩
end Go.Proofs.YteecbbnpgmceiaaDoor
/-
  SyntaxOwn, the plain part of markTerms, markLiterals, markRules: rows of marks, lists that are written over.
-/
namespace Go.Proofs.YteecbbnpgmceiaaDoor
open Go Go.RowKit Go.Mine
set_option linter.unusedVariables false
set_option maxHeartbeats 1000000
set_option maxRecDepth 100000

/-- n marks, counted from c -/
def rowL (mk : Nat → List Value) (c n : Nat) : List Value := (List.range n).flatMap (fun k => mk (c + k))
section
variable {mk : Nat → List Value} {K : Nat}
theorem rowL_zero (c : Nat) : rowL mk c 0 = [] := by simp [rowL]
theorem rowL_succ (c n : Nat) : rowL mk c (n + 1) = rowL mk c n ++ mk (c + n) := by
  unfold rowL; rw [List.range_succ, List.flatMap_append]; simp
theorem rowL_length (hK : ∀ x, (mk x).length = K) (c n : Nat) : (rowL mk c n).length = n * K := by
  induction n with
  | zero => simp [rowL]
  | succ n ih => rw [rowL_succ, List.length_append, ih, hK, Nat.succ_mul]
theorem rowL_get (hK : ∀ x, (mk x).length = K) (c : Nat) {n k t : Nat} (hk : k < n) (ht : t < K) : (rowL mk c n)[k * K + t]? = (mk (c + k))[t]? := by
  induction n with
  | zero => omega
  | succ n ih =>
    rw [rowL_succ]
    by_cases h : k < n
    · rw [List.getElem?_append_left, ih h]
      rw [rowL_length hK]
      have := Nat.mul_le_mul_right K (show k + 1 ≤ n from h)
      rw [Nat.succ_mul] at this
      omega
    · obtain rfl : k = n := by omega
      rw [List.getElem?_append_right (by rw [rowL_length hK]; omega), rowL_length hK]
      congr 1
      omega
end
def setL : List Value → Nat → List Value → List Value
  | l, _, [] => l
  | l, j, u :: us => setL (l.set j u) (j + 1) us
theorem setL_mid (us : List Value) : ∀ (pre rest : List Value), us.length ≤ rest.length → setL (pre ++ rest) pre.length us = pre ++ us ++ rest.drop us.length := by
  induction us with
  | nil => intro pre rest _; simp [setL]
  | cons u us ih =>
    intro pre rest h
    cases rest with
    | nil => simp at h
    | cons x rest =>
      have := ih (pre ++ [u]) rest (by simpa using h)
      simp only [List.length_append, List.length_cons, List.length_nil, Nat.zero_add, List.append_assoc, List.cons_append, List.nil_append] at this
      simp only [setL, List.set_append_right _ _ (Nat.le_refl _), Nat.sub_self, List.set_cons_zero, this, List.length_cons, List.drop_succ_cons, List.append_assoc, List.cons_append]
def setsW : World → Nat → Nat → List Value → World
  | w, _, _, [] => w
  | w, b, j, u :: us => setsW (w.setCell ⟨b, j, none⟩ u) b (j + 1) us
section
variable {w w' : World} {e : TypeId} {k b n : Nat} {xs : List Value}
theorem Clp.set (h : Clp w e k (some ⟨b, 0, none⟩) n xs) (j : Nat) (u : Value) : Clp (w.setCell ⟨b, j, none⟩ u) e k (some ⟨b, 0, none⟩) n (xs.set j u) := by
  refine ⟨by rw [List.length_set]; exact h.1, ?_⟩
  rcases h.2 with ⟨h1, _⟩ | ⟨b', cur, h1, h2, h3, h4⟩
  · cases h1
  · cases h1
    refine .inr ⟨b, _, rfl, heap_setCell_at u h2, by simpa using h3, ?_⟩
    rw [← h4]
    apply List.ext_getElem?
    intro i
    simp only [List.getElem?_take, List.getElem?_set, Array.getElem?_toList, Array.toList_setIfInBounds, List.length_take, Array.length_toList]
    split <;> split <;> simp_all <;> omega
theorem Clp.sets (us : List Value) : ∀ {w : World} {xs : List Value} (j : Nat), Clp w e k (some ⟨b, 0, none⟩) n xs → Clp (setsW w b j us) e k (some ⟨b, 0, none⟩) n (setL xs j us) := by
  induction us with
  | nil => intro w xs j h; exact h
  | cons u us ih => intro w xs j h; exact ih (j + 1) (h.set j u)
theorem setsW_mod {S : Nat → Prop} (us : List Value) : ∀ {w0 w : World} (j : Nat), Mod S w0 w → S b → Mod S w0 (setsW w b j us) := by
  induction us with
  | nil => intro w0 w j h _; exact h
  | cons u us ih => intro w0 w j h hs; exact ih (j + 1) (h.setCell (fun _ => hs) u) hs
/-- one more mark -/
theorem Clp.fill {mk : Nat → List Value} (hK : ∀ x, (mk x).length = k) {c i : Nat} (hx : xs.length = n * k) (hi : i < n) (h : Clp w e k (some ⟨b, 0, none⟩) n (rowL mk c i ++ xs.drop (i * k))) :
    Clp (setsW w b (i * k) (mk (c + i))) e k (some ⟨b, 0, none⟩) n (rowL mk c (i + 1) ++ xs.drop ((i + 1) * k)) := by
  have h2 := Clp.sets (mk (c + i)) (i * k) h
  have hl : (rowL mk c i).length = i * k := rowL_length hK c i
  have hle : (i + 1) * k ≤ n * k := Nat.mul_le_mul_right _ hi
  rw [Nat.succ_mul] at hle
  have := setL_mid (mk (c + i)) (rowL mk c i) (xs.drop (i * k)) (by rw [hK, List.length_drop]; omega)
  rw [hl, List.drop_drop, hK] at this
  rw [this] at h2
  rw [rowL_succ, Nat.succ_mul]
  exact h2
theorem Clp.head {a : Option Addr} (h : Clp w e k a n xs) : (a = none ∧ n = 0) ∨ ∃ b, a = some ⟨b, 0, none⟩ := by
  rcases h.2 with h1 | ⟨b, _, rfl, _⟩
  · exact .inl h1
  · exact .inr ⟨b, rfl⟩
end
/-- lists -/
abbrev Ps := List (Option Addr × Nat)
def psV (L : Ps) : List Value := L.map fun p => .slice p.1 p.2 p.2
/-- lists of the call's own, apart -/
structure Apart (w : World) (e : TypeId) (K : Nat) (L : Ps) : Prop where
  clp : ∀ p ∈ L, ∃ xs, Clp w e K p.1 p.2 xs
  nd : ∀ (i j : Nat) (p q : Option Addr × Nat) (b : Nat), i < j → L[i]? = some p → L[j]? = some q → blk p.1 = some b → blk q.1 ≠ some b
  sm : ∀ p ∈ L, p.2 ≤ 2048
  len : L.length ≤ 1000000
/-- blocks of lists -/
def inPs (L : Ps) (b : Nat) : Prop := ∃ p ∈ L, blk p.1 = some b
/-- the first i lists are filled -/
def Fil (w : World) (e : TypeId) (K : Nat) (mk : Nat → List Value) (L : Ps) (i : Nat) : Prop :=
  ∀ j p, L[j]? = some p → ∃ xs, Clp w e K p.1 p.2 xs ∧ (j < i → xs = rowL mk (1000 * j) p.2)
theorem Apart.fil0 {w : World} {e : TypeId} {K : Nat} {L : Ps} (mk : Nat → List Value) (h : Apart w e K L) : Fil w e K mk L 0 := fun j p hp => by
  obtain ⟨xs, hx⟩ := h.clp p (List.mem_of_getElem? hp)
  exact ⟨xs, hx, fun h => by omega⟩
/-- list i was filled: nothing else was touched -/
theorem Fil.next {w w' : World} {e : TypeId} {K : Nat} {mk : Nat → List Value} {L : Ps} {i : Nat} (h : Fil w e K mk L i) {w0 : World} (hA : Apart w0 e K L) {p : Option Addr × Nat} (hp : L[i]? = some p)
    (hM : Mod (fun b => blk p.1 = some b) w w') (hc : Clp w' e K p.1 p.2 (rowL mk (1000 * i) p.2)) : Fil w' e K mk L (i + 1) := by
  intro j q hq
  by_cases hj : j = i
  · subst hj
    rw [hp] at hq
    cases hq
    exact ⟨_, hc, fun _ => rfl⟩
  · obtain ⟨xs, h1, h2⟩ := h j q hq
    refine ⟨xs, h1.mod hM ?_, fun h => h2 (by omega)⟩
    intro b hb hb2
    rcases Nat.lt_or_ge j i with hlt | hge
    · exact hA.nd j i q p b hlt hq hp hb hb2
    · exact hA.nd i j p q b (by omega) hp hq hb2 hb
theorem Clp.cellAt {w : World} {e : TypeId} {k b n : Nat} {xs : List Value} (h : Clp w e k (some ⟨b, 0, none⟩) n xs) {j : Nat} (hj : j < n * k) : (∃ u, w.cell? ⟨b, j, none⟩ = some u) ∧ w.frozen? ⟨b, j, none⟩ = false := by
  rcases h.2 with ⟨h1, _⟩ | ⟨b', cur, h1, h2, h3, h4⟩
  · cases h1
  · cases h1
    refine ⟨⟨cur[j], ?_⟩, frozen_at h2⟩
    exact cell_at h2 (Array.getElem?_eq_getElem (by omega))
theorem psV_cell {w : World} {a : Option Addr} {L : Ps} (hr : Rd w a (psV L)) {i : Nat} {p : Option Addr × Nat} (hp : L[i]? = some p) : ∃ b o, a = some ⟨b, o, none⟩ ∧ w.cell? ⟨b, o + i, none⟩ = some (.slice p.1 p.2 p.2) :=
  hr i _ (by simp [psV, hp])
/-- what more holds: per list its block, its length, its room -/
abbrev Ms := List (Nat × Nat × Nat)
def msV (M : Ms) : List Value := M.map fun q => .slice (some ⟨q.1, 0, none⟩) q.2.1 q.2.2
def More (w0 w : World) (mk : Nat → List Value) (L : Ps) (am : Option Addr) (M : Ms) : Prop :=
  ∀ j q, M[j]? = some q → ∃ p, L[j]? = some p ∧ q.2.1 = p.2 + 40 ∧ Rd w (some ⟨q.1, 0, none⟩) (rowL mk (1000 * j) p.2 ++ rowL mk (500000 + 1000 * j) 40) ∧ w0.heap.size ≤ q.1 ∧ q.1 < w.heap.size ∧ blk am ≠ some q.1
theorem More.nil (w0 w : World) (mk : Nat → List Value) (L : Ps) (am : Option Addr) : More w0 w mk L am [] := fun j q h => by simp at h
theorem More.next {w0 w w1 w2 : World} {mk : Nat → List Value} {L : Ps} {am am' : Option Addr} {M : Ms} (h : More w0 w mk L am M) {g c : Nat} {p : Option Addr × Nat} (hp : L[M.length]? = some p)
    (hM : Mod (fun _ => False) w w1) (hr : Rd w1 (some ⟨g, 0, none⟩) (rowL mk (1000 * M.length) p.2 ++ rowL mk (500000 + 1000 * M.length) 40)) (hg : w.heap.size ≤ g) (hg1 : g < w1.heap.size) (hw0 : w0.heap.size ≤ w.heap.size)
    (ham : ∀ b, blk am = some b → b < w.heap.size) (hG : Mine.Grow w1 am w2 am') : More w0 w2 mk L am' (M ++ [(g, p.2 + 40, c)]) := by
  intro j q hq
  rcases Nat.lt_or_ge j M.length with hlt | hge
  · rw [List.getElem?_append_left hlt] at hq
    obtain ⟨p', h1, h2, h3, h4, h5, h6⟩ := h j q hq
    have h5' : q.1 < w1.heap.size := Nat.lt_of_lt_of_le h5 hM.size
    refine ⟨p', h1, h2, (h3.mod hM (fun _ _ => id)).mod hG.mod ?_, h4, Nat.lt_of_lt_of_le h5' hG.mod.size, hG.ne h5' h6⟩
    intro b hb e
    simp at hb
    subst hb
    exact h6 e
  · rw [List.getElem?_append_right hge] at hq
    obtain ⟨rfl, rfl⟩ : j = M.length ∧ q = (g, p.2 + 40, c) := by
      rcases hd : j - M.length with _ | d
      · rw [hd] at hq; simp at hq; exact ⟨by omega, hq.symm⟩
      · rw [hd] at hq; simp at hq
    have hne : blk am ≠ some g := fun e => by have := ham g e; omega
    refine ⟨p, hp, rfl, hr.mod hG.mod ?_, Nat.le_trans hw0 hg, Nat.lt_of_lt_of_le hg1 hG.mod.size, hG.ne hg1 hne⟩
    intro b hb e
    simp at hb
    subst hb
    exact hne e
theorem rd_at {w : World} {b : Nat} {xs : List Value} (h : Rd w (some ⟨b, 0, none⟩) xs) {j : Nat} {u : Value} (hj : xs[j]? = some u) : w.cell? ⟨b, j, none⟩ = some u := by
  obtain ⟨b', o, e, hc⟩ := h j u hj
  cases e
  simpa using hc
theorem rowCell {mk : Nat → List Value} {K : Nat} (hK : ∀ x, (mk x).length = K) {w : World} {b c n k t j : Nat} {rest : List Value} (h : Rd w (some ⟨b, 0, none⟩) (rowL mk c n ++ rest)) (hk : k < n) (ht : t < K) (hj : j = k * K + t)
    {u : Value} (hu : (mk (c + k))[t]? = some u) : w.cell? ⟨b, j, none⟩ = some u := by
  refine rd_at h ?_
  have := Nat.mul_le_mul_right K (show k + 1 ≤ n from hk)
  rw [Nat.succ_mul] at this
  rw [List.getElem?_append_left (by rw [rowL_length hK]; omega), hj, rowL_get hK c hk ht]
  exact hu
theorem rowCell2 {mk : Nat → List Value} {K : Nat} (hK : ∀ x, (mk x).length = K) {w : World} {b c c2 n m k t j : Nat} (h : Rd w (some ⟨b, 0, none⟩) (rowL mk c n ++ rowL mk c2 m)) (hk : k < m) (ht : t < K) (hj : j = (n + k) * K + t)
    {u : Value} (hu : (mk (c2 + k))[t]? = some u) : w.cell? ⟨b, j, none⟩ = some u := by
  refine rd_at h ?_
  rw [List.getElem?_append_right (by rw [rowL_length hK, hj, Nat.add_mul]; omega), rowL_length hK, hj, Nat.add_mul, show n * K + k * K + t - n * K = k * K + t by omega, rowL_get hK c2 hk ht]
  exact hu
theorem msV_cell {w : World} {a : Option Addr} {M : Ms} (hr : Rd w a (msV M)) {i : Nat} {q : Nat × Nat × Nat} (hq : M[i]? = some q) : ∃ b o, a = some ⟨b, o, none⟩ ∧ w.cell? ⟨b, o + i, none⟩ = some (.slice (some ⟨q.1, 0, none⟩) q.2.1 q.2.2) :=
  hr i _ (by simp [msV, hq])
end Go.Proofs.YteecbbnpgmceiaaDoor
