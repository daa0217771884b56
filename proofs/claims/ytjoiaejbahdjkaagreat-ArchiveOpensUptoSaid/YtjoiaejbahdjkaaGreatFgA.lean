/-
  A region that draws its order, whose last operation waits on all the others and may leave by a panic.
-/
import Derived.Test.YtjoiaejbahdjkaaGreatOrd
import Derived.Test.YtjoiaejbahdjkaaGreatCrc2
import Derived.Test.YtjoiaejbahdjkaaGreatColDe
import Derived.Test.YtjoiaejbahdjkaaGreatCqF
namespace Go.Mine
open Go Go.RowKit
set_option linter.unusedVariables false
section
variable {P : Program} {l : List Oper} {S : World → Prop} {Q Q' : Exit → Act → World → Prop}
theorem wp_exit {o : Oper} {a : Act} {w : World} {K : Act → World → Prop} (h : o.wp P a w K (Strict Q')) : o.wp P a w K Q := by
 unfold Oper.wp at *
 generalize (execOp a.eval o).run P w = r at *
 cases r with
 | halt x w1 => cases x <;> simp only [Oper.upon] at * <;> exact h.elim
 | ok n w1 =>
   cases n <;> simp only [Oper.upon] at *
   case value => exact h
   case skip => exact h
   case enter =>
    refine h.mono fun e w2 hh => ?_
    cases e with
    | returned v => exact hh
    | panicked c => exact (hh : False).elim
    | outgrown => obtain ⟨a', w', hh⟩ := hh; exact (hh : False).elim
   case row => exact h
   case defer => exact h
theorem ordStep_wpOpL {x : Nat × Nat} {K : Act → World → Prop} {a : Act} {w : World} (h : OrdStep P l S Q' x K a w) : Go.wpOp P l.toArray Q x.2 K a w := by
 have h1 := h.wpOp
 unfold Go.wpOp at *
 split
 ·simpa [*] using h1
 ·rename_i o ho
  simp only [ho] at h1
  split
  ·rename_i hw
   simp only [hw, if_true] at h1
   rcases h1 with h1 | ⟨_, h1⟩
   ·exact .inl (wp_exit h1)
   ·obtain ⟨a', w', hh⟩ := h1; exact (hh : False).elim
  ·rename_i hw
   simp only [hw] at h1
   exact h1
def LastQ (P : Program) (l : List Oper) (Q : Exit → Act → World → Prop) (i : Nat) : Exit → Act → World → Prop
 | .normal, a, w => wpOp P l.toArray Q i (Q .normal) a w
 | _, _, _ => True
theorem lastQ_wp {i : Nat} {a : Act} {w : World} {o : Oper} (ho : l[i]? = some o) (hw : Region.wanted o (yielded l.toArray a.tmps) = true) (h : o.wp P a w (Q .normal) Q) : LastQ P l Q i .normal a w := by
 show wpOp P l.toArray Q i (Q .normal) a w
 unfold Go.wpOp
 have ho' : l.toArray[i]? = some o := by simpa using ho
 rw [ho']
 simp only [hw, if_true]
 exact .inl h
theorem wpAny_of_ordL (hsel : Region.noSelect l.toArray = true) (hcl : closureOk l (closure l) = true) (hback : edgesBack l = true) (i : Nat) : ∀ (m : Nat) (r : List (Nat × Nat)) (listed : Array Bool) (a : Act) (w : World),
 r.length = m → OrdInv l (r ++ [(3, i)]) listed → (∀ x ∈ r, x.2 ∈ (closure l).getD i []) → wpOrd P l S (LastQ P l Q i) r a w → wpAny P .any l.toArray Q (m + 1) listed a w := by
 intro m
 induction m with
 | zero =>
   intro r listed a w hm inv hin h
   obtain rfl : r = [] := List.eq_nil_of_length_eq_zero hm
   have hi : i < l.length := inv.lt (3, i) (by simp)
   have hleft : listed.getD i true = false := (inv.left i hi).2 (by simp)
   refine ⟨fun h0 => ?_, fun j hj => ?_⟩
   ·exfalso
    have : i ∈ Region.ready .any l.toArray listed := by
     refine mem_ready.2 ⟨hleft, l[i], by simp [hi], fun e he hb => ?_⟩
     simp only [edgesBack, List.all_eq_true, List.mem_range] at hback
     have hb2 := hback i hi
     rw [List.getElem?_eq_getElem hi] at hb2
     simp only [List.all_eq_true, Bool.or_eq_true, Bool.not_eq_true', decide_eq_true_eq] at hb2
     have hlt2 : e.on < i := by
      rcases hb2 e (by simpa using he) with h | h
      ·rw [hb] at h; cases h
      ·exact h
     have := mt (inv.left e.on (by omega)).1 (by simp; omega)
     rw [getD_bool (by rw [inv.size]; omega) false true]
     simpa using this
    rw [h0] at this; cases this
   ·obtain ⟨h1, o, ho, hall⟩ := mem_ready.1 hj
    have hlt : j < l.length := by
     have := (Array.getElem?_eq_some_iff.1 ho).1; simpa using this
    have hji : j = i := by simpa using (inv.left j hlt).1 h1
    subst hji
    refine wpOp_mono (fun a' w' h' => ?_) (show wpOp P l.toArray Q j (Q .normal) a w from h)
    refine ⟨List.eq_nil_iff_forall_not_mem.2 fun k hk => ?_, h'⟩
    obtain ⟨g1, o', ho', _⟩ := mem_ready.1 hk
    have hkl : k < l.length := by
     have := (Array.getElem?_eq_some_iff.1 ho').1; simpa using this
    by_cases e : j = k
    ·subst e; simp [inv.size, hkl] at g1
    ·rw [getD_set_ne true e] at g1
     have := (inv.left k hkl).1 g1
     simp at this
     exact e this.symm
 | succ m ih =>
   intro r listed a w hm inv hin h
   have hi : i < l.length := inv.lt (3, i) (by simp)
   refine ⟨fun h0 => ?_, fun j hj => ?_⟩
   ·exfalso
    obtain ⟨k, hk, hmin⟩ := exists_min ((r ++ [(3, i)]).map (fun x : Nat × Nat => x.2)) (by simp)
    obtain ⟨x, hx, rfl⟩ := List.mem_map.1 hk
    have hlt := inv.lt x hx
    have : x.2 ∈ Region.ready .any l.toArray listed := by
     refine mem_ready.2 ⟨(inv.left _ hlt).2 hk, l[x.2], by simp [hlt], fun e he hb => ?_⟩
     simp only [edgesBack, List.all_eq_true, List.mem_range] at hback
     have hb2 := hback x.2 hlt
     rw [List.getElem?_eq_getElem hlt] at hb2
     simp only [List.all_eq_true, Bool.or_eq_true, Bool.not_eq_true', decide_eq_true_eq] at hb2
     have hlt2 : e.on < x.2 := by
      rcases hb2 e (by simpa using he) with h | h
      ·rw [hb] at h; cases h
      ·exact h
     have hn : ¬ e.on ∈ (r ++ [(3, i)]).map (fun x : Nat × Nat => x.2) := fun hh => by have := hmin _ hh; omega
     have := mt (inv.left e.on (by omega)).1 hn
     rw [getD_bool (by rw [inv.size]; omega) false true]
     simpa using this
    rw [h0] at this; cases this
   ·obtain ⟨h1, o, ho, hall⟩ := mem_ready.1 hj
    have hlt : j < l.length := by
     have := (Array.getElem?_eq_some_iff.1 ho).1; simpa using this
    have hol : l[j]? = some o := by simpa using ho
    obtain ⟨y, hy, hyj⟩ := List.mem_map.1 ((inv.left j hlt).1 h1)
    have hyr : y ∈ r := by
     rcases List.mem_append.1 hy with h | h
     ·exact h
     ·exfalso
      rw [List.mem_singleton] at h
      subst h
      have hyj : i = j := hyj
      subst hyj
      obtain ⟨z, hz⟩ : ∃ z, z ∈ r := List.exists_mem_of_length_pos (by omega)
      have hl := closure_listed hcl inv.down i o hlt hol hall z.2 (hin z hz)
      have hzl := inv.lt z (by simp [hz])
      have := (inv.left z.2 hzl).2 (by simp; exact Or.inl ⟨z.1, hz⟩)
      rw [getD_bool (by rw [inv.size]; exact hzl) true false, hl] at this
      cases this
    subst hyj
    obtain ⟨pre, post, rfl⟩ := List.append_of_mem hyr
    have inv2 : OrdInv l (pre ++ y :: (post ++ [(3, i)])) listed := by simpa using inv
    obtain ⟨hp1, hp2⟩ := pairsOk_app pre inv2.pairs
    have hpre : ∀ x ∈ pre, okPair x.1 y.1 = true ∧ ∃ ox oy, l[x.2]? = some ox ∧ l[y.2]? = some oy ∧ ox.apart l.toArray oy = true := by
     intro x hx
     have hxy := hp2 x hx
     simp only [pairOk, Bool.or_eq_true, Bool.and_eq_true, List.contains_iff_mem] at hxy
     rcases hxy with hxy | ⟨h2, h3⟩
     ·exfalso
      have hl := closure_listed hcl inv.down y.2 o hlt hol hall x.2 hxy
      have hxl := inv.lt x (by simp [hx])
      have := (inv.left x.2 hxl).2 (List.mem_map.2 ⟨x, by simp [hx], rfl⟩)
      rw [getD_bool (by rw [inv.size]; exact hxl) true false, hl] at this
      cases this
     ·refine ⟨h2, ?_⟩
      have hxl := inv.lt x (by simp [hx])
      rw [hol, List.getElem?_eq_getElem hxl] at h3
      simp only [Bool.and_eq_true] at h3
      exact ⟨l[x.2], o, by simp [hxl], hol, h3.1⟩
    refine wpOp_mono (fun a' w' h' => ?_) (ordStep_wpOpL (wpOrd.front hsel pre hpre a w h))
    refine ih (pre ++ post) _ _ _ (by simp at hm ⊢; omega) ?_ (fun x hx => hin x (by rcases List.mem_append.1 hx with h | h <;> simp [h])) h'
    have hap : pre ++ post ++ [(3, i)] = pre ++ (post ++ [(3, i)]) := List.append_assoc _ _ _
    rw [hap]
    refine ⟨by simpa using inv2.size, fun x hx => inv2.lt x ?_, ?_, fun k hk => ?_, ?_, hp1⟩
    ·rcases List.mem_append.1 hx with h | h
     ·simp [h]
     ·exact List.mem_append_right _ (List.mem_cons_of_mem _ h)
    ·have := inv2.nodup
     simp only [List.map_append, List.map_cons] at this ⊢
     exact (List.nodup_cons.1 (List.perm_middle.nodup_iff.1 this)).2
    ·have hnd := inv2.nodup
     simp only [List.map_append, List.map_cons] at hnd
     have hnd2 := (List.nodup_cons.1 (List.perm_middle.nodup_iff.1 hnd)).1
     by_cases e : y.2 = k
     ·subst e
      simp only [List.map_append]
      constructor
      ·intro hh; simp [inv2.size, hlt] at hh
      ·intro hh; exact absurd hh (by simpa using hnd2)
     ·rw [getD_set_ne true e, inv2.left k hk]
      simp only [List.map_append, List.map_cons, List.mem_append, List.mem_cons]
      constructor
      ·rintro (h | h | h)
       ·exact .inl h
       ·exact absurd h.symm e
       ·exact .inr h
      ·rintro (h | h)
       ·exact .inl h
       ·exact .inr (.inr h)
    ·intro k ok hk hok e he hb
     by_cases e1 : y.2 = k
     ·subst e1
      rw [hol] at hok; cases hok
      exact getD_set_true (hall e he hb)
     ·have hk' : listed.getD k false = true := by rwa [getD_set_ne false e1] at hk
      exact getD_set_true (inv2.down k ok hk' hok e he hb)
theorem wp_region_ordL {id : Nat} {a : Act} {w : World} (S : World → Prop) (ord : List (Nat × Nat)) (i : Nat) (hm : P.follows .mixedOrders = true) (hB : (ordOk l (ord ++ [(3, i)]) && ord.all fun x => ((closure l).getD i []).contains x.2) = true)
 (h : wpOrd P l S (LastQ P l Q i) ord a w.drew) : (Code.region id l.toArray true).wp P Q a w := by
 rw [Bool.and_eq_true] at hB
 obtain ⟨hB, hC⟩ := hB
 simp only [ordOk, Bool.and_eq_true, beq_iff_eq, List.all_eq_true, decide_eq_true_eq] at hB
 obtain ⟨⟨⟨⟨⟨⟨⟨h1, h2⟩, h8⟩, h3⟩, h4⟩, h5⟩, h6⟩, h7⟩ := hB
 simp only [List.all_eq_true, List.contains_iff_mem] at hC
 refine wp_region_any hm ?_
 have := wpAny_of_ordL (P := P) (S := S) (Q := Q) h1 h5 h6 i ord.length ord (Array.replicate l.length false) a w.drew rfl ⟨by simp, h3, h4, fun i hi => ?_, fun k o hk => ?_, h7⟩ hC h
 ·have h9 : l.toArray.size = ord.length + 1 := by
   rw [List.size_toArray, ← h2, List.length_append]; rfl
  rw [h9]
  have h10 : l.length = ord.length + 1 := by rw [← h2, List.length_append]; rfl
  rw [h10] at this
  exact this
 ·simp only [Array.getD_eq_getD_getElem?, Array.getElem?_replicate, hi, if_true, Option.getD_some, true_iff]
  have := h8 i (List.mem_range.2 hi)
  simpa using this
 ·exfalso
  simp [Array.getD_eq_getD_getElem?, Array.getElem?_replicate] at hk
  split at hk <;> simp at hk
end
end Go.Mine
/-
  A file's head and sum: the program's whole, walked.
-/
namespace Go.Proofs.YtjoiaejbahdjkaaGreat
open Go Go.RowKit Go.Mine
set_option linter.unusedVariables false
set_option maxHeartbeats 8000000
set_option maxRecDepth 100000
def faultE (c : Nat) : List PanicEntry := [{ v := .iface 152 (.agg #[.int .i64 c]), recovered := false }]
theorem must_true (w : World) : Calls Tryz.prog 126 #[.bool true] w fun e w' => e = .returned (.tuple #[]) ∧ w = w' := by
 go_enter Tryz.func126, Tryz.ntmps126
 go_wp2_with fail
 go_end0
 exact ⟨rfl, rfl⟩
theorem must_false (w : World) : Calls Tryz.prog 126 #[.bool false] w fun e w' => e = .panicked (faultE 70) ∧ w = w' := by
 go_enter Tryz.func126, Tryz.ntmps126
 go_wp2_with fail
 exact ⟨rfl, rfl, rfl⟩
def magicL : List UInt8 := [115, 105, 98, 121, 108, 1]
theorem magic_any (w : World) : Calls Tryz.prog 149 #[] w fun e w' => e = .returned (.agg #[.int .u8 115, .int .u8 105, .int .u8 98, .int .u8 121, .int .u8 108, .int .u8 1]) ∧ Mod (fun _ => False) w w' := by
 go_enter Tryz.func149, Tryz.ntmps149
 go_wp2_with fail
 have h0 := heap_alloc_new w (.cells #[.int .u8 115, .int .u8 105, .int .u8 98, .int .u8 121, .int .u8 108, .int .u8 1] 200)
 have c0 := cell_at (j := 0) h0 rfl; have c1 := cell_at (j := 1) h0 rfl; have c2 := cell_at (j := 2) h0 rfl; have c3 := cell_at (j := 3) h0 rfl; have c4 := cell_at (j := 4) h0 rfl; have c5 := cell_at (j := 5) h0 rfl
 refine bodyPost_ret (v := .agg #[.int .u8 115, .int .u8 105, .int .u8 98, .int .u8 121, .int .u8 108, .int .u8 1]) ?_ rfl ⟨rfl, (Mod.refl _ w).alloc _⟩
 simp [results, Tryz.f149, go_sem, c0, c1, c2, c3, c4, c5]
theorem six_eq (a b c d f g a' b' c' d' f' g' : Int) (w : World) : (binOp .eql 200 (.agg #[.int .u8 a, .int .u8 b, .int .u8 c, .int .u8 d, .int .u8 f, .int .u8 g]) (.agg #[.int .u8 a', .int .u8 b', .int .u8 c', .int .u8 d', .int .u8 f', .int .u8 g'])).run Tryz.prog w = .ok (.bool (a == a' && b == b' && c == c' && d == d' && f == f' && g == g')) w := by
 have hS : Tryz.prog.underlying 200 = some (.array 6 5) := by kernel_rfl
 obtain ⟨i, hi⟩ : ∃ i, Tryz.prog.info? 5 = some i := ⟨_, rfl⟩
 have hc : Tryz.prog.cellsOf 5 = 1 := by kernel_rfl
 have u5 := Tryz.underlying5
 rw [run_eql_struct, show (10000 : Nat) = 9999 + 1 from rfl, run_equalIn_array w 9999 _ _ hS hi, hc, show List.range 6 = [0, 1, 2, 3, 4, 5] from rfl]
 have p0 : ∀ (x y z u v t : Value) (w : World), (part 5 #[x, y, z, u, v, t] (0 * 1)).run Tryz.prog w = .ok x w := fun x y z u v t w => by kernel_rfl
 have p1 : ∀ (x y z u v t : Value) (w : World), (part 5 #[x, y, z, u, v, t] (1 * 1)).run Tryz.prog w = .ok y w := fun x y z u v t w => by kernel_rfl
 have p2 : ∀ (x y z u v t : Value) (w : World), (part 5 #[x, y, z, u, v, t] (2 * 1)).run Tryz.prog w = .ok z w := fun x y z u v t w => by kernel_rfl
 have p3 : ∀ (x y z u v t : Value) (w : World), (part 5 #[x, y, z, u, v, t] (3 * 1)).run Tryz.prog w = .ok u w := fun x y z u v t w => by kernel_rfl
 have p4 : ∀ (x y z u v t : Value) (w : World), (part 5 #[x, y, z, u, v, t] (4 * 1)).run Tryz.prog w = .ok v w := fun x y z u v t w => by kernel_rfl
 have p5 : ∀ (x y z u v t : Value) (w : World), (part 5 #[x, y, z, u, v, t] (5 * 1)).run Tryz.prog w = .ok t w := fun x y z u v t w => by kernel_rfl
 simp only [Op.eqItems, Sem.run_bind, p0, Result.andThen_ok]
 go_simp
 by_cases h1 : a = a'
 ·by_cases h2 : b = b'
  ·by_cases h3 : c = c'
   ·by_cases h4 : d = d'
    ·by_cases h5 : f = f'
     ·by_cases h6 : g = g' <;> simp [h1, h2, h3, h4, h5, h6]
     ·simp [h1, h2, h3, h4, h5]
    ·simp [h1, h2, h3, h4]
   ·simp [h1, h2, h3]
  ·simp [h1, h2]
 ·simp [h1]
theorem byte_key (x : UInt8) (k : Nat) (hk : k < 256) : (((x.toNat : Nat) : Int) == (k : Int)) = decide (x = UInt8.ofNat k) := by
 by_cases hx : x = UInt8.ofNat k
 ·subst hx; simp; omega
 ·rw [decide_eq_false hx]
  have : x.toNat ≠ k := fun e => hx (by rw [← e, UInt8.ofNat_toNat])
  simp; omega
theorem six_nat (l : List UInt8) (hm : 6 ≤ l.length) :
 ((((l.getD 0 0).toNat : Nat) : Int) == 115 && (((l.getD 1 0).toNat : Nat) : Int) == 105 && (((l.getD 2 0).toNat : Nat) : Int) == 98 && (((l.getD 3 0).toNat : Nat) : Int) == 121 && (((l.getD 4 0).toNat : Nat) : Int) == 108 && (((l.getD 5 0).toNat : Nat) : Int) == 1) = decide (l.take 6 = magicL) := by
 have hd : l.take 6 = [l.getD 0 0, l.getD 1 0, l.getD 2 0, l.getD 3 0, l.getD 4 0, l.getD 5 0] := by
  refine List.ext_getElem (by simp; omega) fun i h1 h2 => ?_
  rw [List.getElem_take]
  have hi : i < 6 := h2
  match i, hi with
  | 0, _ => simp [List.getD_eq_getElem?_getD, show 0 < l.length by omega]
  | 1, _ => simp [List.getD_eq_getElem?_getD, show 1 < l.length by omega]
  | 2, _ => simp [List.getD_eq_getElem?_getD, show 2 < l.length by omega]
  | 3, _ => simp [List.getD_eq_getElem?_getD, show 3 < l.length by omega]
  | 4, _ => simp [List.getD_eq_getElem?_getD, show 4 < l.length by omega]
  | 5, _ => simp [List.getD_eq_getElem?_getD, show 5 < l.length by omega]
 rw [hd]
 have k0 := byte_key (l.getD 0 0) 115 (by omega)
 have k1 := byte_key (l.getD 1 0) 105 (by omega)
 have k2 := byte_key (l.getD 2 0) 98 (by omega)
 have k3 := byte_key (l.getD 3 0) 121 (by omega)
 have k4 := byte_key (l.getD 4 0) 108 (by omega)
 have k5 := byte_key (l.getD 5 0) 1 (by omega)
 simp only [show ((115 : Nat) : Int) = 115 from rfl, show ((105 : Nat) : Int) = 105 from rfl, show ((98 : Nat) : Int) = 98 from rfl, show ((121 : Nat) : Int) = 121 from rfl, show ((108 : Nat) : Int) = 108 from rfl, show ((1 : Nat) : Int) = 1 from rfl] at k0 k1 k2 k3 k4 k5
 rw [k0, k1, k2, k3, k4, k5]
 unfold magicL
 simp [Bool.and_assoc]
def sizeF (l : List UInt8) : Nat := (l.getD 6 0).toNat + 256 * (l.getD 7 0).toNat + 65536 * (l.getD 8 0).toNat + 16777216 * (l.getD 9 0).toNat
def headF (l : List UInt8) : Nat :=
 if 16777216 < l.length then 3
 else if l.length < 14 ∨ l.take 6 ≠ magicL then 70
 else if sizeF l ≠ l.length then 70
 else if l.drop (l.length - 4) ≠ fourL (crcL (l.take (l.length - 4))) then 71 else 0
theorem i64_or_nat (a b : Nat) (ha : a < 2 ^ 62) (hb : b < 2 ^ 62) : bits .or .i64 (a : Int) (b : Int) = ((a ||| b : Nat) : Int) := by
 have hx : a ||| b < 2 ^ 62 := Nat.or_lt_two_pow ha hb
 have ho : ∀ x : Nat, x < 2 ^ 62 → (BitVec.ofInt 64 (x : Int)).toNat = x := fun x h => by
  rw [BitVec.ofInt_natCast, BitVec.toNat_ofNat]; exact Nat.mod_eq_of_lt (by omega)
 show IntKind.i64.wrap ((BitVec.ofInt 64 (a : Int) ||| BitVec.ofInt 64 (b : Int)).toNat : Int) = _
 rw [BitVec.toNat_or, ho a ha, ho b hb, IntKind.wrap_i64]
 omega
theorem or4 (a b c d : Nat) (ha : a < 256) (hb : b < 256) (hc : c < 256) (hd : d < 256) :
 bits .or .i64 (bits .or .i64 (bits .or .i64 (a : Int) ((b : Int) * 256)) ((c : Int) * 65536)) ((d : Int) * 16777216) = ((a + 256 * b + 65536 * c + 16777216 * d : Nat) : Int) := by
 have key : ∀ (x y k : Nat), x < 2 ^ k → x ||| y * 2 ^ k = x + y * 2 ^ k := fun x y k h => by
  have := Nat.two_pow_add_eq_or_of_lt h y
  rw [Nat.or_comm, Nat.mul_comm y, ← this, Nat.add_comm]
 have e1 : (b : Int) * 256 = ((b * 256 : Nat) : Int) := by rw [Int.natCast_mul]; rfl
 have e2 : (c : Int) * 65536 = ((c * 65536 : Nat) : Int) := by rw [Int.natCast_mul]; rfl
 have e3 : (d : Int) * 16777216 = ((d * 16777216 : Nat) : Int) := by rw [Int.natCast_mul]; rfl
 rw [e1, e2, e3, i64_or_nat a (b * 256) (by omega) (by omega)]
 rw [show b * 256 = b * 2 ^ 8 from rfl, key a b 8 (by omega), i64_or_nat _ (c * 65536) (by omega) (by omega)]
 rw [show c * 65536 = c * 2 ^ 16 from rfl, key _ c 16 (by omega), i64_or_nat _ (d * 16777216) (by omega) (by omega)]
 rw [show d * 16777216 = d * 2 ^ 24 from rfl, key _ d 24 (by omega)]
 congr 1
 omega
theorem wholeF_any (a : Option Addr) (c : Nat) (l : List UInt8) (w : World) (hr : Rd w a (bts l)) (hc : l.length ≤ c) (hl : l.length < 2 ^ 40) :
 Calls Tryz.prog 125 #[.slice a l.length c] w fun e w' => ((headF l = 0 ∧ e = .returned (.tuple #[])) ∨ (headF l ≠ 0 ∧ e = .panicked (faultE (headF l)))) ∧ Mod (fun _ => False) w w' := by
 by_cases h16 : 16777216 < l.length
 ·have HH : Hid (headF l = 3) := Hi (by unfold headF; rw [if_pos h16])
  clear hr
  go_enter Tryz.func125, Tryz.ntmps125
  go_wp2_with fail
  exact ⟨rfl, .inr ⟨by rw [HH.out]; omega, by rw [HH.out]; rfl⟩, Mod.refl _ _⟩
 ·by_cases h14 : l.length < 14
  ·have HH : Hid (headF l = 70) := Hi (by unfold headF; rw [if_neg h16, if_pos (.inl h14)])
   have hg : decide ((14 : Int) ≤ (l.length : Int)) = false := by simp; omega
   clear hr
   go_enter Tryz.func125, Tryz.ntmps125
   go_wp2_with fail
   refine wp_region_ordL (fun w' => True) [(0, 0), (0, 1), (0, 2), (0, 3), (0, 4), (0, 5), (1, 6), (2, 7), (0, 8), (0, 9)] 10 (by kernel_rfl) (by kernel_rfl) ?_
   go_wp2_with (first
    |(refine ord_pure rfl rfl rfl (fun K hK => ?_); go_big_quiet_op; refine hK _ ?_; clear hK K)
    |(refine ord_skip rfl rfl ?_; simp only [Act.put, List.setIfInBounds_toArray, List.set_cons_zero, List.set_cons_succ])
    |(refine ord_held rfl rfl rfl (trivial) (fun K hK => ?_); apply Exists.intro; refine ⟨fun w' hs => ?_, hK _ ?_⟩; (revert hs; dsimp only; (try simp only [and_imp]); intros; go_simp; rfl); clear hK K)
    |(refine ord_keep rfl rfl (trivial) (fun K hK => ?_))
    |(refine ord_drop rfl rfl (fun K hK => ?_))
    |(refine ord_nil ?_))
   refine lastQ_wp rfl rfl ?_
   go_wp2_with fail
   refine (must_false _).mono ?_
   rintro e w1 ⟨rfl, hw1⟩
   have HM : Hid (Mod (fun _ => False) w w1) := Hi (by rw [← hw1]; exact (Mod.refl _ w).drew)
   clear hw1
   go_wp2_with fail
   exact ⟨rfl, .inr ⟨by rw [HH.out]; omega, by rw [HH.out]⟩, HM.out⟩
  ·have hg : decide ((14 : Int) ≤ (l.length : Int)) = true := by simp; omega
   obtain ⟨b, o, rfl, x00⟩ := byte_cell hr (i := 0) (by omega)
   have hcell : ∀ j, j < l.length → w.cell? ⟨b, o + j, none⟩ = some (.int .u8 ((l.getD j 0).toNat : Nat)) := fun j hj => by
    obtain ⟨b', o', e, hc'⟩ := byte_cell hr (i := j) hj
    cases e
    rw [List.getD_eq_getElem?_getD, List.getElem?_eq_getElem hj, Option.getD_some]
    exact hc'
   have x0 := hcell 0 (by omega); have x1 := hcell 1 (by omega); have x2 := hcell 2 (by omega); have x3 := hcell 3 (by omega); have x4 := hcell 4 (by omega); have x5 := hcell 5 (by omega)
   have x6 := hcell 6 (by omega); have x7 := hcell 7 (by omega); have x8 := hcell 8 (by omega); have x9 := hcell 9 (by omega)
   rw [Nat.add_zero] at x0
   have HS6 := Hi (six_nat l (by omega))
   have h6 := (l.getD 6 0).toNat_lt; have h7 := (l.getD 7 0).toNat_lt; have h8 := (l.getD 8 0).toNat_lt; have h9 := (l.getD 9 0).toNat_lt
   have HSZ : Hid (sizeF l = (l.getD 6 0).toNat + 256 * (l.getD 7 0).toNat + 65536 * (l.getD 8 0).toNat + 16777216 * (l.getD 9 0).toNat) := Hi rfl
   have HWH := Hi (fun W (m : Mod (fun _ => False) w W) => whole_any b o (l.length - 4) l c W (hr.mod m (fun _ _ => id)) (by omega) hc (by omega))
   have HH : Hid (headF l = if l.take 6 ≠ magicL then 70 else if sizeF l ≠ l.length then 70 else if l.drop (l.length - 4) ≠ fourL (crcL (l.take (l.length - 4))) then 71 else 0) := Hi (by
    unfold headF
    rw [if_neg h16]
    by_cases hm : l.take 6 ≠ magicL
    ·rw [if_pos (.inr hm), if_pos hm]
    ·rw [if_neg (by rintro (h | h); exact h14 h; exact hm h), if_neg hm])
   clear hr hcell x00
   generalize (l.getD 0 0).toNat = n0 at *
   generalize (l.getD 1 0).toNat = n1 at *
   generalize (l.getD 2 0).toNat = n2 at *
   generalize (l.getD 3 0).toNat = n3 at *
   generalize (l.getD 4 0).toNat = n4 at *
   generalize (l.getD 5 0).toNat = n5 at *
   generalize (l.getD 6 0).toNat = n6 at *
   generalize (l.getD 7 0).toNat = n7 at *
   generalize (l.getD 8 0).toNat = n8 at *
   generalize (l.getD 9 0).toNat = n9 at *
   by_cases hmg : l.take 6 = magicL
   ·rw [decide_eq_true hmg] at HS6
    have hsix := six_eq (n0 : Nat) (n1 : Nat) (n2 : Nat) (n3 : Nat) (n4 : Nat) (n5 : Nat) 115 105 98 121 108 1
    simp only [HS6.out] at hsix
    have HG := Hi hmg
    clear hmg HS6
    go_enter Tryz.func125, Tryz.ntmps125
    go_wp2_with fail
    refine wp_region_ordL (fun w' => w'.cell? ⟨b, o, none⟩ = some (.int .u8 (n0 : Nat)) ∧ w'.cell? ⟨b, o + 1, none⟩ = some (.int .u8 (n1 : Nat)) ∧ w'.cell? ⟨b, o + 2, none⟩ = some (.int .u8 (n2 : Nat)) ∧ w'.cell? ⟨b, o + 3, none⟩ = some (.int .u8 (n3 : Nat)) ∧ w'.cell? ⟨b, o + 4, none⟩ = some (.int .u8 (n4 : Nat)) ∧ w'.cell? ⟨b, o + 5, none⟩ = some (.int .u8 (n5 : Nat))) [(0, 0), (0, 1), (0, 2), (0, 3), (0, 4), (0, 5), (1, 6), (2, 7), (0, 8), (0, 9)] 10 (by kernel_rfl) (by kernel_rfl) ?_
    go_wp2_with (first
     |(refine ord_pure rfl rfl rfl (fun K hK => ?_); refine quiet_atp rfl Tryz.underlying200 rfl ?_ (hK _ ?_); omega; clear hK K)
     |(refine ord_pure rfl rfl rfl (fun K hK => ?_); go_big_quiet_op; refine hK _ ?_; clear hK K)
     |(refine ord_skip rfl rfl ?_; simp only [Act.put, List.setIfInBounds_toArray, List.set_cons_zero, List.set_cons_succ])
     |(refine ord_held rfl rfl rfl (⟨x0, x1, x2, x3, x4, x5⟩) (fun K hK => ?_); apply Exists.intro; refine ⟨fun w' hs => ?_, hK _ ?_⟩; (revert hs; dsimp only; (try simp only [and_imp]); intros; go_simp; rfl); clear hK K)
     |(refine ord_keep rfl rfl (⟨x0, x1, x2, x3, x4, x5⟩) (fun K hK => ?_))
     |(refine ord_drop rfl rfl (fun K hK => ?_))
     |(refine ord_nil ?_))
    refine (magic_any _).mono ?_
    rintro e w1 ⟨rfl, m1⟩
    have m1' := (Mod.refl (fun _ => False) w).drew.trans m1
    refine hK _ _ ⟨m1'.cell x0 id, m1'.cell x1 id, m1'.cell x2 id, m1'.cell x3 id, m1'.cell x4 id, m1'.cell x5 id⟩ ?_
    clear hK K m1
    have HM1 := Hi m1'
    clear m1'
    go_wp2_with (first
     |(refine ord_pure rfl rfl rfl (fun K hK => ?_); go_big_quiet_op; refine hK _ ?_; clear hK K)
     |(refine ord_skip rfl rfl ?_; simp only [Act.put, List.setIfInBounds_toArray, List.set_cons_zero, List.set_cons_succ])
     |(refine ord_held rfl rfl rfl (trivial) (fun K hK => ?_); apply Exists.intro; refine ⟨fun w' hs => ?_, hK _ ?_⟩; (revert hs; dsimp only; (try simp only [and_imp]); intros; go_simp; rfl); clear hK K)
     |(refine ord_keep rfl rfl (trivial) (fun K hK => ?_))
     |(refine ord_drop rfl rfl (fun K hK => ?_))
     |(refine ord_nil ?_))
    refine lastQ_wp rfl rfl ?_
    go_wp2_with fail
    refine (must_true _).mono ?_
    rintro e w2 ⟨rfl, hw2⟩
    obtain rfl : w1 = w2 := hw2
    have y6 := HM1.out.cell x6 id; have y7 := HM1.out.cell x7 id; have y8 := HM1.out.cell x8 id; have y9 := HM1.out.cell x9 id
    clear x0 x1 x2 x3 x4 x5 x6 x7 x8 x9 hsix
    go_wp2_with fail
    refine wp_region_ord (fun w' => w'.cell? ⟨b, o + 6, none⟩ = some (.int .u8 (n6 : Nat)) ∧ w'.cell? ⟨b, o + 7, none⟩ = some (.int .u8 (n7 : Nat)) ∧ w'.cell? ⟨b, o + 8, none⟩ = some (.int .u8 (n8 : Nat)) ∧ w'.cell? ⟨b, o + 9, none⟩ = some (.int .u8 (n9 : Nat))) [(0, 0), (0, 1), (1, 2), (0, 3), (0, 4), (0, 5), (1, 6), (0, 7), (0, 8), (0, 9), (0, 10), (0, 11), (1, 12), (0, 13), (0, 14), (0, 15), (0, 16), (0, 17), (1, 18), (0, 19), (0, 20), (0, 21), (0, 22)] (by kernel_rfl) (by kernel_rfl) ?_
    go_wp2_with (first
     |(refine ord_pure rfl rfl rfl (fun K hK => ?_); go_big_quiet_op; refine hK _ ?_; clear hK K)
     |(refine ord_held rfl rfl rfl (⟨y6, y7, y8, y9⟩) (fun K hK => ?_); apply Exists.intro; refine ⟨fun w' hs => ?_, hK _ ?_⟩; (revert hs; dsimp only; (try simp only [and_imp]); intros; go_simp; rfl); clear hK K)
     |(refine ord_nil ?_))
    rw [or4 n6 n7 n8 n9 h6 h7 h8 h9, ← HSZ.out]
    by_cases hsz : sizeF l = l.length
    ·have hq : (((sizeF l : Nat) : Int) == (l.length : Int)) = true := by simp; omega
     rw [hq]
     refine (must_true _).mono ?_
     rintro e w2 ⟨rfl, hw2⟩
     have HM2 : Hid (Mod (fun _ => False) w w2) := Hi (by rw [← hw2]; exact HM1.out.drew)
     clear hw2 hq y6 y7 y8 y9
     go_wp2_with fail
     refine (HWH.out _ HM2.out).mono ?_
     rintro e w3 ⟨rfl, hm3⟩
     have HM3 := Hi (HM2.out.trans hm3)
     clear hm3
     by_cases hcr : l.drop (l.length - 4) = fourL (crcL (l.take (l.length - 4)))
     ·have HX : Hid (headF l = 0) := Hi (by rw [HH.out, if_neg (fun h => h HG.out), if_neg (fun h => h hsz), if_neg (fun h => h hcr)])
      rw [decide_eq_true hcr]
      clear hcr
      go_wp2_with fail
      go_end0
      exact ⟨.inl ⟨HX.out, rfl⟩, HM3.out⟩
     ·have HX : Hid (headF l = 71) := Hi (by rw [HH.out, if_neg (fun h => h HG.out), if_neg (fun h => h hsz), if_pos hcr])
      rw [decide_eq_false hcr]
      clear hcr
      go_wp2_with fail
      exact ⟨rfl, .inr ⟨by rw [HX.out]; omega, by rw [HX.out]; rfl⟩, HM3.out⟩
    ·have hq : (((sizeF l : Nat) : Int) == (l.length : Int)) = false := by simp; omega
     have HX : Hid (headF l = 70) := Hi (by rw [HH.out, if_neg (fun h => h HG.out), if_pos hsz])
     rw [hq]
     refine (must_false _).mono ?_
     rintro e w2 ⟨rfl, hw2⟩
     have HM2 : Hid (Mod (fun _ => False) w w2) := Hi (by rw [← hw2]; exact HM1.out.drew)
     clear hw2 hq y6 y7 y8 y9
     go_wp2_with fail
     exact ⟨rfl, .inr ⟨by rw [HX.out]; omega, by rw [HX.out]⟩, HM2.out⟩
   ·rw [decide_eq_false hmg] at HS6
    have hsix := six_eq (n0 : Nat) (n1 : Nat) (n2 : Nat) (n3 : Nat) (n4 : Nat) (n5 : Nat) 115 105 98 121 108 1
    simp only [HS6.out] at hsix
    have HX : Hid (headF l = 70) := Hi (by rw [HH.out, if_pos hmg])
    clear hmg HS6 HH
    go_enter Tryz.func125, Tryz.ntmps125
    go_wp2_with fail
    refine wp_region_ordL (fun w' => w'.cell? ⟨b, o, none⟩ = some (.int .u8 (n0 : Nat)) ∧ w'.cell? ⟨b, o + 1, none⟩ = some (.int .u8 (n1 : Nat)) ∧ w'.cell? ⟨b, o + 2, none⟩ = some (.int .u8 (n2 : Nat)) ∧ w'.cell? ⟨b, o + 3, none⟩ = some (.int .u8 (n3 : Nat)) ∧ w'.cell? ⟨b, o + 4, none⟩ = some (.int .u8 (n4 : Nat)) ∧ w'.cell? ⟨b, o + 5, none⟩ = some (.int .u8 (n5 : Nat))) [(0, 0), (0, 1), (0, 2), (0, 3), (0, 4), (0, 5), (1, 6), (2, 7), (0, 8), (0, 9)] 10 (by kernel_rfl) (by kernel_rfl) ?_
    go_wp2_with (first
     |(refine ord_pure rfl rfl rfl (fun K hK => ?_); refine quiet_atp rfl Tryz.underlying200 rfl ?_ (hK _ ?_); omega; clear hK K)
     |(refine ord_pure rfl rfl rfl (fun K hK => ?_); go_big_quiet_op; refine hK _ ?_; clear hK K)
     |(refine ord_skip rfl rfl ?_; simp only [Act.put, List.setIfInBounds_toArray, List.set_cons_zero, List.set_cons_succ])
     |(refine ord_held rfl rfl rfl (⟨x0, x1, x2, x3, x4, x5⟩) (fun K hK => ?_); apply Exists.intro; refine ⟨fun w' hs => ?_, hK _ ?_⟩; (revert hs; dsimp only; (try simp only [and_imp]); intros; go_simp; rfl); clear hK K)
     |(refine ord_keep rfl rfl (⟨x0, x1, x2, x3, x4, x5⟩) (fun K hK => ?_))
     |(refine ord_drop rfl rfl (fun K hK => ?_))
     |(refine ord_nil ?_))
    refine (magic_any _).mono ?_
    rintro e w1 ⟨rfl, m1⟩
    have m1' := (Mod.refl (fun _ => False) w).drew.trans m1
    refine hK _ _ ⟨m1'.cell x0 id, m1'.cell x1 id, m1'.cell x2 id, m1'.cell x3 id, m1'.cell x4 id, m1'.cell x5 id⟩ ?_
    clear hK K m1
    have HM1 := Hi m1'
    clear m1'
    go_wp2_with (first
     |(refine ord_pure rfl rfl rfl (fun K hK => ?_); go_big_quiet_op; refine hK _ ?_; clear hK K)
     |(refine ord_skip rfl rfl ?_; simp only [Act.put, List.setIfInBounds_toArray, List.set_cons_zero, List.set_cons_succ])
     |(refine ord_held rfl rfl rfl (trivial) (fun K hK => ?_); apply Exists.intro; refine ⟨fun w' hs => ?_, hK _ ?_⟩; (revert hs; dsimp only; (try simp only [and_imp]); intros; go_simp; rfl); clear hK K)
     |(refine ord_keep rfl rfl (trivial) (fun K hK => ?_))
     |(refine ord_drop rfl rfl (fun K hK => ?_))
     |(refine ord_nil ?_))
    refine lastQ_wp rfl rfl ?_
    go_wp2_with fail
    refine (must_false _).mono ?_
    rintro e w2 ⟨rfl, hw2⟩
    obtain rfl : w1 = w2 := hw2
    go_wp2_with fail
    exact ⟨rfl, .inr ⟨by rw [HX.out]; omega, by rw [HX.out]⟩, HM1.out⟩
end Go.Proofs.YtjoiaejbahdjkaaGreat
/-
  A reader's Raw and End; a number of a file: walked.
-/
namespace Go.Proofs.YtjoiaejbahdjkaaGreat
open Go Go.RowKit Go.Mine
set_option linter.unusedVariables false
set_option maxHeartbeats 4000000
set_option maxRecDepth 100000
theorem raw1_ok (bm br p : Nat) (ad : Addr) (c n : Nat) (l : List UInt8) (at_ : Nat) (w : World) (h : RdAt w p (some ad) c l at_ 0) (hn : at_ + n ≤ l.length)
 (h1 : w.cell? ⟨bm, 0, none⟩ = some (.int .i64 n)) (h2 : w.cell? ⟨br, 0, none⟩ = some (.pointer (some ⟨p, 0, none⟩))) (n1 : bm ≠ p) (n2 : br ≠ p) :
 Calls Tryz.prog 71 #[.pointer (some ⟨bm, 0, none⟩), .pointer (some ⟨br, 0, none⟩)] w fun e w' => ∃ g c', e = .returned (.tuple #[.slice (some ⟨g, 0, none⟩) n c', .int .i64 0]) ∧
  Mine.Own w' 5 1 (some ⟨g, 0, none⟩) n c' (bts ((l.drop at_).take n)) ∧ RdAt w' p (some ad) c l (at_ + n) 0 ∧ Mod (fun b => b = p) w w' ∧ w.heap.size ≤ g := by
 have h3 : w.cell? ⟨p, 1, none⟩ = some (.int .i64 at_) := cell_at h.heap rfl
 have hlen := h.len
 have HTK := Hi (fun W (m : Mod (fun _ => False) w W) => take_yes p (some ad) c l at_ 0 at_ n W (h.mod0 m) hn)
 have hll : ((l.drop at_).take n).length = n := by simp; omega
 have HLL := Hi hll
 have HLC := Hi h.lc
 obtain ⟨sa, hsa⟩ : ∃ x, subA (some ad) c at_ 1 = some x := by unfold subA; split <;> exact ⟨_, rfl⟩
 rw [hsa] at HTK
 have HSA := Hi hsa
 clear h hll hsa
 go_enter Tryz.func71, Tryz.ntmps71
 go_wp2_with fail
 refine wp_region_ord (fun w' => w'.cell? ⟨bm, 0, none⟩ = some (.int .i64 n) ∧ w'.cell? ⟨br, 0, none⟩ = some (.pointer (some ⟨p, 0, none⟩)) ∧ w'.cell? ⟨p, 1, none⟩ = some (.int .i64 at_)) [(1, 0), (1, 1), (0, 2), (0, 3), (1, 4), (1, 5), (0, 6), (3, 7), (0, 8), (0, 9), (0, 10), (0, 11), (0, 12)] (by kernel_rfl) (by kernel_rfl) ?_
 go_wp2_with (first
  |(refine ord_pure rfl rfl rfl (fun K hK => ?_); go_big_quiet_op; refine hK _ ?_; clear hK K)
  |(refine ord_held rfl rfl rfl (⟨h1, h2, h3⟩) (fun K hK => ?_); apply Exists.intro; refine ⟨fun w' hs => ?_, hK _ ?_⟩; (revert hs; dsimp only; (try simp only [and_imp]); intros; go_simp; rfl); clear hK K)
  |(refine ord_drop rfl rfl (fun K hK => ?_))
  |(refine ord_nil ?_))
 refine (HTK.out _ (Mod.refl _ w).drew).mono ?_
 rintro e w1 ⟨rfl, hr1, hm1⟩
 have HR1 := Hi hr1
 have HM1 := Hi ((Mod.refl (fun b => b = p) w).drew.trans hm1)
 clear hr1 hm1
 refine hK _ _ ?_
 clear hK K
 go_wp2_with (first
  |(refine ord_pure rfl rfl rfl (fun K hK => ?_); go_big_quiet_op; refine hK _ ?_; clear hK K)
  |(refine ord_held rfl rfl rfl (trivial) (fun K hK => ?_); apply Exists.intro; refine ⟨fun w' hs => ?_, hK _ ?_⟩; (revert hs; dsimp only; (try simp only [and_imp]); intros; go_simp; rfl); clear hK K)
  |(refine ord_drop rfl rfl (fun K hK => ?_))
  |(refine ord_nil ?_))
 have hsub : Rd w1 (some sa) (bts ((l.drop at_).take n)) := by
  rw [← HSA.out]
  exact subA_part HR1.out.rd HLC.out
 have HCL := Hi (clone_some sa ((l.drop at_).take n) (c - at_) w1 hsub (by rw [HLL.out]; omega))
 rw [HLL.out] at HCL
 clear hsub
 refine HCL.out.mono ?_
 rintro e w2 ⟨g, c', rfl, hg, hO, hm2⟩
 have HO := Hi hO; have HM2 := Hi hm2; have HG := Hi hg
 clear hO hm2 hg
 go_wp2_with fail
 go_ret2
 exact ⟨g, c', rfl, HO.out, HR1.out.mod0 HM2.out, HM1.out.step HM2.out (fun _ _ h => h.elim), Nat.le_trans HM1.out.size HG.out⟩
theorem raw1_bad (bm br p : Nat) (a : Option Addr) (c n : Nat) (l : List UInt8) (at_ : Nat) (w : World) (h : RdAt w p a c l at_ 0) (hn : l.length - at_ < n) (hn64 : n < 2 ^ 62)
 (h1 : w.cell? ⟨bm, 0, none⟩ = some (.int .i64 n)) (h2 : w.cell? ⟨br, 0, none⟩ = some (.pointer (some ⟨p, 0, none⟩))) (n1 : bm ≠ p) (n2 : br ≠ p) :
 Calls Tryz.prog 71 #[.pointer (some ⟨bm, 0, none⟩), .pointer (some ⟨br, 0, none⟩)] w fun e w' => e = .returned (.tuple #[.slice none 0 0, .int .i64 10]) ∧ Mod (fun _ => False) w w' := by
 have h3 : w.cell? ⟨p, 1, none⟩ = some (.int .i64 at_) := cell_at h.heap rfl
 have HTK := Hi (fun W (m : Mod (fun _ => False) w W) => take_no p a c l at_ 0 at_ n W (h.mod0 m) h.le (by omega) hn)
 clear h
 go_enter Tryz.func71, Tryz.ntmps71
 go_wp2_with fail
 refine wp_region_ord (fun w' => w'.cell? ⟨bm, 0, none⟩ = some (.int .i64 n) ∧ w'.cell? ⟨br, 0, none⟩ = some (.pointer (some ⟨p, 0, none⟩)) ∧ w'.cell? ⟨p, 1, none⟩ = some (.int .i64 at_)) [(1, 0), (1, 1), (0, 2), (0, 3), (1, 4), (1, 5), (0, 6), (3, 7), (0, 8), (0, 9), (0, 10), (0, 11), (0, 12)] (by kernel_rfl) (by kernel_rfl) ?_
 go_wp2_with (first
  |(refine ord_pure rfl rfl rfl (fun K hK => ?_); go_big_quiet_op; refine hK _ ?_; clear hK K)
  |(refine ord_held rfl rfl rfl (⟨h1, h2, h3⟩) (fun K hK => ?_); apply Exists.intro; refine ⟨fun w' hs => ?_, hK _ ?_⟩; (revert hs; dsimp only; (try simp only [and_imp]); intros; go_simp; rfl); clear hK K)
  |(refine ord_drop rfl rfl (fun K hK => ?_))
  |(refine ord_nil ?_))
 refine (HTK.out _ (Mod.refl _ w).drew).mono ?_
 rintro e w1 ⟨rfl, hw1⟩
 have HM1 : Hid (Mod (fun _ => False) w w1) := Hi (by rw [← hw1]; exact (Mod.refl _ w).drew)
 clear hw1
 refine hK _ _ ?_
 clear hK K
 go_wp2_with (first
  |(refine ord_pure rfl rfl rfl (fun K hK => ?_); go_big_quiet_op; refine hK _ ?_; clear hK K)
  |(refine ord_held rfl rfl rfl (trivial) (fun K hK => ?_); apply Exists.intro; refine ⟨fun w' hs => ?_, hK _ ?_⟩; (revert hs; dsimp only; (try simp only [and_imp]); intros; go_simp; rfl); clear hK K)
  |(refine ord_drop rfl rfl (fun K hK => ?_))
  |(refine ord_nil ?_))
 refine (clone_nil 0 0 w1).mono ?_
 rintro e w2 ⟨rfl, hw2⟩
 obtain rfl : w1 = w2 := hw2
 go_wp2_with fail
 go_ret2
 exact ⟨rfl, HM1.out⟩
theorem readB_ok (bm br p : Nat) (ad : Addr) (c n : Nat) (l : List UInt8) (at_ : Nat) (w : World) (h : RdAt w p (some ad) c l at_ 0) (hn : at_ + n ≤ l.length)
 (h1 : w.cell? ⟨bm, 0, none⟩ = some (.int .i64 n)) (h2 : w.cell? ⟨br, 0, none⟩ = some (.pointer (some ⟨p, 0, none⟩))) (n1 : bm ≠ p) (n2 : br ≠ p) :
 Calls Tryz.prog 70 #[.pointer (some ⟨p, 0, none⟩), .func (.func 71) #[] #[.pointer (some ⟨bm, 0, none⟩), .pointer (some ⟨br, 0, none⟩)]] w fun e w' => ∃ g c', e = .returned (.slice (some ⟨g, 0, none⟩) n c') ∧
  Mine.Own w' 5 1 (some ⟨g, 0, none⟩) n c' (bts ((l.drop at_).take n)) ∧ RdAt w' p (some ad) c l (at_ + n) 0 ∧ Mod (fun b => b = p) w w' ∧ w.heap.size ≤ g := by
 have hc2 : w.cell? ⟨p, 2, none⟩ = some (.int .i64 0) := cell_at h.heap rfl
 have H := Hi h
 have HRW := Hi (raw1_ok bm br p ad c n l at_ w h hn h1 h2 n1 n2)
 clear h h1 h2
 go_enter Tryz.func70, Tryz.ntmps70
 go_wp2_with (first
  |(go_at_call 68; refine (rnone_any p _ _ _ _ _ H.out.heap).mono ?_; rintro e w' ⟨rfl, rfl⟩)
  |(go_at_call 71; refine HRW.out.mono ?_; rintro e w1 ⟨g, c', rfl, hO, hR, hM, hG⟩; have HO := Hi hO; have HR := Hi hR; have HM := Hi hM; have HG := Hi hG; clear hO hR hM hG))
 go_ret
 exact ⟨g, c', rfl, HO.out, HR.out, HM.out, HG.out⟩
theorem readB_bad (bm br p : Nat) (a : Option Addr) (c n : Nat) (l : List UInt8) (at_ : Nat) (w : World) (h : RdAt w p a c l at_ 0) (hn : l.length - at_ < n) (hn64 : n < 2 ^ 62)
 (h1 : w.cell? ⟨bm, 0, none⟩ = some (.int .i64 n)) (h2 : w.cell? ⟨br, 0, none⟩ = some (.pointer (some ⟨p, 0, none⟩))) (n1 : bm ≠ p) (n2 : br ≠ p) :
 Calls Tryz.prog 70 #[.pointer (some ⟨p, 0, none⟩), .func (.func 71) #[] #[.pointer (some ⟨bm, 0, none⟩), .pointer (some ⟨br, 0, none⟩)]] w fun e w' => e = .returned (.slice none 0 0) ∧
  RdAt w' p a c l at_ 10 ∧ Mod (fun b => b = p) w w' := by
 have hc2 : w.cell? ⟨p, 2, none⟩ = some (.int .i64 0) := cell_at h.heap rfl
 have H := Hi h
 have HRW := Hi (raw1_bad bm br p a c n l at_ w h hn hn64 h1 h2 n1 n2)
 clear h h1 h2
 go_enter Tryz.func70, Tryz.ntmps70
 go_wp2_with (first
  |(go_at_call 68; refine (rnone_any p _ _ _ _ _ H.out.heap).mono ?_; rintro e w' ⟨rfl, rfl⟩)
  |(go_at_call 71; refine HRW.out.mono ?_; rintro e w1 ⟨rfl, hM⟩
    have HR1 := Hi (H.out.mod0 hM)
    have hc1 : w1.cell? ⟨p, 2, none⟩ = some (.int .i64 0) := cell_at HR1.out.heap rfl
    have hf1 : w1.frozen? ⟨p, 2, none⟩ = false := frozen_at HR1.out.heap
    have HM := Hi hM; clear hM))
 go_ret
 exact ⟨rfl, HR1.out.setF 10, Mine.Mod.setCell (S := fun b => b = p) (p := ⟨p, 2, none⟩) (HM.out.mono (fun _ _ h => h.elim)) (fun _ => rfl) _⟩
theorem raw_ok (p : Nat) (ad : Addr) (c n : Nat) (l : List UInt8) (at_ : Nat) (w : World) (h : RdAt w p (some ad) c l at_ 0) (hn : at_ + n ≤ l.length) :
 Calls Tryz.prog 36 #[.pointer (some ⟨p, 0, none⟩), .int .i64 n] w fun e w' => ∃ g c', e = .returned (.slice (some ⟨g, 0, none⟩) n c') ∧
  Mine.Own w' 5 1 (some ⟨g, 0, none⟩) n c' (bts ((l.drop at_).take n)) ∧ RdAt w' p (some ad) c l (at_ + n) 0 ∧ Mod (fun b => b = p) w w' ∧ w.heap.size ≤ g := by
 have hlt := (Array.getElem?_eq_some_iff.1 h.heap).1
 have H := Hi h; clear h
 go_enter Tryz.func36, Tryz.ntmps36
 go_wp2_with (first
  |(go_at_call 70; refine (readB_ok (w.heap.size + 1) w.heap.size p ad c n l at_ _ (H.out.mod0 (((Mod.refl _ w).alloc _).alloc _)) hn (cell_new rfl) (cell_old (cell_new rfl)) (by omega) (by omega)).mono ?_; rintro e w1 ⟨g, c', rfl, hO, hR, hM, hG⟩
    have HO := Hi hO; have HR := Hi hR; have HM := Hi hM; have HG := Hi hG; clear hO hR hM hG))
 go_ret
 exact ⟨g, c', rfl, HO.out, HR.out, (((Mod.refl _ w).alloc _).alloc _).trans HM.out, Nat.le_trans (((Mod.refl (fun _ => False) w).alloc _).alloc _).size HG.out⟩
theorem raw_bad (p : Nat) (a : Option Addr) (c n : Nat) (l : List UInt8) (at_ : Nat) (w : World) (h : RdAt w p a c l at_ 0) (hn : l.length - at_ < n) (hn64 : n < 2 ^ 62) :
 Calls Tryz.prog 36 #[.pointer (some ⟨p, 0, none⟩), .int .i64 n] w fun e w' => e = .returned (.slice none 0 0) ∧ RdAt w' p a c l at_ 10 ∧ Mod (fun b => b = p) w w' := by
 have hlt := (Array.getElem?_eq_some_iff.1 h.heap).1
 have H := Hi h; clear h
 go_enter Tryz.func36, Tryz.ntmps36
 go_wp2_with (first
  |(go_at_call 70; refine (readB_bad (w.heap.size + 1) w.heap.size p a c n l at_ _ (H.out.mod0 (((Mod.refl _ w).alloc _).alloc _)) hn hn64 (cell_new rfl) (cell_old (cell_new rfl)) (by omega) (by omega)).mono ?_; rintro e w1 ⟨rfl, hR, hM⟩
    have HR := Hi hR; have HM := Hi hM; clear hR hM))
 go_ret
 exact ⟨rfl, HR.out, (((Mod.refl _ w).alloc _).alloc _).trans HM.out⟩
theorem end_any (p : Nat) (a : Option Addr) (c : Nat) (l : List UInt8) (at_ : Nat) (w : World) (h : RdAt w p a c l at_ 0) :
 Calls Tryz.prog 37 #[.pointer (some ⟨p, 0, none⟩)] w fun e w' => e = .returned (.int .i64 (if at_ = l.length then (0 : Nat) else (10 : Nat))) ∧ Mod (fun _ => False) w w' := by
 have H := Hi h
 have hle := h.le
 have HLF := Hi (rleft_any p a l.length c at_ _ _ w h.heap h.le h.len)
 clear h
 by_cases he : at_ = l.length
 ·have h0 : l.length - at_ = 0 := by omega
  rw [h0] at HLF
  rw [if_pos he]
  clear he h0
  go_enter Tryz.func37, Tryz.ntmps37
  go_wp2_with fail
  refine (rerr_any p _ _ _ _ w H.out.heap).mono ?_
  rintro e w1 ⟨rfl, hw1⟩
  obtain rfl : w = w1 := hw1
  go_wp2_with fail
  refine HLF.out.mono ?_
  rintro e w1 ⟨rfl, hm⟩
  have HM := Hi hm
  clear hm
  go_wp2_with fail
  go_ret
  exact ⟨rfl, HM.out⟩
 ·have h0 : ((l.length - at_ : Nat) : Int) ≠ 0 := by omega
  have h1 : (((l.length - at_ : Nat) : Int) == 0) = false := by simp; omega
  rw [if_neg he]
  clear he
  generalize l.length - at_ = k at *
  go_enter Tryz.func37, Tryz.ntmps37
  go_wp2_with fail
  refine (rerr_any p _ _ _ _ w H.out.heap).mono ?_
  rintro e w1 ⟨rfl, hw1⟩
  obtain rfl : w = w1 := hw1
  go_wp2_with fail
  refine HLF.out.mono ?_
  rintro e w1 ⟨rfl, hm⟩
  have HM := Hi hm
  clear hm
  go_wp2_with fail
  go_ret
  exact ⟨rfl, HM.out⟩
theorem numF_any (p : Nat) (a : Option Addr) (c most : Nat) (l : List UInt8) (at_ : Nat) (w : World) (h : RdAt w p a c l at_ 0) (hm : most < 2 ^ 40) :
 Calls Tryz.prog 127 #[.pointer (some ⟨p, 0, none⟩), .int .i64 most] w fun e w' => (((stNum l at_ 0).2.2 = 0 ∧ (stNum l at_ 0).1 ≤ most ∧ e = .returned (.int .i64 (stNum l at_ 0).1) ∧ RdAt w' p a c l (stNum l at_ 0).2.1 0) ∨
  (((stNum l at_ 0).2.2 ≠ 0 ∨ most < (stNum l at_ 0).1) ∧ e = .panicked (faultE 70))) ∧ Mod (fun b => b = p) w w' := by
 have HNUM := Hi (rdNum_any p a c l at_ 0 w h)
 have h64 : (stNum l at_ 0).1 < 2 ^ 64 := by
  by_cases he : (getL (l.drop at_)).2.2 = 0
  ·rw [stNum_ok he]; exact (getL_ok he).2.2
  ·rw [stNum_err he]; show (0 : Nat) < _; omega
 clear h
 generalize stNum l at_ 0 = s at *
 obtain ⟨n, at', f⟩ := s
 simp only at *
 by_cases hf : f = 0
 ·subst hf
  by_cases hn : n ≤ most
  ·go_enter Tryz.func127, Tryz.ntmps127
   go_wp2_with fail
   refine HNUM.out.mono ?_
   rintro e w1 ⟨rfl, hr, hm1⟩
   have HR := Hi hr; have HM := Hi hm1
   clear hr hm1
   go_wp2_with fail
   refine (rerr_any p _ _ _ _ w1 HR.out.heap).mono ?_
   rintro e w2 ⟨rfl, hw2⟩
   obtain rfl : w1 = w2 := hw2
   go_wp2_with fail
   refine (must_true _).mono ?_
   rintro e w2 ⟨rfl, hw2⟩
   obtain rfl : w1 = w2 := hw2
   go_wp2_with fail
   go_ret
   exact ⟨.inl ⟨by simp, hn, rfl, HR.out⟩, HM.out⟩
  ·have hd : decide ((n : Int) ≤ (most : Int)) = false := by simp; omega
   go_enter Tryz.func127, Tryz.ntmps127
   go_wp2_with fail
   refine HNUM.out.mono ?_
   rintro e w1 ⟨rfl, hr, hm1⟩
   have HR := Hi hr; have HM := Hi hm1
   clear hr hm1
   go_wp2_with fail
   refine (rerr_any p _ _ _ _ w1 HR.out.heap).mono ?_
   rintro e w2 ⟨rfl, hw2⟩
   obtain rfl : w1 = w2 := hw2
   go_wp2_with fail
   refine (must_false _).mono ?_
   rintro e w2 ⟨rfl, hw2⟩
   obtain rfl : w1 = w2 := hw2
   go_wp2_with fail
   exact ⟨rfl, .inr ⟨.inr (by omega), rfl⟩, HM.out⟩
 ·have hq : ((f : Int) == 0) = false := by simp; omega
  go_enter Tryz.func127, Tryz.ntmps127
  go_wp2_with fail
  refine HNUM.out.mono ?_
  rintro e w1 ⟨rfl, hr, hm1⟩
  have HR := Hi hr; have HM := Hi hm1
  clear hr hm1
  go_wp2_with fail
  refine (rerr_any p _ _ _ _ w1 HR.out.heap).mono ?_
  rintro e w2 ⟨rfl, hw2⟩
  obtain rfl : w1 = w2 := hw2
  go_wp2_with fail
  refine (must_false _).mono ?_
  rintro e w2 ⟨rfl, hw2⟩
  obtain rfl : w1 = w2 := hw2
  go_wp2_with fail
  exact ⟨rfl, .inr ⟨.inl hf, rfl⟩, HM.out⟩
end Go.Proofs.YtjoiaejbahdjkaaGreat
/-
  A list of lists of the call's own: a slice of slices.
-/
namespace Go.Proofs.YtjoiaejbahdjkaaGreat
open Go Go.RowKit Go.Mine
set_option linter.unusedVariables false
def Uf (w : World) (b : Nat) : Prop := ∃ (cur : Array Value) (t : TypeId), w.heap[b]? = some (.cells cur t (0, 0))
theorem Uf.mod {S : Nat → Prop} {w w' : World} {b : Nat} (h : Uf w b) (m : Mod S w w') (hs : ¬ S b) : Uf w' b := by
 obtain ⟨cur, t, h⟩ := h
 exact ⟨cur, t, m.at h hs⟩
theorem Own.uf {w : World} {e : TypeId} {k : Nat} {a : Option Addr} {n c : Nat} {xs : List Value} (h : Mine.Own w e k a n c xs) {b : Nat} (hb : blk a = some b) : Uf w b := by
 rcases h.2 with ⟨e1, _⟩ | ⟨b', cur, e1, h3, _⟩
 ·rw [e1] at hb; cases hb
 ·rw [e1] at hb
  have hb' : b' = b := by simpa [blk] using hb
  subst hb'
  exact ⟨cur, e, h3⟩
theorem Uf.fz {w : World} {b : Nat} (h : Uf w b) (o : Nat) : w.frozen? ⟨b, o, none⟩ = false := by
 obtain ⟨cur, t, h⟩ := h
 exact frozen_at h
structure LLR (w : World) (a : Option Addr) (hs : List Value) (xs : List (List Value)) : Prop where
 len : hs.length = xs.length
 rd : Rd w a hs
 row : ∀ j (h : j < xs.length), ∃ x c, hs[j]? = some (.slice x xs[j].length c) ∧ Rd w x xs[j]
theorem LLR.nil (w : World) (a : Option Addr) : LLR w a [] [] := ⟨rfl, Rd.nil _ _, fun j h => by simp at h⟩
theorem LLR.mod0 {w w' : World} {a : Option Addr} {hs : List Value} {xs : List (List Value)} (h : LLR w a hs xs) (m : Mod (fun _ => False) w w') : LLR w' a hs xs :=
 ⟨h.len, h.rd.mod m (fun _ _ => id), fun j hj => by
  obtain ⟨x, c, h1, h2⟩ := h.row j hj
  exact ⟨x, c, h1, h2.mod m (fun _ _ => id)⟩⟩
theorem LLR.get {w : World} {a : Option Addr} {hs : List Value} {xs : List (List Value)} (h : LLR w a hs xs) {j : Nat} (hj : j < xs.length) : ∃ b o x c, a = some ⟨b, o, none⟩ ∧ w.cell? ⟨b, o + j, none⟩ = some (.slice x xs[j].length c) ∧ Rd w x xs[j] ∧ hs[j]? = some (.slice x xs[j].length c) := by
 obtain ⟨x, c, h1, h2⟩ := h.row j hj
 obtain ⟨b, o, e, h3⟩ := h.rd j _ h1
 exact ⟨b, o, x, c, e, h3, h2, h1⟩
structure LL (F : Nat → Prop) (w0 w : World) (e : TypeId) (oa : Option Addr) (oc : Nat) (hs : List Value) (xs : List (List Value)) : Prop where
 len : hs.length = xs.length
 own : Mine.Own w e 1 oa xs.length oc hs
 row : ∀ j (h : j < xs.length), ∃ x c, hs[j]? = some (.slice x xs[j].length c) ∧ Rd w x xs[j] ∧ ∀ b, blk x = some b → F b ∧ b < w.heap.size ∧ blk oa ≠ some b ∧ Uf w b
 fr : ∀ b, blk oa = some b → w0.heap.size ≤ b
 md : Mod (fun _ => False) w0 w
section
variable {F : Nat → Prop} {w0 w w' : World} {e : TypeId} {oa : Option Addr} {oc : Nat} {hs : List Value} {xs : List (List Value)}
theorem LL.nil (F : Nat → Prop) (e : TypeId) (w : World) : LL F w w e none 0 [] [] := ⟨rfl, Mine.Own.nil _ _ _, fun j h => by simp at h, (fun b hb => by cases hb), Mod.refl _ _⟩
theorem LL.rd (h : LL F w0 w e oa oc hs xs) : LLR w oa hs xs := ⟨h.len, h.own.rd, fun j hj => by
 obtain ⟨x, c, h1, h2, _⟩ := h.row j hj
 exact ⟨x, c, h1, h2⟩⟩
theorem LL.step {S : Nat → Prop} (h : LL F w0 w e oa oc hs xs) (m : Mod S w w') (hS : ∀ b, b < w.heap.size → ¬ S b) : LL F w0 w' e oa oc hs xs :=
 ⟨h.len, h.own.mod m (fun b hb => hS b (h.own.lt b hb)), fun j hj => by
  obtain ⟨x, c, h1, h2, h3⟩ := h.row j hj
  exact ⟨x, c, h1, h2.mod m (fun b hb => hS b (h3 b hb).2.1), fun b hb => ⟨(h3 b hb).1, Nat.lt_of_lt_of_le (h3 b hb).2.1 m.size, (h3 b hb).2.2.1, (h3 b hb).2.2.2.mod m (hS b (h3 b hb).2.1)⟩⟩, h.fr,
  h.md.step m (fun i hi s => hS i (Nat.lt_of_lt_of_le hi h.md.size) s)⟩
theorem LL.mod0 (h : LL F w0 w e oa oc hs xs) (m : Mod (fun _ => False) w w') : LL F w0 w' e oa oc hs xs := h.step m (fun _ _ => id)
theorem LL.push {w3 : World} {a3 : Option Addr} {c3 n : Nat} {x : Option Addr} {c : Nat} {ys : List Value} (h : LL F w0 w e oa oc hs xs) (hr : Rd w x ys) (hb : ∀ b, blk x = some b → F b ∧ b < w.heap.size ∧ blk oa ≠ some b ∧ Uf w b)
 (hG : Grow w oa w3 a3) (hO : Mine.Own w3 e 1 a3 n c3 (hs ++ [.slice x ys.length c])) (hn : n = xs.length + 1) : LL F w0 w3 e a3 c3 (hs ++ [.slice x ys.length c]) (xs ++ [ys]) := by
 have hrow : ∀ (y : Option Addr) (zs : List Value), Rd w y zs → (∀ b, blk y = some b → F b ∧ b < w.heap.size ∧ blk oa ≠ some b ∧ Uf w b) → Rd w3 y zs ∧ ∀ b, blk y = some b → F b ∧ b < w3.heap.size ∧ blk a3 ≠ some b ∧ Uf w3 b := fun y zs h1 h2 =>
  ⟨h1.mod hG.mod (fun b hb' e => (h2 b hb').2.2.1 e), fun b hb' => ⟨(h2 b hb').1, Nat.lt_of_lt_of_le (h2 b hb').2.1 hG.mod.size, hG.ne (h2 b hb').2.1 (h2 b hb').2.2.1, (h2 b hb').2.2.2.mod hG.mod fun e => (h2 b hb').2.2.1 e⟩⟩
 refine ⟨by simp [h.len], by rw [List.length_append]; show Mine.Own w3 e 1 a3 (xs.length + 1) c3 _; rw [← hn]; exact hO, fun j hj => ?_, fun b hb' => ?_, h.md.step hG.mod (fun b hb' e => by have := h.fr b e; omega)⟩
 ·rw [List.length_append] at hj
  by_cases hl : j < xs.length
  ·obtain ⟨y, cy, h1, h2, h3⟩ := h.row j hl
   have := hrow y _ h2 h3
   refine ⟨y, cy, ?_, ?_, this.2⟩
   ·rw [List.getElem?_append_left (by rw [h.len]; exact hl), h1, List.getElem_append_left hl]
   ·rw [List.getElem_append_left hl]; exact this.1
  ·have hjx : j = xs.length := by simp at hj; omega
   subst hjx
   have := hrow x ys hr hb
   refine ⟨x, c, ?_, ?_, this.2⟩
   ·rw [List.getElem?_append_right (by rw [h.len]; exact Nat.le_refl _), h.len, Nat.sub_self, List.getElem_append_right (Nat.le_refl _)]
    simp
   ·rw [List.getElem_append_right (Nat.le_refl _)]
    simpa using this.1
 ·rcases hG.pos with e' | ⟨g, e', hg⟩
  ·rw [e'] at hb'; exact h.fr b hb'
  ·have := h.md.size
   rw [e'] at hb'
   have : g = b := by simpa [blk] using hb'
   omega
theorem LL.set {B : Nat} {j : Nat} {x : Option Addr} {c : Nat} {ys : List Value} (h : LL F w0 w e (some ⟨B, 0, none⟩) oc hs xs) (hj : j < xs.length) (hr : Rd w x ys) (hb : ∀ b, blk x = some b → F b ∧ b < w.heap.size ∧ b ≠ B ∧ Uf w b) :
 LL F w0 (w.setCell ⟨B, j, none⟩ (.slice x ys.length c)) e (some ⟨B, 0, none⟩) oc (hs.set j (.slice x ys.length c)) (xs.set j ys) := by
 have hO := h.own.store j (.slice x ys.length c)
 have hM : Mod (fun b => b = B) w (w.setCell ⟨B, j, none⟩ (.slice x ys.length c)) := (Mod.refl (fun b => b = B) w).setCell (p := ⟨B, j, none⟩) (fun _ => rfl) _
 refine ⟨by simp [h.len], by simpa using hO, fun i hi => ?_, h.fr, h.md.step hM (fun b hb' e => by have := h.fr B rfl; omega)⟩
 rw [List.length_set] at hi
 by_cases he : j = i
 ·subst he
  refine ⟨x, c, ?_, ?_, fun b hb' => ⟨(hb b hb').1, Nat.lt_of_lt_of_le (hb b hb').2.1 hM.size, fun e => (hb b hb').2.2.1 (by simpa [blk] using e.symm), (hb b hb').2.2.2.mod hM fun e => (hb b hb').2.2.1 e⟩⟩
  ·rw [List.getElem?_set_self (by rw [h.len]; exact hi), List.getElem_set_self]
  ·rw [List.getElem_set_self]
   exact hr.mod hM (fun b hb' e => (hb b hb').2.2.1 e)
 ·obtain ⟨y, cy, h1, h2, h3⟩ := h.row i hi
  refine ⟨y, cy, ?_, ?_, fun b hb' => ⟨(h3 b hb').1, Nat.lt_of_lt_of_le (h3 b hb').2.1 hM.size, (h3 b hb').2.2.1, (h3 b hb').2.2.2.mod hM fun e => (h3 b hb').2.2.1 (by rw [show b = B from e]; rfl)⟩⟩
  ·rw [List.getElem?_set_ne he, h1, List.getElem_set_ne he]
  ·rw [List.getElem_set_ne he]
   exact h2.mod hM (fun b hb' e => (h3 b hb').2.2.1 (by rw [e]; rfl))
end
theorem tiLLU : TI Tryz.prog 161 162 1 24 := TI.mk' (z := .slice none 0 0) (by kernel_rfl) (by kernel_rfl) rfl (by omega)
theorem tiLLS : TI Tryz.prog 84 81 1 24 := TI.mk' (z := .slice none 0 0) (by kernel_rfl) (by kernel_rfl) rfl (by omega)
end Go.Proofs.YtjoiaejbahdjkaaGreat
/-
  The rows that columns say: the plain part, and slices.Contains on marks.
-/
namespace Go.Proofs.YtjoiaejbahdjkaaGreat
open Go Go.RowKit Go.Mine
set_option linter.unusedVariables false
set_option maxHeartbeats 4000000
set_option maxRecDepth 100000
def aboveL : List (List Nat) → Nat → Int
 | [], _ => 0
 | c :: r, i => if ((c.getD i 0 : Nat) : Int) - ((c.getD (i - 1) 0 : Nat) : Int) = 0 then aboveL r i else ((c.getD i 0 : Nat) : Int) - ((c.getD (i - 1) 0 : Nat) : Int)
def Bounds (T : Nat) (cs : List (List Nat)) : Prop := ∀ x ∈ cs.flatten, x < T
def Used (T : Nat) (cs : List (List Nat)) : Prop := ∀ j, j < T → j ∈ cs.flatten
def Rise (cs : List (List Nat)) (n : Nat) : Prop := ∀ i, 1 ≤ i → i < n → 0 < aboveL cs i
structure LaidOk (T : Nat) (cs : List (List Nat)) (n : Nat) : Prop where
 bounds : Bounds T cs
 used : Used T cs
 rise : Rise cs n
def rowF (ts : List ByteArray) (cs : List (List Nat)) (i : Nat) : List ByteArray := cs.map fun c => ts.getD (c.getD i 0) ByteArray.empty
def rowsF (ts : List ByteArray) (cs : List (List Nat)) (n : Nat) : List (List ByteArray) := (List.range n).map (rowF ts cs)
def bls (l : List Bool) : List Value := l.map .bool
def markL (T : Nat) (l : List Nat) : List Bool := (List.range T).map fun j => l.contains j
theorem markL_len (T : Nat) (l : List Nat) : (markL T l).length = T := by simp [markL]
theorem markL_set {T : Nat} (l : List Nat) (x : Nat) : markL T (l ++ [x]) = (markL T l).set x true := by
 refine List.ext_getElem? fun j => ?_
 unfold markL
 rw [List.getElem?_set]
 by_cases hj : j < T
 ·rw [List.getElem?_map, List.getElem?_map, List.getElem?_range hj]
  by_cases he : x = j
  ·subst he
   rw [if_pos rfl, if_pos (by simpa using hj)]
   simp
  ·rw [if_neg he]
   simp only [Option.map_some, Option.some.injEq]
   rw [Bool.eq_iff_iff]
   simp
   intro h
   exact absurd h.symm he
 ·rw [List.getElem?_eq_none (by simp; omega), List.getElem?_eq_none (by simp; omega)]
  split
  ·rw [if_neg (by simp; omega)]
  ·rfl
theorem markL_zero (T : Nat) : markL T [] = List.replicate T false := by
 unfold markL
 rw [List.eq_replicate_iff]
 exact ⟨by simp, fun b hb => by obtain ⟨j, _, rfl⟩ := List.mem_map.1 hb; rfl⟩
theorem markL_used {T : Nat} {l : List Nat} : false ∉ markL T l ↔ ∀ j, j < T → j ∈ l := by
 unfold markL
 constructor
 ·intro h j hj
  by_cases hm : j ∈ l
  ·exact hm
  ·exact absurd (List.mem_map.2 ⟨j, List.mem_range.2 hj, by simpa using hm⟩) h
 ·intro h hm
  obtain ⟨j, hj, e⟩ := List.mem_map.1 hm
  have := h j (List.mem_range.1 hj)
  simp [this] at e
theorem bl_cell {w : World} {a : Option Addr} {c : List Bool} (h : Rd w a (bls c)) {i : Nat} (hi : i < c.length) : ∃ b o, a = some ⟨b, o, none⟩ ∧ w.cell? ⟨b, o + i, none⟩ = some (.bool c[i]) := by
 obtain ⟨b, o, e, h1⟩ := h i (.bool c[i]) (by unfold bls; rw [List.getElem?_map, List.getElem?_eq_getElem hi]; rfl)
 exact ⟨b, o, e, h1⟩
theorem str_cell {w : World} {a : Option Addr} {c : List ByteArray} (h : Rd w a (sts c)) {i : Nat} (hi : i < c.length) : ∃ b o, a = some ⟨b, o, none⟩ ∧ w.cell? ⟨b, o + i, none⟩ = some (.string c[i]) := by
 obtain ⟨b, o, e, h1⟩ := h i (.string c[i]) (by unfold sts; rw [List.getElem?_map, List.getElem?_eq_getElem hi]; rfl)
 exact ⟨b, o, e, h1⟩
theorem cols_get {w : World} {ca : Option Addr} {hs : List Value} {cs : List (List Nat)} {n : Nat} (h : LLR w ca hs (cs.map u32s)) (hn : ∀ c ∈ cs, c.length = n) {j : Nat} (hj : j < cs.length) : ∃ b o x cc, ca = some ⟨b, o, none⟩ ∧ w.cell? ⟨b, o + j, none⟩ = some (.slice x n cc) ∧ Rd w x (u32s cs[j]) := by
 obtain ⟨b, o, x, cc, h1, h2, h3, _⟩ := h.get (j := j) (by simpa using hj)
 rw [List.getElem_map] at h2 h3
 rw [u32s_len, hn _ (List.getElem_mem hj)] at h2
 exact ⟨b, o, x, cc, h1, h2, h3⟩
theorem indexB_any (a : Option Addr) (d : Nat) (c : List Bool) (w : World) (hr : Rd w a (bls c)) (hn : c.length < 2 ^ 32) :
 Calls Tryz.prog 189 #[.slice a c.length d, .bool false] w fun e w' => ∃ i : Int, e = .returned (.int .i64 i) ∧ (0 ≤ i ↔ false ∈ c) ∧ w = w' := by
 have HR := Hi hr
 clear hr
 go_enter Tryz.func189, Tryz.ntmps189
 go_wp2_with fail
 go_loopw [5, 8] (fun _ iv wr => ∃ k : Nat, iv = .int .i64 k ∧ k ≤ c.length ∧ Hid (false ∉ c.take k) ∧ wr = w) (fun _ iv _ => c.length - (intOf iv).toNat)
 case atStart => exact ⟨0, rfl, Nat.zero_le _, Hi (by simp), rfl⟩
 case round =>
  obtain ⟨k, rfl, hk, hS, hww⟩ := hrel
  obtain rfl : w = wr := hww.symm
  clear hww
  by_cases hlt : k < c.length
  ·obtain ⟨b', o', rfl, x0⟩ := bl_cell HR.out hlt
   cases hv : c[k] with
   | false =>
     rw [hv] at x0
     have HF : Hid (false ∈ c) := Hi (by rw [← hv]; exact List.getElem_mem hlt)
     clear hv
     go_wp2_with fail
     go_ret
     exact ⟨k, rfl, ⟨fun _ => HF.out, fun _ => Int.natCast_nonneg k⟩, rfl⟩
   | true =>
     rw [hv] at x0
     have HS2 : Hid (false ∉ c.take (k + 1)) := Hi (by
      rw [List.take_succ_eq_append_getElem hlt, hv]
      intro h
      rcases List.mem_append.1 h with h | h
      ·exact hS.out h
      ·simp at h)
     clear hv
     go_wp2_with fail
     go_roundw
     case rel => exact ⟨k + 1, by go_num, hlt, HS2, trivial⟩
     case measure => simp [intOf]; omega
  ·have hke : k = c.length := by omega
   have HN : Hid (false ∉ c) := Hi (by have := hS.out; rw [hke, List.take_length] at this; exact this)
   clear hS
   go_wp2_with fail
   go_ret
   exact ⟨-1, rfl, ⟨fun h => by omega, fun h => absurd h HN.out⟩, rfl⟩
theorem containsB_any (a : Option Addr) (d : Nat) (c : List Bool) (w : World) (hr : Rd w a (bls c)) (hn : c.length < 2 ^ 32) :
 Calls Tryz.prog 153 #[.slice a c.length d, .bool false] w fun e w' => e = .returned (.bool (decide (false ∈ c))) ∧ w = w' := by
 have HI := Hi (indexB_any a d c w hr hn)
 clear hr
 go_enter Tryz.func153, Tryz.ntmps153
 go_wp2_with fail
 refine HI.out.mono ?_
 rintro e w' ⟨i, rfl, hi, hw⟩
 obtain rfl : w = w' := hw
 have hd : decide ((0 : Int) ≤ i) = decide (false ∈ c) := by
  by_cases h : false ∈ c
  ·rw [decide_eq_true h]; exact decide_eq_true (hi.2 h)
  ·rw [decide_eq_false h]; exact decide_eq_false (fun h2 => h (hi.1 h2))
 have HD := Hi hd
 clear hd hi
 go_wp2_with fail
 go_ret
 exact ⟨by rw [← HD.out]; rfl, rfl⟩
end Go.Proofs.YtjoiaejbahdjkaaGreat
