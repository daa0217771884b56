/-
  The plain law of columns: four ways to lay one; what is read back.
-/
import Derived.Test.YtjoiaejbahdjkaaGreatGet
namespace Go.Proofs.YtjoiaejbahdjkaaGreat
open Go Go.RowKit Go.Mine
set_option linter.unusedVariables false
set_option maxHeartbeats 4000000
set_option maxRecDepth 100000
def lenN (n : Nat) : Nat := if n = 0 then 0 else n.log2 + 1
theorem lenN_le {n k : Nat} : lenN n ≤ k ↔ n < 2 ^ k := by
 unfold lenN
 by_cases h : n = 0
 ·subst h; simp; exact Nat.two_pow_pos k
 ·rw [if_neg h, ← Nat.log2_lt h]; omega
theorem lenN_eq {n k : Nat} (h1 : n < 2 ^ k) (h2 : ∀ j, n < 2 ^ j → k ≤ j) : lenN n = k :=
 Nat.le_antisymm (lenN_le.2 h1) (h2 _ (lenN_le.1 (Nat.le_refl _)))
theorem lenN_shift {n j : Nat} (h : 2 ^ j ≤ n) : lenN n = j + lenN (n / 2 ^ j) := by
 refine lenN_eq ?_ (fun i hi => ?_)
 ·rw [Nat.pow_add]
  have h1 : n / 2 ^ j < 2 ^ lenN (n / 2 ^ j) := lenN_le.1 (Nat.le_refl _)
  exact (Nat.div_lt_iff_lt_mul (Nat.two_pow_pos j)).1 h1 |> fun h => by rw [Nat.mul_comm]; exact h
 ·have hji : j ≤ i := by
   by_cases hc : j ≤ i
   ·exact hc
   ·have := Nat.pow_le_pow_right (n := 2) (by omega) (show i ≤ j by omega)
    omega
  obtain ⟨d, rfl⟩ : ∃ d, i = j + d := ⟨i - j, by omega⟩
  have : n / 2 ^ j < 2 ^ d := by
   rw [Nat.div_lt_iff_lt_mul (Nat.two_pow_pos j), Nat.mul_comm, ← Nat.pow_add]; exact hi
  have := lenN_le.2 this
  omega
theorem lenN_mono {a b : Nat} (h : a ≤ b) : lenN a ≤ lenN b := lenN_le.2 (Nat.lt_of_le_of_lt h (lenN_le.1 (Nat.le_refl _)))
theorem lebl_size : ∀ n : Nat, (lebl n).length = max 1 ((lenN n + 6) / 7) := by
 intro n
 induction n using Nat.strongRecOn with
 | _ n ih =>
   by_cases h : n < 128
   ·rw [lebl_small h]
    have : lenN n ≤ 7 := lenN_le.2 (by omega)
    simp only [List.length_cons, List.length_nil]
    omega
   ·rw [lebl_big (by omega), List.length_cons, ih (n / 128) (by omega)]
    have h2 := lenN_shift (n := n) (j := 7) (by omega)
    rw [show (2 : Nat) ^ 7 = 128 from rfl] at h2
    have : ¬ lenN (n / 128) ≤ 0 := by rw [lenN_le]; omega
    omega
theorem getGo_lebl (r : List UInt8) : ∀ (n i acc : Nat), i ≤ 9 → n < 2 ^ (64 - 7 * i) → (0 < i → 0 < n) → getGo i acc (lebl n ++ r) = (acc + n * 2 ^ (7 * i), i + (lebl n).length, 0) := by
 intro n
 induction n using Nat.strongRecOn with
 | _ n ih =>
   intro i acc hi hn hp
   by_cases h : n < 128
   ·rw [lebl_small h]
    have e : (UInt8.ofNat n).toNat = n := by simp; omega
    show getGo i acc (UInt8.ofNat n :: r) = _
    rw [getGo_end (by
     rw [e]
     rintro (⟨h9, h1⟩ | ⟨h0, h1⟩)
     ·subst h9
      have : n < 2 ^ (64 - 7 * 9) := hn
      omega
     ·have := hp h0; omega) (by rw [e]; exact h), e]
    rfl
   ·rw [lebl_big (by omega)]
    have e : (UInt8.ofNat (n % 128 + 128)).toNat = n % 128 + 128 := by simp; omega
    have hi9 : i < 9 := by
     by_cases hc : i < 9
     ·exact hc
     ·have : i = 9 := by omega
      subst this
      have : n < 2 ^ (64 - 7 * 9) := hn
      omega
    show getGo i acc (UInt8.ofNat (n % 128 + 128) :: (lebl (n / 128) ++ r)) = _
    rw [getGo_go (by
     rw [e]
     rintro (⟨h9, h1⟩ | ⟨h0, h1⟩) <;> omega) (by rw [e]; omega), e]
    rw [ih (n / 128) (by omega) (i + 1) _ (by omega) (by
     rw [Nat.div_lt_iff_lt_mul (by omega), show (128 : Nat) = 2 ^ 7 from rfl, ← Nat.pow_add]
     rw [show 64 - 7 * (i + 1) + 7 = 64 - 7 * i by omega]; exact hn) (by omega)]
    have e2 : (n % 128 + 128) % 128 = n % 128 := by omega
    have e3 : 2 ^ (7 * (i + 1)) = 128 * 2 ^ (7 * i) := by rw [show 7 * (i + 1) = 7 + 7 * i by omega, Nat.pow_add]
    rw [e2, e3, List.length_cons]
    have e4 : acc + n % 128 * 2 ^ (7 * i) + n / 128 * (128 * 2 ^ (7 * i)) = acc + n * 2 ^ (7 * i) := by
     rw [← Nat.mul_assoc, Nat.add_assoc, ← Nat.add_mul]
     have : n % 128 + n / 128 * 128 = n := by omega
     rw [this]
    rw [e4, show i + 1 + (lebl (n / 128)).length = i + ((lebl (n / 128)).length + 1) by omega]
theorem getL_lebl {n : Nat} (h : n < 2 ^ 64) (r : List UInt8) : getL (lebl n ++ r) = (n, (lebl n).length, 0) := by
 unfold getL
 rw [getGo_lebl r n 0 0 (by omega) (by simpa using h) (by omega)]
 simp
theorem lebl_ne (n : Nat) (r : List UInt8) : lebl n ++ r ≠ [] := by
 intro h
 have h1 := lebl_pos n
 rw [(List.append_eq_nil_iff.1 h).1] at h1
 simp at h1
def turnN (d : Int) : Nat := if 0 ≤ d then (2 * d).toNat else (-2 * d - 1).toNat
def backN (n : Nat) : Int := if n % 2 = 0 then ((n / 2 : Nat) : Int) else -((n / 2 : Nat) : Int) - 1
theorem back_turn (d : Int) : backN (turnN d) = d := by
 unfold turnN backN
 split <;> split <;> omega
theorem turnN_lt {d : Int} (h1 : -2 ^ 32 < d) (h2 : d < 2 ^ 32) : turnN d < 2 ^ 33 := by
 unfold turnN; split <;> omega
def dlt : Option Nat → List Nat → List Nat
 | _, [] => []
 | none, x :: r => x :: dlt (some x) r
 | some p, x :: r => turnN ((x : Int) - p) :: dlt (some x) r
def rns (c : List Nat) : List (Nat × Nat) :=
 match c with
 | [] => []
 | x :: r => (x, (r.takeWhile (· == x)).length + 1) :: rns (r.drop (r.takeWhile (· == x)).length)
termination_by c.length
decreasing_by simp; omega
def U32 (c : List Nat) : Prop := ∀ x ∈ c, x < 2 ^ 32
def layP (c : List Nat) : List UInt8 := c.flatMap lebl
def layD (c : List Nat) : List UInt8 := (dlt none c).flatMap lebl
def layR (c : List Nat) : List UInt8 := (rns c).flatMap fun p => lebl p.1 ++ lebl p.2
def wideN (c : List Nat) : Nat := (c.map lenN).foldl max 0
def bitN (x k : Nat) : Nat := x / 2 ^ k % 2
def bitC (c : List Nat) (w at_ : Nat) : Nat := bitN (c.getD (at_ / w) 0) (at_ % w)
def byteUp (c : List Nat) (w m j : Nat) : Nat := ((List.range 8).map fun t => if 8 * j + t < m then bitC c w (8 * j + t) * 2 ^ t else 0).sum
def rowUp (c : List Nat) (w m : Nat) : List UInt8 := (List.range ((c.length * w + 7) / 8)).map fun j => UInt8.ofNat (byteUp c w m j)
def layK (c : List Nat) : List UInt8 := UInt8.ofNat (wideN c) :: rowUp c (wideN c) (c.length * wideN c)
def layW : Nat → List Nat → List UInt8
 | 1, c => layP c
 | 2, c => layD c
 | 3, c => layR c
 | _, c => layK c
def szs (c : List Nat) : List Nat := [(layP c).length, (layD c).length, (layR c).length, (layK c).length]
def best (i : Nat) (b : Nat) (s : List Nat) : List Nat → Nat
 | [] => b
 | x :: r => best (i + 1) (if x < s.getD b 0 then i else b) s r
def wayN (c : List Nat) : Nat := best 1 0 (szs c) (szs c).tail + 1
def encL (c : List Nat) : List UInt8 := UInt8.ofNat (wayN c) :: layW (wayN c) c
theorem wayN_range (c : List Nat) : 1 ≤ wayN c ∧ wayN c ≤ 4 := by
 unfold wayN szs
 simp only [List.tail, best]
 refine ⟨by omega, ?_⟩
 split <;> split <;> split <;> omega
def rpGo : Nat → List UInt8 → List Nat
 | 0, _ => []
 | m + 1, l => if l = [] ∨ (getL l).2.2 ≠ 0 ∨ 2 ^ 32 ≤ (getL l).1 then [] else (getL l).1 :: rpGo m (l.drop (getL l).2.1)
theorem rpGo_lay : ∀ c : List Nat, U32 c → rpGo c.length (layP c) = c
 | [], _ => rfl
 | x :: r, h => by
   have hx : x < 2 ^ 32 := h x (by simp)
   show rpGo (r.length + 1) (lebl x ++ layP r) = _
   have hg := getL_lebl (n := x) (by omega) (layP r)
   unfold rpGo
   rw [hg, if_neg (by
    rintro (h1 | h1 | h1)
    ·exact lebl_ne _ _ h1
    ·exact h1 rfl
    ·exact absurd h1 (by show ¬ 2 ^ 32 ≤ x; omega))]
   show x :: rpGo r.length ((lebl x ++ layP r).drop (lebl x).length) = _
   rw [List.drop_left, rpGo_lay r (fun y hy => h y (by simp [hy]))]
def nextN (p : Option Nat) (n : Nat) : Nat := match p with | none => n | some q => (((q : Int) + backN n) % 2 ^ 64).toNat
def rdGoD : Nat → Option Nat → List UInt8 → List Nat
 | 0, _, _ => []
 | m + 1, p, l => if l = [] ∨ (getL l).2.2 ≠ 0 ∨ 2 ^ 32 ≤ nextN p (getL l).1 then [] else nextN p (getL l).1 :: rdGoD m (some (nextN p (getL l).1)) (l.drop (getL l).2.1)
theorem nextN_turn {q x : Nat} (hq : q < 2 ^ 32) (hx : x < 2 ^ 32) : nextN (some q) (turnN ((x : Int) - q)) = x := by
 unfold nextN
 simp only
 rw [back_turn]
 omega
theorem rdGoD_lay : ∀ (c : List Nat) (p : Option Nat), U32 c → (∀ q, p = some q → q < 2 ^ 32) → rdGoD c.length p ((dlt p c).flatMap lebl) = c
 | [], _, _, _ => rfl
 | x :: r, p, h, hp => by
   have hx : x < 2 ^ 32 := h x (by simp)
   obtain ⟨n, hn, hlt, hnx⟩ : ∃ n, dlt p (x :: r) = n :: dlt (some x) r ∧ n < 2 ^ 64 ∧ nextN p n = x := by
    cases p with
    | none => exact ⟨x, rfl, by omega, rfl⟩
    | some q =>
      have hq := hp q rfl
      have := turnN_lt (d := (x : Int) - q) (by omega) (by omega)
      exact ⟨_, rfl, by omega, nextN_turn hq hx⟩
   have hg := getL_lebl hlt ((dlt (some x) r).flatMap lebl)
   rw [hn]
   show rdGoD (r.length + 1) p (lebl n ++ (dlt (some x) r).flatMap lebl) = _
   unfold rdGoD
   rw [hg]
   simp only
   rw [hnx, if_neg (by
    rintro (h1 | h1 | h1)
    ·exact lebl_ne _ _ h1
    ·exact h1 rfl
    ·omega)]
   rw [List.drop_left, rdGoD_lay r (some x) (fun y hy => h y (by simp [hy])) (fun q e => by cases e; exact hx)]
def rrGo : Nat → Nat → List UInt8 → List Nat
 | 0, _, _ => []
 | f + 1, m, l =>
   if l = [] ∨ (getL l).2.2 ≠ 0 ∨ (getL (l.drop (getL l).2.1)).2.2 ≠ 0 ∨ 2 ^ 32 ≤ (getL l).1 ∨ m < (getL (l.drop (getL l).2.1)).1 then []
   else List.replicate (getL (l.drop (getL l).2.1)).1 (getL l).1 ++ rrGo f (m - (getL (l.drop (getL l).2.1)).1) ((l.drop (getL l).2.1).drop (getL (l.drop (getL l).2.1)).2.1)
theorem takeW_repl (x : Nat) : ∀ l : List Nat, l = List.replicate (l.takeWhile (· == x)).length x ++ l.drop (l.takeWhile (· == x)).length
 | [] => rfl
 | y :: r => by
   by_cases h : y = x
   ·subst h
    rw [List.takeWhile_cons_of_pos (by simp)]
    show y :: r = y :: (List.replicate (r.takeWhile (· == y)).length y ++ r.drop (r.takeWhile (· == y)).length)
    rw [← takeW_repl y r]
   ·rw [List.takeWhile_cons_of_neg (by simpa using h)]
    rfl
theorem takeW_le (x : Nat) (l : List Nat) : (l.takeWhile (· == x)).length ≤ l.length := (List.takeWhile_prefix _).length_le
theorem rrGo_lay : ∀ (f : Nat) (c : List Nat), c.length < 2 ^ 32 → U32 c → (layR c).length ≤ f → rrGo f c.length (layR c) = c
 | f, [], hn, h, hf => by
   unfold layR
   rw [rns]
   cases f <;> simp [rrGo]
 | 0, x :: r, hn, h, hf => by
   unfold layR at hf
   rw [rns, List.flatMap_cons] at hf
   have h1 := lebl_pos x
   simp only [List.length_append] at hf
   omega
 | f + 1, x :: r, hn, h, hf => by
   have hx : x < 2 ^ 32 := h x (by simp)
   have hk := takeW_le x r
   have hrep := takeW_repl x r
   have hl : layR (x :: r) = lebl x ++ (lebl ((r.takeWhile (· == x)).length + 1) ++ layR (r.drop (r.takeWhile (· == x)).length)) := by
    unfold layR
    rw [rns, List.flatMap_cons, List.append_assoc]
   rw [List.length_cons] at hn ⊢
   rw [hl] at hf ⊢
   generalize (r.takeWhile (· == x)).length = k at *
   have g1 := getL_lebl (n := x) (by omega) (lebl (k + 1) ++ layR (r.drop k))
   have g2 := getL_lebl (n := k + 1) (by omega) (layR (r.drop k))
   unfold rrGo
   rw [g1]
   simp only
   rw [List.drop_left, g2]
   simp only
   rw [List.drop_left, if_neg (by
    rintro (h1 | h1 | h1 | h1 | h1)
    ·exact lebl_ne _ _ h1
    ·exact h1 rfl
    ·exact h1 rfl
    ·omega
    ·omega)]
   have hd : (r.drop k).length = r.length + 1 - (k + 1) := by rw [List.length_drop]; omega
   have hp := lebl_pos x
   rw [← hd, rrGo_lay f (r.drop k) (by rw [List.length_drop]; omega) (fun y hy => h y (List.mem_cons_of_mem _ (List.mem_of_mem_drop hy))) (by simp only [List.length_append] at hf; omega)]
   rw [List.replicate_succ, List.cons_append, ← hrep]
def bitB (l : List UInt8) (at_ : Nat) : Nat := bitN (l.getD (at_ / 8) 0).toNat (at_ % 8)
def numUp (l : List UInt8) (w i m : Nat) : Nat := ((List.range m).map fun k => bitB l (i * w + k) * 2 ^ k).sum
def rkL (rows : Nat) : List UInt8 → List Nat
 | [] => []
 | b :: l => if 32 < b.toNat ∨ l.length ≠ (rows * b.toNat + 7) / 8 then [] else (List.range rows).map fun i => numUp l b.toNat i b.toNat
theorem sum_bits (x : Nat) : ∀ m, ((List.range m).map fun k => bitN x k * 2 ^ k).sum = x % 2 ^ m
 | 0 => by simp [Nat.mod_one]
 | m + 1 => by
   rw [List.range_succ, List.map_append, List.sum_append, sum_bits x m]
   simp only [List.map_cons, List.map_nil, List.sum_cons, List.sum_nil]
   unfold bitN
   have h1 : x % 2 ^ (m + 1) = x % 2 ^ m + 2 ^ m * (x / 2 ^ m % 2) := by rw [Nat.pow_succ, Nat.mod_mul]
   rw [h1, Nat.mul_comm (2 ^ m)]
   omega
theorem bit_sum (f : Nat → Nat) (hf : ∀ t, f t < 2) : ∀ (n k : Nat), k < n → bitN ((List.range n).map fun t => f t * 2 ^ t).sum k = f k := by
 have hlt : ∀ n, ((List.range n).map fun t => f t * 2 ^ t).sum < 2 ^ n := fun n => by
  induction n with
  | zero => simp
  | succ n ih =>
    rw [List.range_succ, List.map_append, List.sum_append]
    simp only [List.map_cons, List.map_nil, List.sum_cons, List.sum_nil]
    have h1 := hf n
    have h2 : f n * 2 ^ n ≤ 1 * 2 ^ n := Nat.mul_le_mul_right _ (by omega)
    rw [Nat.pow_succ]
    omega
 intro n
 induction n with
 | zero => intro k h; omega
 | succ n ih =>
   intro k hk
   rw [List.range_succ, List.map_append, List.sum_append]
   simp only [List.map_cons, List.map_nil, List.sum_cons, List.sum_nil, Nat.add_zero]
   unfold bitN
   by_cases hkn : k < n
   ·have := ih k hkn
    unfold bitN at this
    have e : f n * 2 ^ n = 2 ^ k * (f n * 2 ^ (n - k)) := by rw [Nat.mul_left_comm, ← Nat.pow_add, show k + (n - k) = n by omega]
    rw [e, Nat.add_mul_div_left _ _ (Nat.two_pow_pos k)]
    have e2 : 2 ^ (n - k) = 2 * 2 ^ (n - k - 1) := by rw [← Nat.pow_succ', Nat.succ_eq_add_one, show n - k - 1 + 1 = n - k by omega]
    rw [e2, Nat.mul_left_comm, Nat.add_mul_mod_self_left]
    exact this
   ·obtain rfl : k = n := by omega
    have h0 := hlt k
    rw [Nat.add_mul_div_right _ _ (Nat.two_pow_pos k), Nat.div_eq_of_lt h0]
    have := hf k
    omega
theorem bitN_lt (x k : Nat) : bitN x k < 2 := Nat.mod_lt _ (by omega)
theorem byteUp_lt (c : List Nat) (w m j : Nat) : byteUp c w m j < 256 := by
 have h : ∀ n, ((List.range n).map fun t => if 8 * j + t < m then bitC c w (8 * j + t) * 2 ^ t else 0).sum < 2 ^ n := fun n => by
  induction n with
  | zero => simp
  | succ n ih =>
    rw [List.range_succ, List.map_append, List.sum_append]
    simp only [List.map_cons, List.map_nil, List.sum_cons, List.sum_nil]
    have h2 : (if 8 * j + n < m then bitC c w (8 * j + n) * 2 ^ n else 0) ≤ 2 ^ n := by
     split
     ·have h1 : bitC c w (8 * j + n) < 2 := bitN_lt _ _
      have := Nat.mul_le_mul_right (2 ^ n) (show bitC c w (8 * j + n) ≤ 1 by omega)
      omega
     ·omega
    rw [Nat.pow_succ]
    omega
 exact h 8
theorem bitB_row (c : List Nat) (w m at_ : Nat) (h : at_ < m) (hm : m ≤ c.length * w) : bitB (rowUp c w m) at_ = bitC c w at_ := by
 have hj : at_ / 8 < (c.length * w + 7) / 8 := by omega
 unfold bitB
 have hg : (rowUp c w m).getD (at_ / 8) 0 = UInt8.ofNat (byteUp c w m (at_ / 8)) := by
  rw [List.getD_eq_getElem?_getD]
  unfold rowUp
  rw [List.getElem?_map, List.getElem?_range hj]
  rfl
 have hlt := byteUp_lt c w m (at_ / 8)
 rw [hg]
 have e : (UInt8.ofNat (byteUp c w m (at_ / 8))).toNat = byteUp c w m (at_ / 8) := by simp; omega
 rw [e]
 have hb : byteUp c w m (at_ / 8) = ((List.range 8).map fun t => (if 8 * (at_ / 8) + t < m then bitC c w (8 * (at_ / 8) + t) else 0) * 2 ^ t).sum := by
  unfold byteUp
  congr 1
  refine List.map_congr_left fun t _ => ?_
  split <;> simp
 rw [hb, bit_sum _ (fun t => by split; exact bitN_lt _ _; omega) 8 _ (by omega), if_pos (by omega)]
 congr 1
 omega
theorem foldl_max : ∀ (l : List Nat) (a : Nat), a ≤ l.foldl max a ∧ ∀ x ∈ l, x ≤ l.foldl max a
 | [], a => ⟨Nat.le_refl _, fun x h => by cases h⟩
 | y :: r, a => by
   obtain ⟨h1, h2⟩ := foldl_max r (max a y)
   refine ⟨Nat.le_trans (Nat.le_max_left a y) h1, fun x hx => ?_⟩
   rcases List.mem_cons.1 hx with rfl | hx
   ·exact Nat.le_trans (Nat.le_max_right a x) h1
   ·exact h2 x hx
theorem wideN_ge {c : List Nat} {x : Nat} (h : x ∈ c) : x < 2 ^ wideN c := lenN_le.1 ((foldl_max (c.map lenN) 0).2 _ (List.mem_map.2 ⟨x, h, rfl⟩))
theorem foldl_max_le : ∀ (l : List Nat) (a b : Nat), a ≤ b → (∀ x ∈ l, x ≤ b) → l.foldl max a ≤ b
 | [], a, b, h, _ => h
 | y :: r, a, b, h, h2 => foldl_max_le r (max a y) b (Nat.max_le.2 ⟨h, h2 y (by simp)⟩) (fun x hx => h2 x (by simp [hx]))
theorem wideN_le {c : List Nat} (h : U32 c) : wideN c ≤ 32 := foldl_max_le _ _ _ (by omega) fun x hx => by
 obtain ⟨y, hy, rfl⟩ := List.mem_map.1 hx
 exact lenN_le.2 (h y hy)
theorem rowUp_len (c : List Nat) (w m : Nat) : (rowUp c w m).length = (c.length * w + 7) / 8 := by simp [rowUp]
theorem rkL_lay (c : List Nat) (h : U32 c) : rkL c.length (layK c) = c := by
 have hw := wideN_le h
 have e : (UInt8.ofNat (wideN c)).toNat = wideN c := by simp; omega
 unfold layK rkL
 simp only
 rw [e, rowUp_len, if_neg (by omega)]
 refine List.ext_getElem (by simp) fun i h1 h2 => ?_
 rw [List.getElem_map, List.getElem_range]
 unfold numUp
 have hi : i < c.length := h2
 have hb : ∀ k, k < wideN c → bitB (rowUp c (wideN c) (c.length * wideN c)) (i * wideN c + k) = bitN c[i] k := fun k hk => by
  have hlt : i * wideN c + k < c.length * wideN c := by
   have : (i + 1) * wideN c ≤ c.length * wideN c := Nat.mul_le_mul_right _ (by omega)
   rw [Nat.add_mul] at this
   omega
  rw [bitB_row c (wideN c) _ _ hlt (Nat.le_refl _)]
  unfold bitC
  have hd : (i * wideN c + k) / wideN c = i := by
   rw [Nat.add_comm, Nat.add_mul_div_right _ _ (by omega), Nat.div_eq_of_lt hk]; omega
  have hm : (i * wideN c + k) % wideN c = k := by
   rw [Nat.add_comm, Nat.add_mul_mod_self_right, Nat.mod_eq_of_lt hk]
  rw [hd, hm, List.getD_eq_getElem?_getD, List.getElem?_eq_getElem hi]
  rfl
 have hs : ((List.range (wideN c)).map fun k => bitB (rowUp c (wideN c) (c.length * wideN c)) (i * wideN c + k) * 2 ^ k) = (List.range (wideN c)).map fun k => bitN c[i] k * 2 ^ k :=
  List.map_congr_left fun k hk => by rw [hb k (List.mem_range.1 hk)]
 rw [hs, sum_bits, Nat.mod_eq_of_lt (wideN_ge (List.getElem_mem hi))]
def readP : Nat → Nat → List UInt8 → List Nat
 | 1, rows, l => rpGo rows l
 | 2, rows, l => rdGoD rows none l
 | 3, rows, l => rrGo l.length rows l
 | _, rows, l => rkL rows l
theorem readP_lay {w : Nat} (hw1 : 1 ≤ w) (hw2 : w ≤ 4) {c : List Nat} (h : U32 c) (hn : c.length < 2 ^ 32) : readP w c.length (layW w c) = c := by
 match w, hw1, hw2 with
 | 1, _, _ => exact rpGo_lay c h
 | 2, _, _ => exact rdGoD_lay c none h (fun q e => by cases e)
 | 3, _, _ => exact rrGo_lay _ c hn h (Nat.le_refl _)
 | 4, _, _ => exact rkL_lay c h
def numsGo : Nat → List UInt8 → Option (List Nat)
 | 0, l => if l = [] then some [] else none
 | f + 1, l => if l = [] then some [] else if (getL l).2.2 ≠ 0 then none else (numsGo f (l.drop (getL l).2.1)).map ((getL l).1 :: ·)
theorem numsGo_lay : ∀ (f : Nat) (ns : List Nat), (∀ n ∈ ns, n < 2 ^ 64) → (ns.flatMap lebl).length ≤ f → numsGo f (ns.flatMap lebl) = some ns
 | f, [], _, _ => by cases f <;> simp [numsGo]
 | 0, x :: r, h, hf => by
   have h1 := lebl_pos x
   simp only [List.flatMap_cons, List.length_append] at hf
   omega
 | f + 1, x :: r, h, hf => by
   have h1 := lebl_pos x
   have hg := getL_lebl (h x (by simp)) (r.flatMap lebl)
   rw [List.flatMap_cons] at hf ⊢
   unfold numsGo
   rw [if_neg (lebl_ne _ _), hg]
   simp only
   rw [if_neg (by simp), List.drop_left, numsGo_lay f r (fun n hn => h n (by simp [hn])) (by simp only [List.length_append] at hf; omega)]
   rfl
def refGo (w rows : Nat) : Nat → List Nat → Option Nat → List Nat → Option (List Nat)
 | _, acc, _, [] => if acc.length = rows then some acc else none
 | 0, _, _, _ => none
 | f + 1, acc, last, x :: r =>
   if w = 3 then
    match r with
    | [] => none
    | n :: r' => if rows - acc.length < n ∨ 2 ^ 32 ≤ x then none else refGo w rows f (acc ++ List.replicate n x) (some x) r'
   else
    if 2 ^ 32 ≤ nextN (if w = 2 then last else none) x ∨ rows - acc.length < 1 then none
    else refGo w rows f (acc ++ [nextN (if w = 2 then last else none) x]) (some (nextN (if w = 2 then last else none) x)) r
def refRead (w rows : Nat) (l : List UInt8) : Option (List Nat) :=
 if w = 4 then (match l with | [] => none | b :: r => if 32 < b.toNat ∨ r.length ≠ (rows * b.toNat + 7) / 8 then none else some (rkL rows (b :: r)))
 else (numsGo l.length l).bind fun ns => refGo w rows ns.length [] none ns
theorem refGo_1 : ∀ (c : List Nat) (f rows : Nat) (acc : List Nat) (last : Option Nat), c.length ≤ f → acc.length + c.length = rows → U32 c → refGo 1 rows f acc last c = some (acc ++ c)
 | [], f, rows, acc, last, _, h, _ => by cases f <;> (unfold refGo; simp at h; simp [h])
 | x :: r, 0, rows, acc, last, hf, _, _ => by simp at hf
 | x :: r, f + 1, rows, acc, last, hf, h, hu => by
   have hx : x < 2 ^ 32 := hu x (by simp)
   rw [List.length_cons] at hf h
   unfold refGo
   rw [if_neg (by omega)]
   simp only [show ¬ (1 : Nat) = 2 by omega, if_false]
   show (if 2 ^ 32 ≤ x ∨ rows - acc.length < 1 then none else refGo 1 rows f (acc ++ [x]) (some x) r) = _
   rw [if_neg (by omega), refGo_1 r f rows (acc ++ [x]) (some x) (by omega) (by simp; omega) (fun y hy => hu y (by simp [hy])), List.append_assoc]
   rfl
theorem refGo_2 : ∀ (c : List Nat) (f rows : Nat) (acc : List Nat) (last : Option Nat), c.length ≤ f → acc.length + c.length = rows → U32 c → (∀ q, last = some q → q < 2 ^ 32) → refGo 2 rows f acc last (dlt last c) = some (acc ++ c)
 | [], f, rows, acc, last, _, h, _, _ => by cases last <;> cases f <;> (show refGo 2 rows _ acc _ [] = _; unfold refGo; simp at h; simp [h])
 | x :: r, 0, rows, acc, last, hf, _, _, _ => by simp at hf
 | x :: r, f + 1, rows, acc, last, hf, h, hu, hl => by
   have hx : x < 2 ^ 32 := hu x (by simp)
   rw [List.length_cons] at hf h
   obtain ⟨n, hn, hnx⟩ : ∃ n, dlt last (x :: r) = n :: dlt (some x) r ∧ nextN last n = x := by
    cases last with
    | none => exact ⟨x, rfl, rfl⟩
    | some q => exact ⟨_, rfl, nextN_turn (hl q rfl) hx⟩
   rw [hn]
   unfold refGo
   rw [if_neg (by omega)]
   simp only [if_true]
   rw [hnx, if_neg (by omega), refGo_2 r f rows (acc ++ [x]) (some x) (by omega) (by simp; omega) (fun y hy => hu y (by simp [hy])) (fun q e => by cases e; exact hx), List.append_assoc]
   rfl
def flatR (l : List (Nat × Nat)) : List Nat := l.flatMap fun p => [p.1, p.2]
theorem refGo_3 : ∀ (f : Nat) (c : List Nat) (rows : Nat) (acc : List Nat) (last : Option Nat), (flatR (rns c)).length ≤ f → acc.length + c.length = rows → U32 c → refGo 3 rows f acc last (flatR (rns c)) = some (acc ++ c)
 | f, [], rows, acc, last, _, h, _ => by
   rw [rns]
   cases f <;> (show refGo 3 rows _ acc _ [] = _; unfold refGo; simp at h; simp [h])
 | 0, x :: r, rows, acc, last, hf, _, _ => by rw [rns] at hf; simp [flatR] at hf
 | f + 1, x :: r, rows, acc, last, hf, h, hu => by
   have hx : x < 2 ^ 32 := hu x (by simp)
   have hk := takeW_le x r
   have hrep := takeW_repl x r
   rw [rns] at hf ⊢
   rw [List.length_cons] at h
   generalize (r.takeWhile (· == x)).length = k at *
   have e : flatR ((x, k + 1) :: rns (r.drop k)) = x :: (k + 1) :: flatR (rns (r.drop k)) := rfl
   rw [e] at hf ⊢
   rw [List.length_cons, List.length_cons] at hf
   unfold refGo
   rw [if_pos rfl]
   simp only
   rw [if_neg (by omega), refGo_3 f (r.drop k) rows _ (some x) (by omega) (by simp; omega) (fun y hy => hu y (List.mem_cons_of_mem _ (List.mem_of_mem_drop hy)))]
   rw [List.append_assoc, List.replicate_succ, List.cons_append, ← hrep]
theorem rns_lt : ∀ (m : Nat) (c : List Nat), c.length ≤ m → U32 c → c.length < 2 ^ 32 → ∀ p ∈ rns c, p.1 < 2 ^ 32 ∧ p.2 < 2 ^ 33
 | m, [], _, _, _ => by rw [rns]; intro p hp; cases hp
 | 0, x :: r, hm, _, _ => by simp at hm
 | m + 1, x :: r, hm, hu, hn => by
   have hk := takeW_le x r
   rw [rns]
   rw [List.length_cons] at hm hn
   intro p hp
   rcases List.mem_cons.1 hp with rfl | hp
   ·exact ⟨hu x (by simp), by show (r.takeWhile (· == x)).length + 1 < _; omega⟩
   ·exact rns_lt m _ (by rw [List.length_drop]; omega) (fun y hy => hu y (List.mem_cons_of_mem _ (List.mem_of_mem_drop hy))) (by rw [List.length_drop]; omega) p hp
theorem layR_flat (c : List Nat) : layR c = (flatR (rns c)).flatMap lebl := by
 unfold layR flatR
 induction rns c with
 | nil => rfl
 | cons p ps ih =>
   rw [List.flatMap_cons, List.flatMap_cons, ih, List.flatMap_append]
   simp
theorem dlt_lt : ∀ (c : List Nat) (p : Option Nat), U32 c → (∀ q, p = some q → q < 2 ^ 32) → ∀ n ∈ dlt p c, n < 2 ^ 33
 | [], p, _, _ => by cases p <;> (intro n hn; cases hn)
 | x :: r, p, hu, hp => by
   have hx : x < 2 ^ 32 := hu x (by simp)
   have ih := dlt_lt r (some x) (fun y hy => hu y (by simp [hy])) (fun q e => by cases e; exact hx)
   cases p with
   | none =>
     intro n hn
     rcases List.mem_cons.1 hn with rfl | hn
     ·omega
     ·exact ih n hn
   | some q =>
     have hq := hp q rfl
     intro n hn
     rcases List.mem_cons.1 hn with rfl | hn
     ·exact turnN_lt (by omega) (by omega)
     ·exact ih n hn
theorem refRead_lay {w : Nat} (hw1 : 1 ≤ w) (hw2 : w ≤ 4) {c : List Nat} (h : U32 c) (hn : c.length < 2 ^ 32) : refRead w c.length (layW w c) = some c := by
 match w, hw1, hw2 with
 | 1, _, _ =>
   show (numsGo (layP c).length (layP c)).bind _ = _
   unfold layP
   rw [numsGo_lay _ _ (fun n hn => by have := h n hn; omega) (Nat.le_refl _)]
   exact refGo_1 c _ _ [] none (Nat.le_refl _) (by simp) h
 | 2, _, _ =>
   show (numsGo (layD c).length (layD c)).bind _ = _
   unfold layD
   rw [numsGo_lay _ _ (fun n hn => by have := dlt_lt c none h (fun q e => by cases e) n hn; omega) (Nat.le_refl _)]
   have hl : ∀ (c : List Nat) (p : Option Nat), (dlt p c).length = c.length := fun c => by
    induction c with
    | nil => intro p; cases p <;> rfl
    | cons x r ih => intro p; cases p <;> simp [dlt, ih]
   exact refGo_2 c _ _ [] none (by rw [hl]; exact Nat.le_refl _) (by simp) h (fun q e => by cases e)
 | 3, _, _ =>
   show (numsGo (layR c).length (layR c)).bind _ = _
   rw [layR_flat, numsGo_lay _ _ (fun n hnm => by
    unfold flatR at hnm
    obtain ⟨p, hp, hpn⟩ := List.mem_flatMap.1 hnm
    obtain ⟨h1, h2⟩ := rns_lt _ c (Nat.le_refl _) h hn p hp
    simp at hpn
    rcases hpn with rfl | rfl <;> omega) (Nat.le_refl _)]
   exact refGo_3 _ c _ [] none (Nat.le_refl _) (by simp) h
 | 4, _, _ =>
   have hw := wideN_le h
   have e : (UInt8.ofNat (wideN c)).toNat = wideN c := by simp; omega
   have hr := rkL_lay c h
   show refRead 4 c.length (layK c) = _
   unfold refRead
   rw [if_pos rfl]
   unfold layK at hr ⊢
   simp only
   rw [e, rowUp_len, if_neg (by omega), hr]
def decP (rows : Nat) (page : List UInt8) : Option (List Nat) :=
 match page with
 | [] => none
 | b :: l => if b.toNat < 1 ∨ 4 < b.toNat then none else if (readP b.toNat rows l).length = rows ∧ encL (readP b.toNat rows l) = page then some (readP b.toNat rows l) else none
def decR (rows : Nat) (page : List UInt8) : Option (List Nat) :=
 match page with
 | [] => none
 | b :: l => if b.toNat < 1 ∨ 4 < b.toNat then none else match refRead b.toNat rows l with
   | none => none
   | some c => if encL c = page then some c else none
theorem rpGo_u32 : ∀ (m : Nat) (l : List UInt8), U32 (rpGo m l)
 | 0, l => fun x h => by cases h
 | m + 1, l => by
   unfold rpGo
   split
   ·exact fun x h => by cases h
   ·rename_i h
    intro x hx
    rcases List.mem_cons.1 hx with rfl | hx
    ·exact Nat.lt_of_not_le fun hc => h (.inr (.inr hc))
    ·exact rpGo_u32 m _ x hx
theorem rdGoD_u32 : ∀ (m : Nat) (p : Option Nat) (l : List UInt8), U32 (rdGoD m p l)
 | 0, p, l => fun x h => by cases h
 | m + 1, p, l => by
   unfold rdGoD
   split
   ·exact fun x h => by cases h
   ·rename_i h
    intro x hx
    rcases List.mem_cons.1 hx with rfl | hx
    ·exact Nat.lt_of_not_le fun hc => h (.inr (.inr hc))
    ·exact rdGoD_u32 m _ _ x hx
theorem rrGo_u32 : ∀ (f m : Nat) (l : List UInt8), U32 (rrGo f m l)
 | 0, m, l => fun x h => by cases h
 | f + 1, m, l => by
   unfold rrGo
   split
   ·exact fun x h => by cases h
   ·rename_i h
    intro x hx
    rcases List.mem_append.1 hx with hx | hx
    ·rw [List.eq_of_mem_replicate hx]
     exact Nat.lt_of_not_le fun hc => h (.inr (.inr (.inr (.inl hc))))
    ·exact rrGo_u32 f _ _ x hx
theorem numUp_lt (l : List UInt8) (w i : Nat) : ∀ m, numUp l w i m < 2 ^ m
 | 0 => by simp [numUp]
 | m + 1 => by
   unfold numUp
   rw [List.range_succ, List.map_append, List.sum_append]
   simp only [List.map_cons, List.map_nil, List.sum_cons, List.sum_nil, Nat.add_zero]
   have h1 := numUp_lt l w i m
   unfold numUp at h1
   have h2 : bitB l (i * w + m) < 2 := bitN_lt _ _
   have h3 := Nat.mul_le_mul_right (2 ^ m) (show bitB l (i * w + m) ≤ 1 by omega)
   rw [Nat.pow_succ]
   omega
theorem rkL_u32 (rows : Nat) (l : List UInt8) : U32 (rkL rows l) := by
 unfold rkL
 split
 ·exact fun x h => by cases h
 ·split
  ·exact fun x h => by cases h
  ·rename_i b r h
   intro x hx
   obtain ⟨i, _, rfl⟩ := List.mem_map.1 hx
   have h1 := numUp_lt r b.toNat i b.toNat
   have h2 : 2 ^ b.toNat ≤ 2 ^ 32 := Nat.pow_le_pow_right (by omega) (by omega)
   omega
theorem readP_u32 (w rows : Nat) (l : List UInt8) : U32 (readP w rows l) := by
 unfold readP
 split
 ·exact rpGo_u32 _ _
 ·exact rdGoD_u32 _ _ _
 ·exact rrGo_u32 _ _ _
 ·exact rkL_u32 _ _
theorem refGo_spec (w rows : Nat) : ∀ (f : Nat) (acc : List Nat) (last : Option Nat) (ns c : List Nat), U32 acc → refGo w rows f acc last ns = some c → U32 c ∧ c.length = rows
 | f, acc, last, [], c, hu, h => by
   have h2 : (if acc.length = rows then some acc else none) = some c := by cases f <;> exact h
   split at h2
   ·cases h2; exact ⟨hu, by assumption⟩
   ·cases h2
 | 0, acc, last, x :: r, c, hu, h => by cases h
 | f + 1, acc, last, x :: r, c, hu, h => by
   unfold refGo at h
   split at h
   ·split at h
    ·cases h
    ·split at h
     ·cases h
     ·rename_i h3
      refine refGo_spec w rows f _ _ _ c (fun y hy => ?_) h
      rcases List.mem_append.1 hy with hy | hy
      ·exact hu y hy
      ·rw [List.eq_of_mem_replicate hy]
       omega
   ·generalize (if w = 2 then last else none) = L at h
    split at h
    ·cases h
    ·rename_i h3
     refine refGo_spec w rows f _ _ _ c (fun y hy => ?_) h
     rcases List.mem_append.1 hy with hy | hy
     ·exact hu y hy
     ·rw [List.mem_singleton] at hy
      rw [hy]
      omega
theorem refRead_spec {w rows : Nat} {l : List UInt8} {c : List Nat} (h : refRead w rows l = some c) : U32 c ∧ c.length = rows := by
 unfold refRead at h
 split at h
 ·split at h
  ·cases h
  ·split at h
   ·cases h
   ·rename_i b r h2
    cases h
    refine ⟨rkL_u32 _ _, ?_⟩
    unfold rkL
    simp only
    rw [if_neg h2]
    simp
 ·cases hn : numsGo l.length l with
  | none => rw [hn] at h; cases h
  | some ns =>
    rw [hn] at h
    exact refGo_spec w rows _ _ _ _ c (fun y hy => by cases hy) h
theorem encL_head {c : List Nat} {b : UInt8} {l : List UInt8} (h : encL c = b :: l) : b.toNat = wayN c ∧ l = layW (wayN c) c := by
 unfold encL at h
 obtain ⟨h1, h2⟩ := List.cons.inj h
 have := wayN_range c
 exact ⟨by rw [← h1]; simp; omega, h2.symm⟩
theorem dec_same (rows : Nat) (hr : rows < 2 ^ 32) (page : List UInt8) : decP rows page = decR rows page := by
 cases page with
 | nil => rfl
 | cons b l =>
   unfold decP decR
   simp only
   by_cases hb : b.toNat < 1 ∨ 4 < b.toNat
   ·rw [if_pos hb, if_pos hb]
   ·rw [if_neg hb, if_neg hb]
    have key : ∀ c : List Nat, U32 c → c.length = rows → encL c = b :: l → readP b.toNat rows l = c ∧ refRead b.toNat rows l = some c := fun c hu hl he => by
     obtain ⟨h1, h2⟩ := encL_head he
     have hw := wayN_range c
     rw [h1, h2, ← hl]
     exact ⟨readP_lay hw.1 hw.2 hu (by omega), refRead_lay hw.1 hw.2 hu (by omega)⟩
    by_cases hp : (readP b.toNat rows l).length = rows ∧ encL (readP b.toNat rows l) = b :: l
    ·rw [if_pos hp, (key _ (readP_u32 _ _ _) hp.1 hp.2).2]
     simp only
     rw [if_pos hp.2]
    ·rw [if_neg hp]
     cases hr2 : refRead b.toNat rows l with
     | none => rfl
     | some c =>
       obtain ⟨hu, hl⟩ := refRead_spec hr2
       simp only
       by_cases he : encL c = b :: l
       ·have hk := (key c hu hl he).1
        rw [hk] at hp
        exact absurd ⟨hl, he⟩ hp
       ·rw [if_neg he]
theorem decP_spec {rows : Nat} {page : List UInt8} {c : List Nat} (h : decP rows page = some c) : U32 c ∧ c.length = rows ∧ encL c = page := by
 unfold decP at h
 split at h
 ·cases h
 ·split at h
  ·cases h
  ·split at h
   ·rename_i h2
    cases h
    exact ⟨readP_u32 _ _ _, h2⟩
   ·cases h
theorem decP_enc {c : List Nat} (hu : U32 c) (hn : c.length < 2 ^ 32) : decP c.length (encL c) = some c := by
 have hw := wayN_range c
 have e : (UInt8.ofNat (wayN c)).toNat = wayN c := by simp; omega
 have hp : readP (wayN c) c.length (layW (wayN c) c) = c := readP_lay hw.1 hw.2 hu hn
 show (if (UInt8.ofNat (wayN c)).toNat < 1 ∨ 4 < (UInt8.ofNat (wayN c)).toNat then none else _) = _
 rw [e, if_neg (by omega), hp, if_pos ⟨rfl, rfl⟩]
end Go.Proofs.YtjoiaejbahdjkaaGreat
