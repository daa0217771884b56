/-
  The document's reading of the numbers of a column: walked.
-/
import Derived.Test.YtjoiaejbahdjkaaGreatColE
import Derived.Test.YtjoiaejbahdjkaaGreatRefReader
namespace Go.Proofs.YtjoiaejbahdjkaaGreat
open Go Go.RowKit Go.Mine
set_option linter.unusedVariables false
set_option maxHeartbeats 4000000
set_option maxRecDepth 100000
structure VOwn (e : TypeId) (w0 w : World) (a : Option Addr) (c : Nat) (us : List Value) : Prop where
 own : Mine.Own w e 1 a us.length c us
 fr : ∀ b, blk a = some b → w0.heap.size ≤ b
 md : Mod (fun _ => False) w0 w
theorem VOwn.nil (e : TypeId) (w : World) : VOwn e w w none 0 [] := ⟨Mine.Own.nil _ _ _, (fun b hb => by cases hb), Mod.refl _ _⟩
theorem VOwn.mod0 {e : TypeId} {w0 w w' : World} {a : Option Addr} {c : Nat} {us : List Value} (h : VOwn e w0 w a c us) (m : Mod (fun _ => False) w w') : VOwn e w0 w' a c us := ⟨h.own.mod m (fun _ _ => id), h.fr, h.md.trans m⟩
theorem VOwn.app {e : TypeId} {w0 w w3 : World} {a a3 : Option Addr} {c c3 n : Nat} {us ys : List Value} (h : VOwn e w0 w a c us) (hG : Grow w a w3 a3) (hO : Mine.Own w3 e 1 a3 n c3 (us ++ ys)) (hn : n = us.length + ys.length) : VOwn e w0 w3 a3 c3 (us ++ ys) := by
 refine ⟨?_, fun b hb => ?_, h.md.step hG.mod (fun b hb e => by have := h.fr b e; omega)⟩
 ·rw [List.length_append, ← hn]; exact hO
 ·rcases hG.pos with e | ⟨g, e, hg⟩
  ·rw [e] at hb; exact h.fr b hb
  ·have := h.md.size
   rw [e] at hb
   have : g = b := by simpa [blk] using hb
   omega
theorem tiU64 : TI Tryz.prog 65 66 1 8 := TI.mk' (z := .int .u64 0) (by kernel_rfl) (by kernel_rfl) rfl (by omega)
theorem tiU32 : TI Tryz.prog 162 58 1 4 := TI.mk' (z := .int .u32 0) (by kernel_rfl) (by kernel_rfl) rfl (by omega)
def nums2 (l : List UInt8) : Option (List Nat) := numsGo l.length l
theorem numsGo_step (f : Nat) {l : List UInt8} (h : l ≠ []) : numsGo (f + 1) l = if (getL l).2.2 ≠ 0 then none else (numsGo f (l.drop (getL l).2.1)).map ((getL l).1 :: ·) := by
 rw [numsGo, if_neg h]
theorem numsGo_nil (f : Nat) : numsGo f [] = some [] := by cases f <;> rfl
theorem getL_ok {l : List UInt8} (h : (getL l).2.2 = 0) : 0 < (getL l).2.1 ∧ (getL l).2.1 ≤ l.length ∧ (getL l).1 < 2 ^ 64 := by
 rcases getL_spec l with ⟨_, h2, h3, h4⟩ | h1 | h1
 ·exact ⟨h2, h3, h4⟩
 ·rw [h1] at h; cases h
 ·rw [h1] at h; cases h
theorem numsGo_two : ∀ (f g : Nat) (l : List UInt8), l.length ≤ f → l.length ≤ g → numsGo f l = numsGo g l
 | f, g, [], _, _ => by rw [numsGo_nil, numsGo_nil]
 | 0, g, b :: r, h, _ => by simp at h
 | f + 1, 0, b :: r, _, h => by simp at h
 | f + 1, g + 1, b :: r, h1, h2 => by
   rw [numsGo_step f (by simp), numsGo_step g (by simp)]
   by_cases he : (getL (b :: r)).2.2 = 0
   ·obtain ⟨hk, hk2, _⟩ := getL_ok he
    rw [numsGo_two f g _ (by rw [List.length_drop]; omega) (by rw [List.length_drop]; omega)]
   ·rw [if_pos he, if_pos he]
theorem nums2_nil : nums2 [] = some [] := rfl
theorem nums2_err {l : List UInt8} (h : l ≠ []) (he : (getL l).2.2 ≠ 0) : nums2 l = none := by
 unfold nums2
 cases l with
 | nil => exact absurd rfl h
 | cons b r => rw [List.length_cons, numsGo_step _ h, if_pos he]
theorem nums2_on {l : List UInt8} (h : l ≠ []) (he : (getL l).2.2 = 0) : nums2 l = (nums2 (l.drop (getL l).2.1)).map ((getL l).1 :: ·) := by
 obtain ⟨hk, hk2, _⟩ := getL_ok he
 unfold nums2
 cases l with
 | nil => exact absurd rfl h
 | cons b r =>
   rw [List.length_cons, numsGo_step _ h, if_neg (by simpa using he)]
   rw [numsGo_two r.length _ _ (by rw [List.length_drop, List.length_cons]; omega) (Nat.le_refl _)]
@[simp] theorem u64s_len (l : List Nat) : (u64s l).length = l.length := by simp [u64s]
def NumsPost (l : List UInt8) (w : World) (e : Ending) (w' : World) : Prop :=
 (nums2 l = none ∧ e = .returned (.tuple #[.slice none 0 0, .bool false]) ∧ Mod (fun _ => False) w w') ∨
 ∃ ns a c, nums2 l = some ns ∧ (∀ n ∈ ns, n < 2 ^ 64) ∧ ns.length ≤ l.length ∧ e = .returned (.tuple #[.slice a ns.length c, .bool true]) ∧ VOwn 66 w w' a c (u64s ns)
theorem numsR_any (a : Option Addr) (l : List UInt8) (d : Nat) (w : World) (hr : Rd w a (bts l)) (hl : l.length < 2 ^ 40) (hd : l.length ≤ d) :
 Calls Tryz.prog 154 #[.slice a l.length d] w (NumsPost l w) := by
 have HR := Hi hr
 clear hr
 go_enter Tryz.func154, Tryz.ntmps154
 go_wp2_with fail
 go_loopw [0, 4, 5, 6, 7] (fun bv cv _ _ _ wr => ∃ (l' : List UInt8) (a' : Option Addr) (d' : Nat) (ns : List Nat) (oa : Option Addr) (oc : Nat), bv = .slice a' l'.length d' ∧ l'.length ≤ d' ∧ l'.length ≤ l.length ∧ Hid (Rd w a' (bts l')) ∧ cv = .slice oa ns.length oc ∧ ns.length + l'.length ≤ l.length ∧
  Hid (nums2 l = (nums2 l').map (ns ++ ·)) ∧ Hid (∀ n ∈ ns, n < 2 ^ 64) ∧ Hid (VOwn 66 w wr oa oc (u64s ns))) (fun bv _ _ _ _ _ => match bv with | .slice _ n _ => n | _ => 0)
 case atStart => exact ⟨l, a, d, [], none, 0, rfl, hd, Nat.le_refl _, HR, rfl, by simp, Hi (by simp), Hi (by simp), Hi (VOwn.nil _ w)⟩
 case round =>
  obtain ⟨l', a', d', ns, oa, oc, rfl, hd', hll, hR, rfl, hnl, hN, hB, hO⟩ := hrel
  by_cases h0 : l' = []
  ·have HN : Hid (nums2 l = some ns) := Hi (by rw [hN.out, h0, nums2_nil]; simp)
   subst h0
   have hd00 : (0 : Nat) ≤ d' := hd'
   clear hN hR
   go_wp2_with fail
   exact bodyPost_ret (v := .tuple #[.slice oa ns.length oc, .bool true]) (by simp [results, Tryz.results154, go_sem]) rfl (.inr ⟨ns, oa, oc, HN.out, hB.out, by omega, rfl, hO.out⟩)
  ·have hlen : 0 < l'.length := List.length_pos_iff.2 h0
   have HG := Hi (refGet_any a' l' d' wr (hR.out.mod hO.out.md (fun _ _ => id)) (by omega))
   by_cases he : (getL l').2.2 = 0
   ·obtain ⟨hk, hk2, hn64⟩ := getL_ok he
    have HON := Hi (nums2_on h0 he)
    have hsl := run_slice_lo' ti24 a' l'.length d' ((getL l').2.1 : Nat) (by omega) (by omega)
    rw [he] at HG
    have HDR : Hid (Rd w (subA a' d' (getL l').2.1 1) (bts (l'.drop (getL l').2.1))) := Hi (by
     have h1 := subA_rd hR.out (c := d') (lo := (getL l').2.1) (k := 1) (fun h => by simp; omega)
     simpa [bts, List.map_drop] using h1)
    have hdl : (l'.drop (getL l').2.1).length = l'.length - (getL l').2.1 := List.length_drop
    have HDL := Hi hdl
    clear he hdl
    generalize l'.drop (getL l').2.1 = l2 at *
    generalize (getL l').1 = n at *
    generalize (getL l').2.1 = k at *
    go_wp2_with fail
    refine HG.out.mono ?_
    rintro e w1 ⟨rfl, hw1⟩
    obtain rfl : wr = w1 := hw1
    have hown : Mine.Own wr 66 1 oa ns.length oc (u64s ns) := by have h1 := hO.out.own; rwa [u64s_len] at h1
    go_wp2_with (at_builtin; refine wpL_appendN (us := [.int .u64 (n : Nat)]) rfl (.tmp 19) (.tmp 21) 65 rfl tiU64 rfl hown rfl rfl rfl (by show (ns.length + 1) * 8 ≤ _; omega) (by show ns.length + 1 ≤ _; unfold maxLen; omega) ?_; intro a3 c3 w3 hO3 hG3 _
                 have HO3 : Hid (VOwn 66 w w3 a3 c3 (u64s (ns ++ [n]))) := Hi (by
                  have e : u64s (ns ++ [n]) = u64s ns ++ [.int .u64 (n : Nat)] := by simp [u64s]
                  rw [e]
                  exact hO.out.app hG3 hO3 (by simp)); clear hO3 hG3)
    go_roundw
    case rel => exact ⟨l2, subA a' d' k 1, d' - k, ns ++ [n], a3, c3, by rw [HDL.out], by have := HDL.out; omega, by have := HDL.out; omega, HDR, by simp, by have := HDL.out; simp; omega, Hi (by rw [hN.out, HON.out]; cases nums2 l2 <;> simp), Hi (fun m hm => by
     rcases List.mem_append.1 hm with hm | hm
     ·exact hB.out m hm
     ·rw [List.mem_singleton] at hm; rw [hm]; exact hn64), HO3⟩
    case measure => show l'.length - k < l'.length; omega
   ·have HER := Hi (nums2_err h0 he)
    obtain ⟨er, her⟩ : ∃ er, er = (getL l').2.2 := ⟨_, rfl⟩
    rw [← her] at HG he
    generalize (getL l').1 = n at *
    generalize (getL l').2.1 = k at *
    go_wp2_with fail
    refine HG.out.mono ?_
    rintro e w1 ⟨rfl, hw1⟩
    obtain rfl : wr = w1 := hw1
    have hne : ((er : Int) != 0) = true := by simp; omega
    go_wp2_with fail
    exact bodyPost_ret (v := .tuple #[.slice none 0 0, .bool false]) (by simp [results, Tryz.results154, go_sem]) rfl (.inl ⟨by rw [hN.out, HER.out]; rfl, rfl, hO.out.md⟩)
end Go.Proofs.YtjoiaejbahdjkaaGreat
