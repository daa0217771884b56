/-
  does, whole.
-/
import Derived.Test.YtcmgeiohcgngeaaSymD3
namespace Go.Proofs.Ytcmgeiohcgngeaa
open Go Go.RowKit Go.Mine Go.Maps
set_option linter.unusedVariables false
set_option maxHeartbeats 4000000
set_option maxRecDepth 100000

theorem twin_of {f g : Nat} {us vs : Array Value} {u : Value} {w : World} (h1 : ∀ W, Mod (fun _ => False) w W → Calls Try.prog f us W fun e w' => e = .returned u ∧ W = w') (h2 : ∀ W, Mod (fun _ => False) w W → Calls Try.prog g vs W fun e w' => e = .returned u ∧ W = w') : Twin f g us vs u w := fun W m => ⟨h1 W m, h2 W m⟩
theorem blkX_blk {a : Option Addr} {xs : List ByteArray} {b : Nat} (h : blkX a xs = some b) : blk a = some b := by
  cases xs with
  | nil => cases h
  | cons x xs => exact h
theorem does_nil (kd wh N : Int) (ta : Option Addr) (tc : Nat) (xs : List ByteArray) (w : World) (hR : Rd w ta (sts xs)) (hta : ∀ b, blkX ta xs = some b → b < w.heap.size) (hn : xs.length ≤ 2 ^ 20) :
    Calls Try.prog 7 #[.pointer none, .pointer none, .agg #[.int .i64 kd, .int .i64 wh, .slice ta xs.length tc, .int .i64 N]] w fun e w' => e = .returned (.bool true) ∧ Mod (fun _ => False) w w' := by
  by_cases k1 : kd = 1
  · subst k1
    refine does_put none none wh N ta tc xs 1 w (fun _ => False) (fun _ h => h.elim) (fun b hb => ⟨hta b hb, id⟩) hR hn ?_
    intro W g c' hm hg hgl hrd
    refine (put_nil _ W).mono ?_
    rintro e w1 ⟨rfl, hw1⟩
    obtain rfl : W = w1 := hw1
    refine ⟨none, 0, 0, rfl, Mod.refl _ _, (rput_nil _ W).mono ?_⟩
    rintro e w2 ⟨rfl, hw2⟩
    obtain rfl : W = w2 := hw2
    refine ⟨none, 0, [], rfl, by simp, rfl, Mine.Own.nil _ _ _, Mine.Own.nil _ _ _, Mod.refl _ _, (fun b hb => by cases hb), fun w3 S m hs => ⟨rfl, hm.step m (fun i hi h => ?_)⟩⟩
    rcases hs i h with e | e
    · omega
    · cases e
  by_cases k2 : kd = 2
  · subst k2
    exact does_find none none wh N ta tc xs w hR (by omega) (fun x _ => ⟨0, false, twin_of (fun W _ => find_nil x W) (fun W _ => rfind_nil x W)⟩)
  by_cases k3 : kd = 3
  · subst k3
    exact does_text none none wh N ta xs.length tc w ⟨#[]⟩ false (twin_of (fun W _ => text_nil N W) (fun W _ => rtext_nil N W))
  by_cases k4 : kd = 4
  · subst k4
    refine does_walk none none wh N ta xs.length tc w ((walk_nil 4 wh N ta xs.length tc _).mono ?_)
    rintro e w' ⟨rfl, m⟩
    exact ⟨rfl, rfl, ((Mod.refl _ w).alloc _).trans m⟩
  by_cases k5 : kd = 5
  · subst k5
    refine does_five none none wh N ta xs.length tc w [] [] [] 0 (by simp) (by simp) (by simp) (fun W _ => (rising_nil W).mono ?_) (fun W _ => ranks_nil W) (fun W _ => (page_none (none_nil W)).mono ?_) (fun W _ => rrising_nil W) (fun W _ => rranks_nil W) (fun W _ => (rpage_nil W).mono ?_) (twin_of (fun W _ => len_nil W) (fun W _ => rlen_nil W))
    · rintro e w' ⟨rfl, m⟩
      exact sliNil rfl m
    · rintro e w' ⟨rfl, rfl⟩
      exact ⟨none, 0, rfl, Mine.Own.nil _ _ _, (fun b hb => by cases hb), Mod.refl _ _⟩
    · rintro e w' ⟨rfl, rfl⟩
      exact ⟨none, 0, rfl, Rd.nil _ _, Mod.refl _ _⟩
  exact does_no none none kd wh N ta xs.length tc w k1 k2 k3 k4 k5
theorem dpost_same {w w' : World} {T M B : Nat} {a : Option Addr} {c : Nat} {a2 : Option Addr} {c2 : Nat} {l xs : List ByteArray} (hp : PrAt w T M B a c a2 c2 l) (m : Mod (fun _ => False) w w') : DPost T M B a a2 l xs w (.returned (.bool true)) w' :=
  ⟨rfl, a, c, a2, c2, l, hp.mod m (fun _ _ => id), .inl rfl, m.mono (fun _ _ h => h.elim), fun b hb => .inl hb⟩
theorem does_tb (kd wh N : Int) (ta : Option Addr) (tc : Nat) (xs : List ByteArray) {w : World} {T M B : Nat} {a : Option Addr} {c : Nat} {a2 : Option Addr} {c2 : Nat} {l : List ByteArray} (hp : PrAt w T M B a c a2 c2 l) (hok : OkT l) (hR : Rd w ta (sts xs)) (hta : ∀ b, blkX ta xs = some b → b < w.heap.size ∧ ¬ PrF T M B a a2 b) (hn : l.length + xs.length ≤ 2 ^ 20) (hs : ∀ x ∈ xs, x.size < 2 ^ 40) :
    Calls Try.prog 7 #[.pointer (some ⟨T, 0, none⟩), .pointer (some ⟨M, 0, none⟩), .agg #[.int .i64 kd, .int .i64 wh, .slice ta xs.length tc, .int .i64 N]] w (DPost T M B a a2 l xs w) := by
  have hs60 : ∀ x ∈ xs, x.size < 2 ^ 60 := fun x hx => by have := hs x hx; omega
  have fin : ∀ e w', (e = Ending.returned (.bool true) ∧ Mod (fun _ => False) w w') → DPost T M B a a2 l xs w e w' := by
    rintro e w' ⟨rfl, m⟩
    exact dpost_same hp m
  by_cases k1 : kd = 1
  · subst k1
    by_cases hlong : longT xs = true
    · refine does_put _ _ wh N ta tc xs 3 w (fun _ => False) (fun _ h => h.elim) (fun b hb => ⟨(hta b hb).1, id⟩) hR (by omega) ?_
      intro W g c' hm hg hgl hrd
      refine (put_long (hp.tb.mod0 hm) _ c' xs hrd (by omega) hs60 hlong).mono ?_
      rintro e w1 ⟨rfl, hw1⟩
      obtain rfl : W = w1 := hw1
      refine ⟨none, 0, 0, rfl, Mod.refl _ _, (rput_any (hp.rb.mod0 hm) ta tc xs (hR.mod hm (fun _ _ => id)) (by omega) (by omega) hs60 (fun b hb h => (hta b hb).2 (.inr h))).mono ?_⟩
      intro e w2 h2
      obtain ⟨rfl, hw2⟩ := h2.1 hlong
      obtain rfl : W = w2 := hw2
      refine ⟨none, 0, [], rfl, by simp, rfl, Mine.Own.nil _ _ _, Mine.Own.nil _ _ _, Mod.refl _ _, (fun b hb => by cases hb), fun w3 S m hs => dpost_same hp (hm.step m (fun i hi h => ?_))⟩
      rcases hs i h with e | e
      · omega
      · cases e
    · have hlg : longT xs = false := by simpa using hlong
      refine does_put _ _ wh N ta tc xs 0 w (PrF T M B a a2) (fun b hb => hp.lt hb) hta hR (by omega) ?_
      intro W g c' hm hg hgl hrd
      have hpW : PrAt W T M B a c a2 c2 l := hp.mod hm (fun _ _ => id)
      refine (put_tb hpW.tb _ c' xs hrd (by omega) (by omega) hs60 hlg (fun b hb h => ?_)).mono ?_
      · have e : g = b := by simpa [blk] using blkX_blk hb
        have := hp.lt (.inl h)
        omega
      intro e w1 hP1
      obtain ⟨oa, oc, b', d', rfl, hMid⟩ := pr_put1 hpW hP1
      refine ⟨oa, xs.length, oc, rfl, hMid.mod.mono (fun _ _ h => .inl h), (rput_any hMid.rb ta tc xs (rd_modX (hR.mod hm (fun _ _ => id)) hMid.mod (fun b hb h => (hta b hb).2 (.inl h))) (by omega) (by omega) hs60 (fun b hb h => (hta b hb).2 (.inr h))).mono ?_⟩
      intro e w2 h2
      obtain ⟨ob, od, b2, d2, rfl, hBo⟩ := pr_put2 hpW hMid (h2.2 hlg)
      have hgl2 : (putT l xs).1.length = xs.length := putT_len _ _
      refine ⟨ob, od, (putT l xs).1, hgl2.symm, by omega, rfl, by rw [hgl2]; exact hBo.got, by rw [hgl2]; exact hBo.said, hBo.mod, fun b hb => (hBo.f2 b hb).1, fun w3 S m hs => ⟨rfl, b', d', b2, d2, (putT l xs).2, hBo.pr.mod m (fun b hb h => ?_), .inr ⟨hlg, rfl⟩, ((hm.mono (fun _ _ h => h.elim)).step hBo.mod (fun _ _ h => h)).step m (fun i hi h => ?_), fun b hb => (hBo.f1 b hb).imp id (fun h => by have := hm.size; omega)⟩⟩
      · rcases hs b h with e | e
        · rcases hBo.f1 b hb with h1 | h1
          · have := hp.lt h1; omega
          · omega
        · exact (hBo.f2 b e).2 hb
      · rcases hs i h with e | e
        · omega
        · have := (hBo.f2 i e).1; have := hm.size; omega
  by_cases k2 : kd = 2
  · subst k2
    exact (does_find _ _ wh N ta tc xs w hR (by omega) (fun x hx => ⟨_, _, twin_of (fun W m => find_tb (hp.tb.mod0 m) x (by have := hs x hx; unfold maxLen; omega)) (fun W m => rfind_tb (hp.rb.mod0 m) x (by omega))⟩)).mono fin
  by_cases k3 : kd = 3
  · subst k3
    exact (does_text _ _ wh N ta xs.length tc w _ _ (twin_of (fun W m => text_tb (hp.tb.mod0 m) N) (fun W m => rtext_tb (hp.rb.mod0 m) N))).mono fin
  by_cases k4 : kd = 4
  · subst k4
    have m0 : Mod (fun _ => False) w (w.alloc (.cells #[.int .i64 4, .int .i64 wh, .slice ta xs.length tc, .int .i64 N] 34)) := (Mod.refl _ w).alloc _
    refine does_walk _ _ wh N ta xs.length tc w ((walk_tb 4 wh N ta tc xs (hp.mod m0 (fun _ _ => id)) (hR.mod m0 (fun _ _ => id)) (fun b hb => ⟨Nat.lt_of_lt_of_le (hta b hb).1 m0.size, (hta b hb).2⟩) hn hs60).mono ?_)
    rintro e w' ⟨rfl, a', c', a2', c2', l', h1, h2, h3, h4⟩
    exact ⟨rfl, rfl, a', c', a2', c2', l', h1, h2, (m0.mono (fun _ _ h => h.elim)).step h3 (fun _ _ h => h), fun b hb => (h4 b hb).imp id (fun h => Nat.le_trans m0.size h)⟩
  by_cases k5 : kd = 5
  · subst k5
    have hll : l.length ≤ 2 ^ 20 := by omega
    have hrl := (riseL_is hok.nd).len
    refine (does_five _ _ wh N ta xs.length tc w (riseL l) (rkL l) (if pgErr none (atL l) = 0 then pgBytes (atL l) else []) l.length (by omega) (by rw [rkL_len]; omega) ?_ (fun W m => (rising_tb (hp.tb.mod0 m) hok.nd hll).mono ?_) (fun W m => ranks_tb (hp.tb.mod0 m) hok.nd hll) (fun W m => (pageO_tb (hp.tb.mod0 m) hok hll).mono ?_) (fun W m => rrising_tb (hp.rb.mod0 m) hok.nd hll) (fun W m => rranks_tb (hp.rb.mod0 m) hll) (fun W m => (rpage_tb (hp.rb.mod0 m) hok hll).mono ?_) (twin_of (fun W m => len_tb (hp.tb.mod0 m)) (fun W m => rlen_tb (hp.rb.mod0 m)))).mono fin
    · split
      · have h1 := pgBody_len (l := atL l) (fun s h => hok.sm s (atL_mem hok.nd h))
        have h2 := lebl_len64 (atL l).length (by rw [atL_len hok.nd]; omega)
        rw [atL_len hok.nd] at h1 h2
        unfold pgBytes
        rw [List.length_append, atL_len hok.nd]
        omega
      · simp
    · rintro e w' ⟨oa, oc, rfl, h1, h2, h3⟩
      exact ⟨oa, oc, by rw [hrl], by rw [hrl]; exact h1, h2, h3⟩
    · rintro e w' ⟨v, rfl, hm, pa, pc, rfl, h1, h2⟩
      exact ⟨pa, pc, rfl, h1, h2, hm⟩
    · rintro e w' ⟨v, rfl, hm, pa, pc, rfl, h1⟩
      exact ⟨pa, pc, rfl, h1, hm⟩
  exact (does_no _ _ kd wh N ta xs.length tc w k1 k2 k3 k4 k5).mono fin
end Go.Proofs.Ytcmgeiohcgngeaa
