/-
  The tables of a script: one operation on one of them; a range that has no rounds.
-/
import Derived.Test.YtcmgeiohcgngeaaSymE2
namespace Go.Proofs.Ytcmgeiohcgngeaa
open Go Go.RowKit Go.Mine Go.Maps
set_option linter.unusedVariables false
set_option maxHeartbeats 4000000
set_option maxRecDepth 100000

/-- a script's tables: the two slices, the pairs -/
structure Scr (L : Nat) (w0 : World) (ta : Option Addr) (tc : Nat) (ma : Option Addr) (mc : Nat) (tv mv : List Value) (k n : Nat) (w : World) : Prop where
  ex : ∃ qs : List PrD, qs.length = k ∧ tbV qs ++ [.pointer none] = tv ∧ mdV qs ++ [.pointer none] = mv ∧ (∀ q ∈ qs, OkT q.l ∧ q.l.length ≤ n) ∧ Fam L w (ownI 27 1 ta (k + 1) tc tv :: ownI 29 1 ma (k + 1) mc mv :: qs.map prI)
  md : Mod (fun _ => False) w0 w
theorem Scr.mod0 {L : Nat} {w0 w w' : World} {ta : Option Addr} {tc : Nat} {ma : Option Addr} {mc : Nat} {tv mv : List Value} {k n : Nat} (h : Scr L w0 ta tc ma mc tv mv k n w) (m : Mod (fun _ => False) w w') : Scr L w0 ta tc ma mc tv mv k n w' := by
  obtain ⟨⟨qs, h1, h2, h3, h4, h5⟩, h6⟩ := h
  exact ⟨⟨qs, h1, h2, h3, h4, h5.mod0 m⟩, h6.trans m⟩
theorem Scr.le {L : Nat} {w0 w : World} {ta : Option Addr} {tc : Nat} {ma : Option Addr} {mc : Nat} {tv mv : List Value} {k n n' : Nat} (h : Scr L w0 ta tc ma mc tv mv k n w) (hn : n ≤ n') : Scr L w0 ta tc ma mc tv mv k n' w := by
  obtain ⟨⟨qs, h1, h2, h3, h4, h5⟩, h6⟩ := h
  exact ⟨⟨qs, h1, h2, h3, fun q hq => ⟨(h4 q hq).1, Nat.le_trans (h4 q hq).2 hn⟩, h5⟩, h6⟩
theorem tbV_set {qs : List PrD} {r : Nat} (hr : r < qs.length) {p : PrD} (h : p.T = qs[r].T) : tbV (qs.set r p) = tbV qs := by
  unfold tbV
  rw [List.map_set, h]
  refine List.ext_getElem (by simp) fun i h1 h2 => ?_
  rw [List.getElem_set]
  by_cases hi : r = i
  · subst hi; simp
  · simp [hi]
theorem mdV_set {qs : List PrD} {r : Nat} (hr : r < qs.length) {p : PrD} (h : p.M = qs[r].M) : mdV (qs.set r p) = mdV qs := by
  unfold mdV
  rw [List.map_set, h]
  refine List.ext_getElem (by simp) fun i h1 h2 => ?_
  rw [List.getElem_set]
  by_cases hi : r = i
  · subst hi; simp
  · simp [hi]
/-- one operation -/
theorem Scr.step {L : Nat} {w0 w : World} {ta : Option Addr} {tc : Nat} {ma : Option Addr} {mc : Nat} {tv mv : List Value} {k n : Nat} (h : Scr L w0 ta tc ma mc tv mv k n w) (hL : w0.heap.size ≤ L) {r : Nat} (hr : r < k + 1)
    (kd wh N : Int) (oa : Option Addr) (oc : Nat) (xs : List ByteArray) (hR : Rd w0 oa (sts xs)) (hn : n + xs.length ≤ 2 ^ 20) (hs : ∀ x ∈ xs, x.size < 2 ^ 40) :
    ∃ tp mp b1 o1 b2 o2, ta = some ⟨b1, o1, none⟩ ∧ ma = some ⟨b2, o2, none⟩ ∧ w.cell? ⟨b1, o1 + r, none⟩ = some tp ∧ w.cell? ⟨b2, o2 + r, none⟩ = some mp ∧
      ∀ W, Mod (fun _ => False) w W → Calls Try.prog 7 #[tp, mp, .agg #[.int .i64 kd, .int .i64 wh, .slice oa xs.length oc, .int .i64 N]] W fun e w' => e = .returned (.bool true) ∧ Scr L w0 ta tc ma mc tv mv k (n + xs.length) w' := by
  obtain ⟨⟨qs, hk, ht, hm, hq, F⟩, hM⟩ := h
  have o1 : Mine.Own w 27 1 ta (k + 1) tc tv := F.at_ (ownI 27 1 ta (k + 1) tc tv) (List.mem_cons_self ..)
  have o2 : Mine.Own w 29 1 ma (k + 1) mc mv := F.at_ (ownI 29 1 ma (k + 1) mc mv) (by simp)
  have step : ∀ {W : World}, Mod (fun _ => False) w W → Rd W oa (sts xs) := fun m => hR.mod (hM.trans m) (fun _ _ => id)
  have ho := rd_ltX hR
  have hlt : ∀ {W : World}, Mod (fun _ => False) w W → ∀ b, blkX oa xs = some b → b < W.heap.size := fun m b hb => Nat.lt_of_lt_of_le (ho b hb) (Nat.le_trans hM.size m.size)
  by_cases hrk : r < k
  · have hrq : r < qs.length := by omega
    have e1 : tv[r]? = some (.pointer (some ⟨qs[r].T, 0, none⟩)) := by
      rw [← ht, List.getElem?_append_left (by simp [hrq])]; simp [tbV, hrq]
    have e2 : mv[r]? = some (.pointer (some ⟨qs[r].M, 0, none⟩)) := by
      rw [← hm, List.getElem?_append_left (by simp [hrq])]; simp [mdV, hrq]
    obtain ⟨b1, p1, h1, c1⟩ := o1.rd r _ e1
    obtain ⟨b2, p2, h2, c2⟩ := o2.rd r _ e2
    refine ⟨_, _, b1, p1, b2, p2, h1, h2, c1, c2, fun W m => ?_⟩
    have F' := F.mod0 m
    have hmem : prI qs[r] ∈ (ownI 27 1 ta (k + 1) tc tv :: ownI 29 1 ma (k + 1) mc mv :: qs.map prI) := List.mem_cons_of_mem _ (List.mem_cons_of_mem _ (List.mem_map.2 ⟨_, List.getElem_mem hrq, rfl⟩))
    obtain ⟨q1, q2⟩ := hq _ (List.getElem_mem hrq)
    refine (does_pr qs[r] kd wh N oa oc xs (F'.at_ (prI qs[r]) hmem) q1 (step m) (fun b hb => ⟨hlt m b hb, fun hb' => ?_⟩) (by omega) hs).mono ?_
    · have := F'.lo (prI qs[r]) hmem b hb'
      have := ho b hb
      omega
    · rintro e w' ⟨rfl, p', g1, g2, g3, g4, g5, g6, g7⟩
      refine ⟨rfl, ⟨qs.set r p', by simp [hk], by rw [tbV_set hrq g1, ht], by rw [mdV_set hrq g2, hm], fun q hq' => ?_, ?_⟩, (hM.trans m).step g6 (fun b hb hb' => ?_)⟩
      · rcases List.mem_or_eq_of_mem_set hq' with hq' | rfl
        · obtain ⟨x1, x2⟩ := hq q hq'
          exact ⟨x1, by omega⟩
        · exact ⟨g4, by omega⟩
      · have hs2 := F'.set (k := r + 2) (i' := prI p') (by simp [hrq]) (by simpa using g6) g3 (by simpa using g7)
        simpa [List.map_set] using hs2
      · have := F'.lo (prI qs[r]) hmem b hb'
        omega
  · obtain rfl : r = k := by omega
    have e1 : tv[r]? = some (.pointer none) := by
      rw [← ht, List.getElem?_append_right (by simp [hk])]; simp [hk]
    have e2 : mv[r]? = some (.pointer none) := by
      rw [← hm, List.getElem?_append_right (by simp [hk])]; simp [hk]
    obtain ⟨b1, p1, h1, c1⟩ := o1.rd r _ e1
    obtain ⟨b2, p2, h2, c2⟩ := o2.rd r _ e2
    refine ⟨_, _, b1, p1, b2, p2, h1, h2, c1, c2, fun W m => ?_⟩
    refine (does_nil kd wh N oa oc xs W (step m) (hlt m) (by omega)).mono ?_
    rintro e w' ⟨rfl, m'⟩
    exact ⟨rfl, ⟨qs, hk, ht, hm, fun q hq' => ⟨(hq q hq').1, by have := (hq q hq').2; omega⟩, F.mod0 (m.trans m')⟩, hM.trans (m.trans m')⟩
/-- a range over a sequence that gives nothing -/
theorem wpIn_range0 {F : Fence} {n : Nat} {P : Program} {α : Type} {g : Operand} {ps : Array Tmp} {assign body : Code} {Q : Exit → Act → World → Prop} {a : Act} {w : World}
    (hro : F.round = none) (h1 : 1 ≤ n) {gf : Nat} {lb : Array Value} (hg : a.eval g = .func (.func gf) #[] lb) (hFg : F.fn gf) (eg : ∀ args w, (callFunc gf args).run P w = .ok (.enter gf args) w)
    {encs : α → Array Value} {Kp : World → World → Prop} {S Sp : List α → Prop} {w0 : World} (hseq : SeqStopsK F (n - 1) P gf lb encs Kp S Sp 0 w0)
    (hKt : ∀ {A B C : World}, Kp A B → Kp B C → Kp A C) (hKb : ∀ (W : World) (l : Nat) (o o' : Obj), w.heap.size ≤ l → W.heap[l]? = some o → o.isCells = false → o.isWalk = false → Kp W (W.putObj l o')) (hb0 : Below w0.heap.size w0 w) (hps : ∀ x, (encs x).size = ps.size)
    (I : List α → World → Prop) (hI : OwnFrom w.heap.size I) (h0 : I [] w)
    (hass : ∀ (l : Nat) (b : Act) (W : World) (K : Act → World → Prop), K b W → assign.wpIn (F.inRound l) (n - 1 - 1) P (Exit.then K (fun _ _ _ => False)) b W)
    (hdone : ∀ (D : Nat) (xs : List α) (W : World), w.heap.size ≤ D → S xs → I xs W → W.heap[D]? = some (.deferred (some [])) → Q .normal { a with defers := { target := .collected D, args := #[] } :: a.defers } W) :
    (Code.rangeFunc g ps assign body).wpIn F n P Q a w :=
  wpIn_rangeFunc_ownG hro h1 hg hFg eg hseq (fun h k => hKt h k) hKb hb0 hps I (fun _ _ _ => False) hI (fun c => by rintro _ _ _ _ h; exact h.elim) h0
    (fun x => { tmps := (ps.zip (encs x)).foldl (fun t (p, v) => t.setIfInBounds p v) a.tmps, defers := [] }) (fun l x W K hK => hass l _ W K hK)
    (fun l pre x W _ h => absurd h (Nat.not_lt_zero _)) hdone (fun D c pre W _ _ h _ => h.elim)
end Go.Proofs.Ytcmgeiohcgngeaa
