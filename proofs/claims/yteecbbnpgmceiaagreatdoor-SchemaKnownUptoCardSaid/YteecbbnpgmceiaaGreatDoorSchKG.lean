/-
  The plain law of schema: many rules of unlike names; the limit from both sides.
-/
import Derived.Test.YteecbbnpgmceiaaGreatDoorKnH
import Derived.Test.YteecbbnpgmceiaaGreatDoorSafeG
import Derived.Test.YteecbbnpgmceiaaGreatDoorSchA
import Derived.Test.YteecbbnpgmceiaaGreatDoorSchO
namespace Go.Proofs.YteecbbnpgmceiaaGreatDoor
open Go Go.RowKit Go.Mine
set_option linter.unusedVariables false

/-- the name numbered i -/
def nmC1 (i : Nat) : UInt8 := UInt8.ofNat (97 + i / 26)
def nmC2 (i : Nat) : UInt8 := UInt8.ofNat (97 + i % 26)
def nmB (i : Nat) : ByteArray := ⟨#[112, nmC1 i, nmC2 i]⟩
theorem nmC1_nat {i : Nat} (h : i < 600) : (nmC1 i).toNat = 97 + i / 26 := by
  unfold nmC1
  rw [UInt8.toNat_ofNat']; omega
theorem nmC2_nat {i : Nat} (h : i < 600) : (nmC2 i).toNat = 97 + i % 26 := by
  unfold nmC2
  rw [UInt8.toNat_ofNat']; omega
theorem nmB_inj {i j : Nat} (hi : i < 600) (hj : j < 600) (h : nmB i = nmB j) : i = j := by
  have h1 : nmC1 i = nmC1 j ∧ nmC2 i = nmC2 j := by
    have := congrArg (fun x => x.data.toList) h
    simpa [nmB] using this
  have a := congrArg UInt8.toNat h1.1
  have b := congrArg UInt8.toNat h1.2
  rw [nmC1_nat hi, nmC1_nat hj] at a
  rw [nmC2_nat hi, nmC2_nat hj] at b
  omega
/-- n rules from number i on, then t -/
def nmL : Nat → Nat → List UInt8 → List UInt8
  | _, 0, t => t
  | i, n + 1, t => 112 :: nmC1 i :: nmC2 i :: 46 :: 32 :: nmL (i + 1) n t
theorem nmL_len (t : List UInt8) : ∀ (n i : Nat), (nmL i n t).length = 5 * n + t.length
  | 0, i => by simp [nmL]
  | n + 1, i => by simp only [nmL, List.length_cons, nmL_len t n]; omega
def nmT : Nat → Nat → Nat → List Tok
  | _, _, 0 => []
  | p, i, n + 1 => ⟨1, nmB i, p⟩ :: ⟨7, ⟨#[]⟩, p + 3⟩ :: nmT (p + 5) (i + 1) n
theorem nmT_len : ∀ (n p i : Nat), (nmT p i n).length = 2 * n
  | 0, _, _ => rfl
  | n + 1, p, i => by rw [nmT, List.length_cons, List.length_cons, nmT_len n]; omega
theorem nmT_get : ∀ (n p i k : Nat), k < n → (nmT p i n)[2 * k]? = some ⟨1, nmB (i + k), p + 5 * k⟩ ∧ (nmT p i n)[2 * k + 1]? = some ⟨7, ⟨#[]⟩, p + 5 * k + 3⟩
  | 0, p, i, k, h => by omega
  | n + 1, p, i, 0, h => ⟨rfl, rfl⟩
  | n + 1, p, i, k + 1, h => by
    have := nmT_get n (p + 5) (i + 1) k (by omega)
    rw [nmT, show 2 * (k + 1) = 2 * k + 1 + 1 by omega]
    simp only [List.getElem?_cons_succ]
    rw [this.1, this.2, show i + 1 + k = i + (k + 1) by omega, show p + 5 + 5 * k = p + 5 * (k + 1) by omega]
    exact ⟨rfl, rfl⟩
theorem nm_part {i : Nat} (h : i < 600) : ∀ c ∈ [112, nmC1 i, nmC2 i], c.toNat < 128 ∧ isPart c.toNat = true := by
  have hs : ∀ c : UInt8, 97 ≤ c.toNat ∧ c.toNat ≤ 122 → c.toNat < 128 ∧ isPart c.toNat = true := fun c hc => ⟨by omega, (small_kind hc).2⟩
  intro c hc
  simp only [List.mem_cons, List.not_mem_nil, or_false] at hc
  rcases hc with rfl | rfl | rfl
  · exact hs _ (by decide)
  · refine hs _ ?_
    rw [nmC1_nat h]; omega
  · refine hs _ ?_
    rw [nmC2_nat h]; omega
theorem scan_nm {s : ByteArray} {t : List UInt8} {R : List Tok × Nat × Nat} : ∀ (n p i : Nat), i + n ≤ 600 → s.data.toList.drop p = nmL i n t → TRes s (p + 5 * n) R → TRes s p (nmT p i n ++ R.1, R.2)
  | 0, p, i, _, h, hR => hR
  | n + 1, p, i, hi, h, hR => by
    rw [nmL] at h
    have h' : s.data.toList.drop p = [112, nmC1 i, nmC2 i] ++ 46 :: 32 :: nmL (i + 1) n t := h
    have h3 : s.data.toList.drop (p + 3) = 46 :: 32 :: nmL (i + 1) n t := by
      rw [← List.drop_drop, h']; rfl
    obtain ⟨_, _, h4⟩ := drop_cons h3
    obtain ⟨h4i, h4s, h5⟩ := drop_cons h4
    have ih := scan_nm n (p + 5) (i + 1) (by omega) h5 (by rw [show p + 5 + 5 * n = p + 5 * (n + 1) by omega]; exact hR)
    have ihb : TRes s (p + 3 + 1) (nmT (p + 5) (i + 1) n ++ R.1, R.2) := TRes.ofBlank h4i (.inl h4s) ih
    have a := one_mark (k := 7) h3 ⟨by decide, by decide, by decide, by decide, by decide, by decide⟩ (by decide) (by decide) (by rfl) (by decide) ihb
    exact one_word (l := [112, nmC1 i, nmC2 i]) (n := 3) h' rfl (nm_part (by omega)) ⟨112, [nmC1 i, nmC2 i], rfl, by decide⟩ (by decide) (fun c r' e => by cases e; decide) a
def nmR (i : Nat) : Rm := ⟨⟨nmB i, []⟩, []⟩
def nmRs (n : Nat) : List Rm := (List.range n).map nmR
theorem nmRs_len (n : Nat) : (nmRs n).length = n := by simp [nmRs]
theorem nmRs_succ (n : Nat) : nmRs (n + 1) = nmRs n ++ [nmR n] := by simp [nmRs, List.range_succ]
theorem rounds_nm {S : Toks} (hb : ∀ k, S.bad k = false) : ∀ (m k f : Nat), k + m ≤ 600 → (∀ j, k ≤ j → j < k + m → S.tok (2 * j) = ⟨1, nmB j, 5 * j⟩ ∧ S.tok (2 * j + 1) = ⟨7, ⟨#[]⟩, 5 * j + 3⟩) →
    progGo S (f + m) (2 * k) (nmRs k) = progGo S f (2 * (k + m)) (nmRs (k + m))
  | 0, k, f, _, _ => by simp
  | m + 1, k, f, h2, h3 => by
    obtain ⟨t1, t2⟩ := h3 k (Nat.le_refl _) (by omega)
    have hx : ¬ 4096 < (nmB k).size := by show ¬ 4096 < 3; decide
    rw [show f + (m + 1) = (f + m) + 1 by omega, progGo, isP_val (hb _), bind_ok', if_neg (by rw [t1]; show ¬ ([0] : List Nat).contains 1 = true; decide), wantP_ok (hb _) (by rw [t1]; rfl), bind_ok', if_neg (by rw [nmRs_len]; omega), rule_w hb hx t1 t2, bind_ok']
    simp only
    rw [show 2 * k + 2 = 2 * (k + 1) by omega]
    have ih := rounds_nm hb m (k + 1) f (by omega) (fun j hj hj2 => h3 j (by omega) (by omega))
    rw [show k + 1 + m = k + (m + 1) by omega, nmRs_succ] at ih
    exact ih
theorem nm_reads {t : List UInt8} {ts : List Tok} {n : Nat} (hn : n ≤ 600) (ht : t.length ≤ 100) (hR : TRes ⟨(nmL 0 n t).toArray⟩ (5 * n) (ts, 0, 0)) :
    readL ⟨(nmL 0 n t).toArray⟩ progP = wholeP ⟨nmT 0 0 n ++ ts, 0, 5 * n + t.length⟩ (progGo ⟨nmT 0 0 n ++ ts, 0, 5 * n + t.length⟩ (1025 - n) (2 * n) (nmRs n)) := by
  have hsz : (⟨(nmL 0 n t).toArray⟩ : ByteArray).size = 5 * n + t.length := by
    show (nmL 0 n t).toArray.size = _
    rw [List.size_toArray, nmL_len]
  have hsc := scan_nm (s := ⟨(nmL 0 n t).toArray⟩) n 0 0 (by omega) rfl (by rw [Nat.zero_add]; exact hR)
  have hs : scanL ⟨(nmL 0 n t).toArray⟩ = (nmT 0 0 n ++ ts, 0, 0) := (scanL_res _).uniq hsc
  have hS : toksOf ⟨(nmL 0 n t).toArray⟩ = ⟨nmT 0 0 n ++ ts, 0, 5 * n + t.length⟩ := by
    unfold toksOf
    rw [hs]
    simp only [if_pos, hsz]
  unfold readL
  rw [if_neg (by omega), hS]
  congr 1
  have hk : ∀ j, j < n → Toks.tok ⟨nmT 0 0 n ++ ts, 0, 5 * n + t.length⟩ (2 * j) = ⟨1, nmB j, 5 * j⟩ ∧ Toks.tok ⟨nmT 0 0 n ++ ts, 0, 5 * n + t.length⟩ (2 * j + 1) = ⟨7, ⟨#[]⟩, 5 * j + 3⟩ := fun j hj => by
    obtain ⟨h1, h2⟩ := nmT_get n 0 0 j hj
    have hl := nmT_len n 0 0
    unfold Toks.tok
    simp only [List.getD_eq_getElem?_getD]
    rw [List.getElem?_append_left (by omega), List.getElem?_append_left (by omega), h1, h2, Nat.zero_add, Nat.zero_add]
    exact ⟨rfl, rfl⟩
  have := rounds_nm (S := ⟨nmT 0 0 n ++ ts, 0, 5 * n + t.length⟩) (nb _ _) n 0 (1025 - n) (by omega) (fun j _ hj => hk j (by omega))
  rw [show 1025 - n + n = 1025 by omega, Nat.mul_zero, Nat.zero_add] at this
  unfold progP
  exact this
theorem nmL_drop (t : List UInt8) : ∀ (n i : Nat), (nmL i n t).drop (5 * n) = t
  | 0, i => rfl
  | n + 1, i => by
    rw [nmL, show 5 * (n + 1) = 5 * n + 1 + 1 + 1 + 1 + 1 by omega]
    simp only [List.drop_succ_cons]
    exact nmL_drop t n (i + 1)
theorem nm_end {n : Nat} {t : List UInt8} {i : Nat} (h : 5 * n + t.length ≤ i) : TRes ⟨(nmL 0 n t).toArray⟩ i ([], 0, 0) := by
  refine TRes.ofEnd ?_
  show ¬ i < (nmL 0 n t).toArray.size
  rw [List.size_toArray, nmL_len]
  omega
/-- the names alone -/
theorem known_nm {n : Nat} (hn : n ≤ 600) : readL ⟨(nmL 0 n []).toArray⟩ progP = .ok (nmRs n) := by
  rw [nm_reads hn (by simp) (nm_end (by simp))]
  have hk : Toks.tok ⟨nmT 0 0 n ++ [], 0, 5 * n + 0⟩ (2 * n) = ⟨0, emptyB, 5 * n + 0⟩ := tok_out (by simp [nmT_len])
  obtain ⟨f, hf⟩ : ∃ f, 1025 - n = f + 1 := ⟨1024 - n, by omega⟩
  have hp : progGo ⟨nmT 0 0 n ++ [], 0, 5 * n + 0⟩ (1025 - n) (2 * n) (nmRs n) = .ok (nmRs n, 2 * n) := by
    rw [hf, progGo, isP_val (nb _ _ _), bind_ok', hk, if_pos (by rfl)]
  unfold wholeP
  show (progGo ⟨nmT 0 0 n ++ [], 0, 5 * n + 0⟩ (1025 - n) (2 * n) (nmRs n)).bind _ = _
  rw [hp, bind_ok', wantP_ok (nb _ _ _) (by simp only; show ([0] : List Nat).contains (Toks.tok ⟨nmT 0 0 n ++ [], 0, 5 * n + 0⟩ (2 * n)).kind = true; rw [hk]; rfl)]
  rfl
/-- the names, and one rule -/
theorem known_nmr {n m : Nat} {t : List UInt8} {ts : List Tok} {r : Rm} {g : Bool} (hn : n ≤ 600) (ht : t.length ≤ 100) (hR : TRes ⟨(nmL 0 n t).toArray⟩ (5 * n) (ts, 0, 0))
    (h1 : ∀ F, (Toks.tok ⟨ts, 0, F⟩ 0).kind = 1) (hr : ∀ F, ruleP ⟨ts, 0, F⟩ 0 = .ok (r, m, g)) (hm : ts.length = m) : readL ⟨(nmL 0 n t).toArray⟩ progP = .ok (nmRs n ++ [r]) := by
  rw [nm_reads hn ht hR]
  generalize 5 * n + t.length = F
  have hl := nmT_len n 0 0
  generalize nmT 0 0 n = A at *
  have hk : ∀ k, Toks.tok ⟨A ++ ts, 0, F⟩ (k + 2 * n) = Toks.tok ⟨ts, 0, F⟩ k := fun k => by
    unfold Toks.tok
    simp only [List.getD_eq_getElem?_getD]
    rw [List.getElem?_append_right (by omega), hl, Nat.add_sub_cancel]
  have hs : R2.Sim ⟨ts, 0, F⟩ ⟨A ++ ts, 0, F⟩ (2 * n) none false := ⟨fun k _ => .inl (by rw [hk]), fun k _ => by rw [hk], fun k _ => by rw [nb, nb], fun k _ h => rfl⟩
  obtain ⟨hru, _⟩ := R2.ruleP_in hs (hr F) (fun j _ h => h)
  rw [Nat.zero_add] at hru
  simp only at hru
  have k0 := hk 0
  rw [Nat.zero_add] at k0
  have hend : Toks.tok ⟨A ++ ts, 0, F⟩ (m + 2 * n) = ⟨0, emptyB, F⟩ := tok_out (by simp; omega)
  obtain ⟨f, hf⟩ : ∃ f, 1025 - n = f + 1 + 1 := ⟨1023 - n, by omega⟩
  have hp : progGo ⟨A ++ ts, 0, F⟩ (1025 - n) (2 * n) (nmRs n) = .ok (nmRs n ++ [r], m + 2 * n) := by
    rw [hf, progGo, isP_val (nb _ _ _), bind_ok', if_neg (by rw [k0, h1 F]; decide), wantP_ok (nb _ _ _) (by rw [k0, h1 F]; rfl), bind_ok', if_neg (by rw [nmRs_len]; omega), hru, bind_ok']
    simp only
    rw [progGo, isP_val (nb _ _ _), bind_ok', hend, if_pos (by rfl)]
  unfold wholeP
  rw [hp, bind_ok', wantP_ok (nb _ _ _) (by simp only; rw [hend]; rfl)]
  rfl
/-! the check of many names -/
def nmA (n : Nat) : Ar := (List.range n).map fun i => (nmB i, 0)
theorem nmA_len (n : Nat) : (nmA n).length = n := by simp [nmA]
theorem nmA_none {n : Nat} (x : ByteArray) (h : ∀ i, i < n → nmB i ≠ x) : arOf (nmA n) x = none := by
  unfold arOf
  rw [Option.map_eq_none_iff, List.find?_eq_none]
  intro y hy
  unfold nmA at hy
  obtain ⟨i, hi, rfl⟩ := List.mem_map.1 hy
  have := h i (List.mem_range.1 hi)
  simpa using this
theorem nmA_zero {n : Nat} : ∀ (i : Nat), i < n → n ≤ 600 → arOf (nmA n) (nmB i) = some 0 := by
  intro i hi hn
  unfold arOf
  cases hf : (nmA n).find? fun y => decide (y.1 = nmB i) with
  | none =>
    rw [List.find?_eq_none] at hf
    have := hf (nmB i, 0) (by unfold nmA; exact List.mem_map.2 ⟨i, List.mem_range.2 hi, rfl⟩)
    simp at this
  | some y =>
    have hm := List.mem_of_find?_eq_some hf
    unfold nmA at hm
    obtain ⟨j, _, rfl⟩ := List.mem_map.1 hm
    rfl
theorem nm_uses (i : Nat) : usesL (nmR i) = [(nmB i, 0)] := rfl
theorem nm_safe (i : Nat) : (safeB (nmR i)).kind = 0 := rfl
theorem noted_one (l : Ar) (x : ByteArray × Nat) : notedL l [x] = if fitsL l x = true then some (noteL l x) else none := by
  rw [notedL]; rfl
theorem check_nm {rs : List Rm} : ∀ (m k : Nat), k + m ≤ 512 → (∀ i, k ≤ i → i < k + m → mayRm (nmR i) = 0) → checkGo k (nmA k) ((List.range' k m).map nmR ++ rs) = checkGo (k + m) (nmA (k + m)) rs
  | 0, k, _, _ => by simp
  | m + 1, k, h, hm => by
    have hn : arOf (nmA k) (nmB k) = none := nmA_none _ fun i hi e => by have := nmB_inj (by omega) (by omega) e; omega
    have e1 : noteL (nmA k) (nmB k, 0) = nmA (k + 1) := by
      unfold noteL
      simp only [hn]
      unfold nmA
      rw [List.range_succ, List.map_append]; rfl
    have e2 : fitsL (nmA k) (nmB k, 0) = true := by
      unfold fitsL
      simp only [hn]
    rw [List.range'_succ, List.map_cons, List.cons_append, checkGo, if_neg (by rw [hm k (Nat.le_refl _) (by omega)]; decide), nm_uses, noted_one, if_pos e2, e1]
    simp only
    rw [if_neg (by rw [nmA_len]; omega), if_neg (by rw [nm_safe]; decide)]
    have ih := check_nm (rs := rs) m (k + 1) (by omega) (fun i h1 h2 => hm i (by omega) (by omega))
    rw [show k + 1 + m = k + (m + 1) by omega] at ih
    exact ih
theorem mayRs_mem {l : Rm} : ∀ {rs : List Rm}, mayRs rs = 0 → l ∈ rs → mayRm l = 0
  | r :: rs, h, hm => by
    rw [mayRs] at h
    split at h
    · rename_i h1; exact absurd h h1
    · rename_i h1
      rcases List.mem_cons.1 hm with rfl | hm
      · simpa using h1
      · exact mayRs_mem h hm
theorem nmRs_range (n : Nat) : nmRs n = (List.range' 0 n).map nmR := by unfold nmRs; rw [List.range_eq_range']
theorem may_of {s : ByteArray} {rs : List Rm} (h : readL s progP = .ok rs) : ∀ r ∈ rs, mayRm r = 0 := fun r hr => by
  have := prog_may h
  unfold mayPm at this
  split at this
  · cases this
  · exact mayRs_mem this hr
theorem check_nms {n : Nat} {rs : List Rm} (hn : n ≤ 512) (hr : rs.length ≤ 500) (hm : ∀ r ∈ nmRs n ++ rs, mayRm r = 0) : checkL (nmRs n ++ rs) = checkGo n (nmA n) rs := by
  unfold checkL
  rw [if_neg (by rw [List.length_append, nmRs_len]; omega)]
  have := check_nm (rs := rs) n 0 (by omega) (fun i _ hi => hm _ (List.mem_append_left _ (by unfold nmRs; exact List.mem_map.2 ⟨i, List.mem_range.2 (by omega), rfl⟩)))
  rw [Nat.zero_add, ← nmRs_range] at this
  exact this
def tailQ : List UInt8 := [112, 97, 97, 32, 58, 45, 32, 113, 40, 88, 41, 46]
def tailX : List UInt8 := [112, 97, 97, 40, 88, 41, 46]
def tailTQ (p : Nat) : List Tok := [⟨1, ⟨#[112, 97, 97]⟩, p⟩, ⟨8, ⟨#[]⟩, p + 4⟩, ⟨1, ⟨#[113]⟩, p + 7⟩, ⟨4, ⟨#[]⟩, p + 8⟩, ⟨2, ⟨#[88]⟩, p + 9⟩, ⟨5, ⟨#[]⟩, p + 10⟩, ⟨7, ⟨#[]⟩, p + 11⟩]
def tailTX (p : Nat) : List Tok := [⟨1, ⟨#[112, 97, 97]⟩, p⟩, ⟨4, ⟨#[]⟩, p + 3⟩, ⟨2, ⟨#[88]⟩, p + 4⟩, ⟨5, ⟨#[]⟩, p + 5⟩, ⟨7, ⟨#[]⟩, p + 6⟩]
def tailRQ : Rm := ⟨⟨⟨#[112, 97, 97]⟩, []⟩, [⟨1, ⟨⟨#[113]⟩, [⟨1, ⟨#[88]⟩⟩]⟩, 0, tm0, tm0⟩]⟩
def tailRX : Rm := ⟨⟨⟨#[112, 97, 97]⟩, [⟨1, ⟨#[88]⟩⟩]⟩, []⟩
theorem tailQ_rule (p F : Nat) : ruleP ⟨tailTQ p, 0, F⟩ 0 = .ok (tailRQ, 7, false) := by kernel_rfl
theorem tailX_rule (p F : Nat) : ruleP ⟨tailTX p, 0, F⟩ 0 = .ok (tailRX, 5, false) := by kernel_rfl
section
variable {s : ByteArray} {p : Nat}
theorem tp : ∀ c ∈ ([112, 97, 97] : List UInt8), c.toNat < 128 ∧ isPart c.toNat = true := by decide
theorem tail_call {k : Nat} {R : List Tok × Nat × Nat} (h : s.data.toList.drop k = [40, 88, 41, 46]) (he : TRes s (k + 4) ([], 0, 0)) : TRes s k ([⟨4, ⟨#[]⟩, k⟩, ⟨2, ⟨#[88]⟩, k + 1⟩, ⟨5, ⟨#[]⟩, k + 2⟩, ⟨7, ⟨#[]⟩, k + 3⟩], 0, 0) := by
  obtain ⟨_, _, h1⟩ := drop_cons h
  obtain ⟨_, _, h2⟩ := drop_cons h1
  obtain ⟨_, _, h3⟩ := drop_cons h2
  have a3 := one_mark (k := 7) h3 ⟨by decide, by decide, by decide, by decide, by decide, by decide⟩ (by decide) (by decide) (by rfl) (by decide) he
  have a2 := one_mark (k := 5) h2 ⟨by decide, by decide, by decide, by decide, by decide, by decide⟩ (by decide) (by decide) (by rfl) (by decide) a3
  have a1 := one_word (l := [88]) (n := 1) (k := 2) h1 rfl (fun c hc => by simp at hc; subst hc; decide) ⟨88, [], rfl, by decide⟩ (by decide) (fun c r' e => by cases e; decide) a2
  exact one_mark (k := 4) h ⟨by decide, by decide, by decide, by decide, by decide, by decide⟩ (by decide) (by decide) (by rfl) (by decide) a1
theorem tailX_scan (h : s.data.toList.drop p = tailX) (he : TRes s (p + 7) ([], 0, 0)) : TRes s p (tailTX p, 0, 0) := by
  have h' : s.data.toList.drop p = [112, 97, 97] ++ [40, 88, 41, 46] := h
  have h3 : s.data.toList.drop (p + 3) = [40, 88, 41, 46] := by rw [← List.drop_drop, h']; rfl
  exact one_word (l := [112, 97, 97]) (n := 3) (k := 1) h' rfl tp ⟨112, [97, 97], rfl, by decide⟩ (by decide) (fun c r' e => by cases e; decide) (tail_call (R := ([], 0, 0)) h3 he)
theorem tailQ_scan (h : s.data.toList.drop p = tailQ) (he : TRes s (p + 12) ([], 0, 0)) : TRes s p (tailTQ p, 0, 0) := by
  have h' : s.data.toList.drop p = [112, 97, 97] ++ [32, 58, 45, 32, 113, 40, 88, 41, 46] := h
  have h3 : s.data.toList.drop (p + 3) = [32, 58, 45, 32, 113, 40, 88, 41, 46] := by rw [← List.drop_drop, h']; rfl
  obtain ⟨h3i, h3s, h4⟩ := drop_cons h3
  obtain ⟨h4i, h4s, h5⟩ := drop_cons h4
  obtain ⟨_, _, h6⟩ := drop_cons h5
  obtain ⟨h6i, h6s, h7⟩ := drop_cons h6
  obtain ⟨_, _, h8⟩ := drop_cons h7
  have a8 := tail_call (R := ([], 0, 0)) h8 he
  have a7 := one_word (l := [113]) (n := 1) (k := 1) h7 rfl (fun c hc => by simp at hc; subst hc; decide) ⟨113, [], rfl, by decide⟩ (by decide) (fun c r' e => by cases e; decide) a8
  have a6 := TRes.ofBlank h6i (.inl h6s) a7
  have hw : (wordL s (p + 3 + 1)).1 = 0 := by
    unfold wordL
    rw [kindL_at h4i (by rw [h4s]; decide), h4s]; rfl
  have a4 := TRes.ofMark (k := 8) (n := 2) h4i (by rw [h4s]; exact ⟨by decide, by decide, by decide, by decide, by decide, by decide⟩) hw (by rw [h4]; rfl) (by decide) a6
  have a3 := TRes.ofBlank h3i (.inl h3s) a4
  exact one_word (l := [112, 97, 97]) (n := 3) (k := 1) h' rfl tp ⟨112, [97, 97], rfl, by decide⟩ (by decide) (fun c r' e => by cases e; decide) a3
end
theorem nm_q {n : Nat} (hn : n ≤ 600) : readL ⟨(nmL 0 n tailQ).toArray⟩ progP = .ok (nmRs n ++ [tailRQ]) :=
  known_nmr hn (by decide) (tailQ_scan (nmL_drop _ _ _) (nm_end (by simp [tailQ]))) (fun _ => rfl) (fun F => tailQ_rule _ F) rfl
theorem nm_x {n : Nat} (hn : n ≤ 600) : readL ⟨(nmL 0 n tailX).toArray⟩ progP = .ok (nmRs n ++ [tailRX]) :=
  known_nmr hn (by decide) (tailX_scan (nmL_drop _ _ _) (nm_end (by simp [tailX]))) (fun _ => rfl) (fun F => tailX_rule _ F) rfl
theorem nm_c {n : Nat} (hn : n = 512) : checkL (nmRs n) = (0, 0) := by
  have := check_nms (n := n) (rs := []) (by omega) (by simp) (by rw [List.append_nil]; exact may_of (known_nm (by omega)))
  rw [List.append_nil] at this
  rw [this]; rfl
theorem nmB_q {i : Nat} : nmB i ≠ ⟨#[113]⟩ := fun e => by have := congrArg ByteArray.size e; revert this; show ¬ 3 = 1; decide
theorem nm_c1 {n : Nat} (hn : n = 512) : checkL (nmRs (n + 1)) = (512, 112) := by
  have h := may_of (known_nm (n := n + 1) (by omega))
  rw [nmRs_succ] at h ⊢
  rw [check_nms (by omega) (by simp) h, checkGo, if_neg (by rw [h _ (List.mem_append_right _ (List.mem_singleton.2 rfl))]; decide), nm_uses, noted_one]
  have hno : arOf (nmA n) (nmB n) = none := nmA_none _ fun i hi e => by have := nmB_inj (by omega) (by omega) e; omega
  rw [if_pos (by unfold fitsL; simp only [hno])]
  simp only
  rw [if_pos (by unfold noteL; simp only [hno]; rw [List.length_append, nmA_len]; simp; omega), hn]; rfl
theorem nmB_0 : (⟨#[112, 97, 97]⟩ : ByteArray) = nmB 0 := by rfl
theorem nm_cq {n : Nat} (hn : n = 512) : checkL (nmRs n ++ [tailRQ]) = (512, 112) := by
  have h := may_of (nm_q (n := n) (by omega))
  rw [check_nms (by omega) (by simp) h, checkGo, if_neg (by rw [h _ (List.mem_append_right _ (List.mem_singleton.2 rfl))]; decide)]
  have h0 := nmA_zero (n := n) 0 (by omega) (by omega)
  rw [← nmB_0] at h0
  have hu : usesL tailRQ = [(⟨#[112, 97, 97]⟩, 0), (⟨#[113]⟩, 1)] := by rfl
  have hno : arOf (nmA n) ⟨#[113]⟩ = none := nmA_none _ fun i hi => nmB_q
  have e1 : fitsL (nmA n) (⟨#[112, 97, 97]⟩, 0) = true := by unfold fitsL; simp only [h0]; rfl
  have e2 : noteL (nmA n) (⟨#[112, 97, 97]⟩, 0) = nmA n := by unfold noteL; simp only [h0]
  have e3 : fitsL (nmA n) (⟨#[113]⟩, 1) = true := by unfold fitsL; simp only [hno]
  rw [hu, notedL, if_pos e1, e2, noted_one, if_pos e3]
  simp only
  rw [if_pos (by unfold noteL; simp only [hno]; rw [List.length_append, nmA_len]; simp; omega), hn]; rfl
theorem nm_cx {n : Nat} (hn : n = 512) : checkL (nmRs n ++ [tailRX]) = (512, 110) := by
  have h := may_of (nm_x (n := n) (by omega))
  rw [check_nms (by omega) (by simp) h, checkGo, if_neg (by rw [h _ (List.mem_append_right _ (List.mem_singleton.2 rfl))]; decide)]
  have h0 := nmA_zero (n := n) 0 (by omega) (by omega)
  rw [← nmB_0] at h0
  have hu : usesL tailRX = [(⟨#[112, 97, 97]⟩, 1)] := by rfl
  have e1 : ¬ fitsL (nmA n) (⟨#[112, 97, 97]⟩, 1) = true := by unfold fitsL; simp only [h0]; decide
  rw [hu, noted_one, if_neg e1, hn]; rfl
end Go.Proofs.YteecbbnpgmceiaaGreatDoor
/-
  SchemaKnown's helpers: names; what check and safe tell of a text.
-/
namespace Go.Proofs.YteecbbnpgmceiaaGreatDoor.L11
open Go Go.RowKit Go.Mine
set_option linter.unusedVariables false
set_option maxHeartbeats 4000000
set_option maxRecDepth 100000

theorem baL {s t : ByteArray} (h : s.data.toList = t.data.toList) : s = t := by
  cases s; cases t; exact congrArg _ (Array.ext' h)
theorem baA (x y : ByteArray) : (x ++ y).data.toList = x.data.toList ++ y.data.toList := by rw [ByteArray.data_append, Array.toList_append]
theorem nmL_snoc (t : List UInt8) : ∀ (n i : Nat), nmL i (n + 1) t = nmL i n (112 :: nmC1 (i + n) :: nmC2 (i + n) :: 46 :: 32 :: t)
  | 0, i => rfl
  | n + 1, i => by rw [nmL, nmL_snoc t n (i + 1), nmL, show i + 1 + n = i + (n + 1) by omega]
theorem nmL_app (u : List UInt8) : ∀ (n i : Nat) (t : List UInt8), nmL i n t ++ u = nmL i n (t ++ u)
  | 0, i, t => rfl
  | n + 1, i, t => by simp only [nmL, List.cons_append, nmL_app u n (i + 1) t]
def nmS (n : Nat) : ByteArray := ⟨(nmL 0 n []).toArray⟩
theorem nmS_app (n : Nat) (u : List UInt8) : nmS n ++ ⟨u.toArray⟩ = ⟨(nmL 0 n u).toArray⟩ := by
  apply baL
  rw [baA]
  show nmL 0 n [] ++ u = nmL 0 n u
  rw [nmL_app]; rfl
theorem nmS_size (n : Nat) : (nmS n).size = 5 * n := by
  show (nmL 0 n []).toArray.size = _
  rw [List.size_toArray, nmL_len]; rfl
theorem nmS_succ (n : Nat) : ((nmS n ++ ⟨#[112]⟩) ++ ⟨#[nmC1 n, nmC2 n]⟩) ++ ⟨#[46, 32]⟩ = nmS (n + 1) := by
  apply baL
  rw [baA, baA, baA]
  show ((nmL 0 n [] ++ [112]) ++ [nmC1 n, nmC2 n]) ++ [46, 32] = nmL 0 (n + 1) []
  rw [nmL_snoc, List.append_assoc, List.append_assoc, nmL_app, Nat.zero_add]; rfl
theorem nmS_zero : (⟨#[]⟩ : ByteArray) = nmS 0 := by rfl
theorem names_any (n : Nat) (z : Int) (w : World) (hz : z = (n : Int) := by rfl) (hn : n ≤ 599 := by decide) : Calls Tryz.prog 35 #[.int .i64 z] w fun e w' => e = .returned (.string (nmS n)) ∧ Mod (fun _ => False) w w' := by
  subst hz
  obtain ⟨M, hM⟩ : ∃ M, M = nmS := ⟨_, rfl⟩
  have HS : Hid (∀ k, ((M k ++ ⟨#[112]⟩) ++ ⟨#[nmC1 k, nmC2 k]⟩) ++ ⟨#[46, 32]⟩ = M (k + 1)) := by rw [hM]; exact nmS_succ
  have H0 : Hid ((⟨#[]⟩ : ByteArray) = M 0) := by rw [hM]; exact nmS_zero
  have HZ : Hid (∀ k, (M k).size = 5 * k) := by rw [hM]; exact nmS_size
  rw [← hM]
  clear hM
  go_enter Tryz.func35, Tryz.ntmps35
  go_wp2_with fail
  go_loopw [3, 4] (fun ov iv wr => ∃ k : Nat, ov = .string (M k) ∧ iv = .int .i64 k ∧ k ≤ n ∧ Hid (Mod (fun _ => False) w wr)) (fun _ iv _ => n - (intOf iv).toNat)
  case atStart => exact ⟨0, by rw [H0.out], rfl, Nat.zero_le _, Lib.hid (Mod.refl _ _)⟩
  case round =>
    obtain ⟨k, rfl, rfl, hk, hw⟩ := hrel
    by_cases hlt : k < n
    · have hs1 := HS.out k
      have hz := HZ.out k
      have h1 : (nmC1 k).toNat = 97 + k / 26 := nmC1_nat (by omega)
      have h2 : (nmC2 k).toNat = 97 + k % 26 := nmC2_nat (by omega)
      have hcv : (convert 34 9 (.slice (some ⟨wr.heap.size, 0, none⟩) 2 2)).run Tryz.prog (wr.alloc (.cells #[.int .u8 (97 + (k : Int) / 26), .int .u8 (97 + (k : Int) % 26)] 5)) = .ok (.string ⟨#[nmC1 k, nmC2 k]⟩) (wr.alloc (.cells #[.int .u8 (97 + (k : Int) / 26), .int .u8 (97 + (k : Int) % 26)] 5)) := by
        refine run_bytes_str (P := Tryz.prog) (src := 34) (dst := 9) (e := 5) (a := some ⟨wr.heap.size, 0, none⟩) (l := [nmC1 k, nmC2 k]) (by kernel_rfl) (by kernel_rfl) (by kernel_rfl) 2 ?_
        simp only [bts, List.map_cons, List.map_nil, h1, h2]
        have := Rd.news wr [.int .u8 (97 + (k : Int) / 26), .int .u8 (97 + (k : Int) % 26)] 5
        simpa using this
      clear h1 h2
      have hs2 : ¬ 9223372036854775807 < (M k).size + 1 := by omega
      have hs3 : (M k ++ (⟨#[112]⟩ : ByteArray)).size = 5 * k + 1 := by rw [ByteArray.size_append, hz]; rfl
      have hs4 : (M k ++ (⟨#[112]⟩ : ByteArray) ++ ⟨#[nmC1 k, nmC2 k]⟩).size = 5 * k + 3 := by rw [ByteArray.size_append, hs3]; rfl
      go_wp2_with fail
      exact ⟨⟨k + 1, rfl, rfl, hlt, Lib.hid (hw.out.alloc _)⟩, by simp [intOf]; omega⟩
    · obtain rfl : k = n := by omega
      go_wp2_with fail
      go_ret
      exact ⟨rfl, hw.out⟩
/-- check, of a text that is read -/
theorem chk_any {s : ByteArray} {rs : List Rm} {a b : Int} (hs : s.size < 2 ^ 30) (h : progS s = .ok rs) (hc : checkL rs = (a, b)) (w : World) (hT : Lib.Utf8Tabs 1 2 w) :
    Calls Tryz.prog 33 #[.string s] w fun e w' => e = .returned (.agg #[.int .i64 a, .int .i64 b]) ∧ Mod (fun _ => False) w w' := by
  have p := prog_small h
  have := check11_any s rs w hT hs h (by omega) (fun r hr => schOk_of (p.2 r hr))
  rw [hc] at this
  exact this
theorem saf_any {s : ByteArray} {rs : List Rm} {r : Rm} {b : Br} (hs : s.size < 2 ^ 30) (h : progS s = .ok rs) (hne : 0 < rs.length) (hr : rs[rs.length - 1]? = some r) (hc : safeB r = b) (w : World) (hT : Lib.Utf8Tabs 1 2 w) :
    Calls Tryz.prog 34 #[.string s] w fun e w' => e = .returned (brV b) ∧ Mod (fun _ => False) w w' := by
  have p := prog_small h
  have := safe11_any s rs r w hT hs h (by omega) hne hr (schOk_of (p.2 r (List.mem_of_getElem? hr)))
  rw [hc] at this
  exact this
end Go.Proofs.YteecbbnpgmceiaaGreatDoor.L11
/-
  SchemaKnown, walked (printed by mkschk.py).
-/
namespace Go.Proofs.YteecbbnpgmceiaaGreatDoor.L11
open Go Go.RowKit Go.Mine
set_option linter.unusedVariables false
set_option maxHeartbeats 4000000
set_option maxRecDepth 100000

/-- the check of rules that may be -/
def ckGo : Nat → Ar → List Rm → Int × Int
  | _, _, [] => (0, 0)
  | i, l, r :: rs => match notedL l (usesL r) with
    | none => (i, 110)
    | some l' => if 512 < l'.length then (i, 112) else if (safeB r).kind ≠ 0 then (i, 111) else ckGo (i + 1) l' rs
theorem ckGo_eq : ∀ (rs : List Rm) (i : Nat) (l : Ar), (∀ r ∈ rs, mayRm r = 0) → checkGo i l rs = ckGo i l rs
  | [], _, _, _ => rfl
  | r :: rs, i, l, h => by
    rw [checkGo, ckGo, if_neg (by rw [h r (List.mem_cons_self ..)]; decide)]
    cases hn : notedL l (usesL r) with
    | none => rfl
    | some l' =>
      simp only
      rw [ckGo_eq rs (i + 1) l' (fun x hx => h x (List.mem_cons_of_mem _ hx))]
theorem ck_of {s : ByteArray} {rs : List Rm} {x : Int × Int} (h : progS s = .ok rs) (hc : ckGo 0 [] rs = x) : checkL rs = x := by
  have p := prog_small h
  unfold checkL
  rw [if_neg (by omega), ckGo_eq rs 0 [] (may_of h)]
  exact hc

def kt0 : ByteArray := ⟨#[112, 46, 32, 112, 40, 88, 41, 32, 58, 45, 32, 33, 113, 40, 88, 41, 46]⟩
theorem kr0 : progS kt0 = .ok (valP kt0) := by kernel_rfl
def kt1 : ByteArray := ⟨#[112, 40, 88, 41, 32, 58, 45, 32, 113, 40, 88, 41, 44, 32, 33, 112, 40, 88, 44, 32, 88, 41, 46]⟩
theorem kr1 : progS kt1 = .ok (valP kt1) := by kernel_rfl
def kt2 : ByteArray := ⟨#[112, 40, 95, 41, 32, 58, 45, 32, 113, 40, 88, 41, 46]⟩
theorem kr2 : progS kt2 = .ok (valP kt2) := by kernel_rfl
def kt3 : ByteArray := ⟨#[112, 40, 97, 44, 32, 88, 41, 32, 58, 45, 32, 113, 40, 89, 41, 44, 32, 88, 32, 60, 32, 89, 46]⟩
theorem kr3 : progS kt3 = .ok (valP kt3) := by kernel_rfl
def kt4 : ByteArray := ⟨#[]⟩
theorem kr4 : progS kt4 = .ok (valP kt4) := by kernel_rfl
def kt5 : ByteArray := ⟨#[112, 32, 58, 45, 32, 89, 32, 61, 32, 95, 44, 32, 113, 40, 89, 41, 46]⟩
theorem kr5 : progS kt5 = .ok (valP kt5) := by kernel_rfl
def kt6 : ByteArray := ⟨#[112, 32, 58, 45, 32, 113, 40, 89, 41, 44, 32, 33, 114, 40, 89, 44, 32, 95, 44, 32, 90, 41, 46]⟩
theorem kr6 : progS kt6 = .ok (valP kt6) := by kernel_rfl
def kt7 : ByteArray := ⟨#[112, 40, 99, 111, 117, 110, 116, 40, 41, 41, 46]⟩
theorem kr7 : progS kt7 = .ok (valP kt7) := by kernel_rfl
def kt8 : ByteArray := ⟨#[112, 40, 115, 117, 109, 40, 88, 41, 41, 46]⟩
theorem kr8 : progS kt8 = .ok (valP kt8) := by kernel_rfl
def kt9 : ByteArray := ⟨#[112, 40, 99, 111, 117, 110, 116, 40, 41, 41, 32, 58, 45, 32, 97, 32, 61, 32, 98, 46]⟩
theorem kr9 : progS kt9 = .ok (valP kt9) := by kernel_rfl
def kt10 : ByteArray := ⟨#[112, 40, 88, 41, 32, 58, 45, 32, 113, 40, 88, 44, 32, 88, 41, 46, 32, 112, 40, 97, 41, 46]⟩
theorem kr10 : progS kt10 = .ok (valP kt10) := by kernel_rfl
def kt11 : ByteArray := ⟨#[112, 40, 88, 41, 32, 58, 45, 32, 113, 40, 88, 41, 46]⟩
theorem kr11 : progS kt11 = .ok (valP kt11) := by kernel_rfl
theorem kc0 : checkL (valP kt0) = (1, 110) := ck_of kr0 (by kernel_rfl)
theorem kc1 : checkL (valP kt1) = (0, 110) := ck_of kr1 (by kernel_rfl)
theorem kc2 : checkL (valP kt2) = (0, 111) := ck_of kr2 (by kernel_rfl)
theorem kc3 : checkL (valP kt3) = (0, 111) := ck_of kr3 (by kernel_rfl)
theorem kc4 : checkL (valP kt4) = (0, 0) := ck_of kr4 (by kernel_rfl)
theorem ks0 : safeB ((valP kt1)[(valP kt1).length - 1]?.getD rm0) = ⟨0, 0, 0, ⟨#[]⟩⟩ := by kernel_rfl
theorem kl0 : 0 < (valP kt1).length := of_decide_eq_true (by kernel_rfl)
theorem ks1 : safeB ((valP kt0)[(valP kt0).length - 1]?.getD rm0) = ⟨2, -1, 0, ⟨#[88]⟩⟩ := by kernel_rfl
theorem kl1 : 0 < (valP kt0).length := of_decide_eq_true (by kernel_rfl)
theorem ks2 : safeB ((valP kt2)[(valP kt2).length - 1]?.getD rm0) = ⟨1, -1, 0, ⟨#[]⟩⟩ := by kernel_rfl
theorem kl2 : 0 < (valP kt2).length := of_decide_eq_true (by kernel_rfl)
theorem ks3 : safeB ((valP kt3)[(valP kt3).length - 1]?.getD rm0) = ⟨2, -1, 1, ⟨#[88]⟩⟩ := by kernel_rfl
theorem kl3 : 0 < (valP kt3).length := of_decide_eq_true (by kernel_rfl)
theorem ks4 : safeB ((valP kt5)[(valP kt5).length - 1]?.getD rm0) = ⟨1, 0, 1, ⟨#[]⟩⟩ := by kernel_rfl
theorem kl4 : 0 < (valP kt5).length := of_decide_eq_true (by kernel_rfl)
theorem ks5 : safeB ((valP kt6)[(valP kt6).length - 1]?.getD rm0) = ⟨2, 1, 2, ⟨#[90]⟩⟩ := by kernel_rfl
theorem kl5 : 0 < (valP kt6).length := of_decide_eq_true (by kernel_rfl)
theorem ks6 : safeB ((valP kt7)[(valP kt7).length - 1]?.getD rm0) = ⟨3, -1, 0, ⟨#[]⟩⟩ := by kernel_rfl
theorem kl6 : 0 < (valP kt7).length := of_decide_eq_true (by kernel_rfl)
theorem ks7 : safeB ((valP kt8)[(valP kt8).length - 1]?.getD rm0) = ⟨2, -1, 0, ⟨#[88]⟩⟩ := by kernel_rfl
theorem kl7 : 0 < (valP kt8).length := of_decide_eq_true (by kernel_rfl)
theorem ks8 : safeB ((valP kt9)[(valP kt9).length - 1]?.getD rm0) = ⟨0, 0, 0, ⟨#[]⟩⟩ := by kernel_rfl
theorem kl8 : 0 < (valP kt9).length := of_decide_eq_true (by kernel_rfl)
theorem last_get {rs : List Rm} (h : 0 < rs.length) : rs[rs.length - 1]? = some (rs[rs.length - 1]?.getD rm0) := by
  rw [List.getElem?_eq_getElem (by omega)]; rfl
theorem neq_of {t : TypeId} {x y : Array Value} (h : ∀ w, (binOp .eql t (.agg x) (.agg y)).run Tryz.prog w = .ok (.bool true) w) (w : World) : (binOp .neq t (.agg x) (.agg y)).run Tryz.prog w = .ok (.bool false) w := by
  have h := h w
  rw [run_eql_struct] at h
  rw [run_neq_struct]
  cases hh : (Op.equalIn 10000 t (.agg x) (.agg y)).run Tryz.prog w <;> rw [hh] at h <;> simp_all [Result.andThen]
theorem pd_same (a : ByteArray) (b c : Int) (w : World) : (binOp .eql 69 (.agg #[.string a, .int .i64 b, .int .i64 c]) (.agg #[.string a, .int .i64 b, .int .i64 c])).run Tryz.prog w = .ok (.bool true) w := by
  have u3 := Tryz.underlying3
  have hS : Tryz.prog.underlying 69 = some (.struct (Tryz.prog.fieldsOf 69)) := by kernel_rfl
  have hp : Tryz.prog.stoodInHeld 69 = false := by kernel_rfl
  rw [run_eql_struct, show (10000 : Nat) = 9999 + 1 from rfl, run_equalIn_agg w 9999 69 _ _ hS hp]
  simp only [Program.fieldsOf, Tryz.underlying69]
  go_simp
  try simp
/-- what Arities and With answer, where they do -/
theorem wpost_some {w w' : World} {e : Ending} {R : Option (List PdZ)} {ps : List PdZ} (h : WPost w w' e R) (hR : R = some ps) (n : Nat) (hn : ps.length = n) (h0 : 0 < n) :
    ∃ b, e = .returned (.tuple #[.slice (some ⟨b, 0, none⟩) n n, .int .i64 0]) ∧ Rd w' (some ⟨b, 0, none⟩) (pzsC ps) := by
  subst hR
  obtain ⟨a, he, hC, hF⟩ := h
  rcases hC.2 with ⟨_, h2⟩ | ⟨b, cur, rfl, _⟩
  · omega
  · rw [hn] at he
    exact ⟨b, he, hC.rd⟩
theorem pz_at {w : World} {b : Nat} {xs : List PdZ} (h : Rd w (some ⟨b, 0, none⟩) (pzsC xs)) {i : Nat} {x : ByteArray} {y : Int} {z : Nat} (hi : xs[i]? = some (x, y, z)) : w.cell? ⟨b, i * 3, none⟩ = some (.string x) ∧ w.cell? ⟨b, i * 3 + 1, none⟩ = some (.int .i64 y) ∧ w.cell? ⟨b, i * 3 + 2, none⟩ = some (.int .i64 z) := by
  obtain ⟨hil, e⟩ := List.getElem?_eq_some_iff.1 hi
  obtain ⟨b1, o1, e1, x0, x1, x2⟩ := rd_cellZ h hil
  cases e1
  rw [e] at x0 x1 x2
  simp only [Nat.zero_add] at x0 x1 x2
  exact ⟨x0, x1, x2⟩

def kbA : List UInt8 := [112, 40, 88, 41, 32, 58, 45, 32, 113, 40, 88, 44, 32, 88, 41, 46, 32, 112, 40, 97, 41, 46]
def kbB : List UInt8 := [112, 40, 88, 41, 32, 58, 45, 32, 113, 40, 88, 41, 46]
def kpP : ByteArray := ⟨#[112]⟩
def kpQ : ByteArray := ⟨#[113]⟩
def kpR : ByteArray := ⟨#[114]⟩
def kPA : List PdZ := [(kpP, 1, 2), (kpQ, 2, 0)]
def kPB : List PdZ := [(kpP, 1, 1), (kpQ, 1, 0), (kpR, 3, 0)]
def kE1 : List Re := [(kpR, 3, none, 0, 0), (kpQ, 1, none, 0, 0)]
def kE2 : List Re := [(kpQ, 2, none, 0, 0)]
theorem sort_id (l : List ByteArray) (h : (l.map bl).Pairwise fun a b => leB a b = true) : sortN l = l := by
  unfold sortN
  rw [List.mergeSort_of_pairwise h, List.map_map]
  have e : (unbl ∘ bl : ByteArray → ByteArray) = id := funext unbl_bl
  rw [e, List.map_id]
theorem preds_id (rs : List Rm) (M : ArZ) (h : ((M.map (·.1)).map bl).Pairwise fun a b => leB a b = true) : predsZ rs M = (M.map (·.1)).map fun x => (x, (arZ M x).getD 0, cntR rs x) := by
  unfold predsZ
  rw [sort_id _ h]
theorem with_of (rs : List Rm) (rels : ArZ) (L : Ar) (M : ArZ) (h1 : notedL [] (usesAll rs) = some L) (h2 : notedZ (toZ L) rels = some M) : withL rs rels = some (predsZ rs M) := by
  unfold withL
  rw [h1]
  show (notedZ (toZ L) rels).map _ = _
  rw [h2]; rfl
theorem kwA : withL (valP kt10) [] = some kPA := by
  rw [with_of _ [] [(kpP, 1), (kpQ, 2)] [(kpP, 1), (kpQ, 2)] (by kernel_rfl) (by kernel_rfl), preds_id _ _ (by decide)]
  kernel_rfl
theorem kwB : withL (valP kt11) (relZ kE1) = some kPB := by
  rw [with_of _ _ [(kpP, 1), (kpQ, 1)] [(kpP, 1), (kpQ, 1), (kpR, 3)] (by kernel_rfl) (by kernel_rfl), preds_id _ _ (by decide)]
  kernel_rfl
theorem kwC : withL (valP kt11) (relZ kE2) = none := by
  unfold withL
  rw [show notedL [] (usesAll (valP kt11)) = some [(kpP, 1), (kpQ, 1)] by kernel_rfl]
  show Option.map (fun M => predsZ (valP kt11) M) (notedZ (toZ [(kpP, 1), (kpQ, 1)]) (relZ kE2)) = none
  rw [show notedZ (toZ [(kpP, 1), (kpQ, 1)]) (relZ kE2) = none by kernel_rfl]; rfl
theorem known11_walk (w : World) (hT : Lib.Utf8Tabs 1 2 w) : Calls Tryz.prog 6 #[] w fun e w' => e = .returned (.bool true) ∧ Mod (fun _ => False) w w' := by
  have HT := Lib.hid hT
  have HN := Lib.hid num_any
  have HAW := Lib.hid (awake11_true w hT)
  have HC0 := Lib.hid (fun (W : World) (m : Mod (fun _ => False) w W) => chk_any (s := kt0) (a := 1) (b := 110) (by decide) kr0 kc0 W (tabs_mod HT.out m))
  have HC1 := Lib.hid (fun (W : World) (m : Mod (fun _ => False) w W) => chk_any (s := kt1) (a := 0) (b := 110) (by decide) kr1 kc1 W (tabs_mod HT.out m))
  have HC2 := Lib.hid (fun (W : World) (m : Mod (fun _ => False) w W) => chk_any (s := kt2) (a := 0) (b := 111) (by decide) kr2 kc2 W (tabs_mod HT.out m))
  have HC3 := Lib.hid (fun (W : World) (m : Mod (fun _ => False) w W) => chk_any (s := kt3) (a := 0) (b := 111) (by decide) kr3 kc3 W (tabs_mod HT.out m))
  have HC4 := Lib.hid (fun (W : World) (m : Mod (fun _ => False) w W) => chk_any (s := kt4) (a := 0) (b := 0) (by decide) kr4 kc4 W (tabs_mod HT.out m))
  have HS0 := Lib.hid (fun (W : World) (m : Mod (fun _ => False) w W) => saf_any (s := kt1) (by decide) kr1 kl0 (last_get kl0) ks0 W (tabs_mod HT.out m))
  have HS1 := Lib.hid (fun (W : World) (m : Mod (fun _ => False) w W) => saf_any (s := kt0) (by decide) kr0 kl1 (last_get kl1) ks1 W (tabs_mod HT.out m))
  have HS2 := Lib.hid (fun (W : World) (m : Mod (fun _ => False) w W) => saf_any (s := kt2) (by decide) kr2 kl2 (last_get kl2) ks2 W (tabs_mod HT.out m))
  have HS3 := Lib.hid (fun (W : World) (m : Mod (fun _ => False) w W) => saf_any (s := kt3) (by decide) kr3 kl3 (last_get kl3) ks3 W (tabs_mod HT.out m))
  have HS4 := Lib.hid (fun (W : World) (m : Mod (fun _ => False) w W) => saf_any (s := kt5) (by decide) kr5 kl4 (last_get kl4) ks4 W (tabs_mod HT.out m))
  have HS5 := Lib.hid (fun (W : World) (m : Mod (fun _ => False) w W) => saf_any (s := kt6) (by decide) kr6 kl5 (last_get kl5) ks5 W (tabs_mod HT.out m))
  have HS6 := Lib.hid (fun (W : World) (m : Mod (fun _ => False) w W) => saf_any (s := kt7) (by decide) kr7 kl6 (last_get kl6) ks6 W (tabs_mod HT.out m))
  have HS7 := Lib.hid (fun (W : World) (m : Mod (fun _ => False) w W) => saf_any (s := kt8) (by decide) kr8 kl7 (last_get kl7) ks7 W (tabs_mod HT.out m))
  have HS8 := Lib.hid (fun (W : World) (m : Mod (fun _ => False) w W) => saf_any (s := kt9) (by decide) kr9 kl8 (last_get kl8) ks8 W (tabs_mod HT.out m))
  obtain ⟨S5, hS5⟩ : ∃ S, S = nmS 512 := ⟨_, rfl⟩
  obtain ⟨S6, hS6⟩ : ∃ S, S = nmS 513 := ⟨_, rfl⟩
  have hz5 : S5.size = 2560 := by rw [hS5, nmS_size]
  have hz6 : S6.size = 2565 := by rw [hS6, nmS_size]
  have HM5 : Hid (∀ W : World, Calls Tryz.prog 35 #[.int .i64 512] W fun e w' => e = .returned (.string S5) ∧ Mod (fun _ => False) W w') := by rw [hS5]; exact fun W => names_any 512 512 W
  have HM6 : Hid (∀ W : World, Calls Tryz.prog 35 #[.int .i64 513] W fun e w' => e = .returned (.string S6) ∧ Mod (fun _ => False) W w') := by rw [hS6]; exact fun W => names_any 513 513 W
  have HL5 := Lib.hid (fun (W : World) (m : Mod (fun _ => False) w W) => chk_any (s := S5) (a := 0) (b := 0) (by omega) (by rw [hS5]; exact known_nm (n := 512) (by omega)) (nm_c rfl) W (tabs_mod HT.out m))
  have HL6 := Lib.hid (fun (W : World) (m : Mod (fun _ => False) w W) => chk_any (s := S6) (a := 512) (b := 112) (by omega) (by rw [hS6]; exact known_nm (n := 512 + 1) (by omega)) (nm_c1 rfl) W (tabs_mod HT.out m))
  have HLQ := Lib.hid (fun (W : World) (m : Mod (fun _ => False) w W) => chk_any (s := S5 ++ ⟨tailQ.toArray⟩) (a := 512) (b := 112) (by rw [ByteArray.size_append, hz5]; decide) (by rw [hS5, nmS_app]; exact nm_q (n := 512) (by omega)) (nm_cq rfl) W (tabs_mod HT.out m))
  have HLX := Lib.hid (fun (W : World) (m : Mod (fun _ => False) w W) => chk_any (s := S5 ++ ⟨tailX.toArray⟩) (a := 512) (b := 110) (by rw [ByteArray.size_append, hz5]; decide) (by rw [hS5, nmS_app]; exact nm_x (n := 512) (by omega)) (nm_cx rfl) W (tabs_mod HT.out m))
  have pA := prog_small kr10; have pB := prog_small kr11
  have HPA := Lib.hid (fun a c W => parse_says kbA 22 rfl (by omega) a c W)
  have HPB := Lib.hid (fun a c W => parse_says kbB 13 rfl (by omega) a c W)
  rw [show progS ⟨kbA.toArray⟩ = .ok (valP kt10) from kr10] at HPA
  rw [show progS ⟨kbB.toArray⟩ = .ok (valP kt11) from kr11] at HPB
  unfold PSay at HPA HPB
  simp only [noOf, atOf, valOf] at HPA HPB
  have hAR : ∀ (W : World) (v : Value) (hr : RsAt W v (valP kt10)), Calls Tryz.prog 30 #[.agg #[v]] W fun e w' => (∃ b, e = .returned (.tuple #[.slice (some ⟨b, 0, none⟩) 2 2, .int .i64 0]) ∧ Rd w' (some ⟨b, 0, none⟩) (pzsC kPA)) ∧ Mod (fun _ => False) W w' := fun W v hr => (Arities_any _ v W hr (by omega) (fun r hr => (schOk_of (pA.2 r hr)).u) (of_decide_eq_true (by kernel_rfl))).mono fun e w' h => ⟨wpost_some h.1 kwA 2 rfl (by decide), h.2⟩
  have hWB : ∀ (W : World) (v : Value) (ra : Option Addr) (rc : Nat) (hr : RsAt W v (valP kt11)) (hl : Rd W ra (resC kE1)), Calls Tryz.prog 25 #[.agg #[v], .slice ra 2 rc] W fun e w' => (∃ b, e = .returned (.tuple #[.slice (some ⟨b, 0, none⟩) 3 3, .int .i64 0]) ∧ Rd w' (some ⟨b, 0, none⟩) (pzsC kPB)) ∧ Mod (fun _ => False) W w' := fun W v ra rc hr hl => (With_any _ v kE1 ra rc W hr (by omega) (fun r hr => (schOk_of (pB.2 r hr)).u) (of_decide_eq_true (by kernel_rfl)) hl (by decide) (by unfold kE1 In64; decide)).mono fun e w' h => ⟨wpost_some h.1 kwB 3 rfl (by decide), h.2⟩
  have hWC : ∀ (W : World) (v : Value) (ra : Option Addr) (rc : Nat) (hr : RsAt W v (valP kt11)) (hl : Rd W ra (resC kE2)), Calls Tryz.prog 25 #[.agg #[v], .slice ra 1 rc] W fun e w' => WPost W w' e (withL (valP kt11) (relZ kE2)) ∧ Mod (fun _ => False) W w' := fun W v ra rc hr hl => With_any _ v kE2 ra rc W hr (by omega) (fun r hr => (schOk_of (pB.2 r hr)).u) (of_decide_eq_true (by kernel_rfl)) hl (by decide) (by unfold kE2 In64; decide)
  rw [kwC] at hWC
  have HAR := Lib.hid hAR; have HWB := Lib.hid hWB; have HWC := Lib.hid hWC
  obtain ⟨rA, hrA⟩ : ∃ r, r = valP kt10 := ⟨_, rfl⟩
  obtain ⟨rB, hrB⟩ : ∃ r, r = valP kt11 := ⟨_, rfl⟩
  rw [← hrA] at HPA HAR
  rw [← hrB] at HPB HWB HWC
  have kc := fun (w : World) (C : Array Value) (n c : Nat) => Lib.run_convert_bytes_const (P := Tryz.prog) w 34 5 C n c Tryz.underlying34 Tryz.underlying5
  have n2 := fun (a b : Int) => neq_of (t := 73) (two_eq a b)
  have n4 := fun (a b c : Int) (s : ByteArray) => neq_of (t := 76) (br_same a b c s)
  have n3 := fun (a : ByteArray) (b c : Int) => neq_of (t := 69) (pd_same a b c)
  have e3 := pd_same
  clear hT pA pB hAR hWB hWC hrA hrB hS5 hS6
  go_enter Tryz.func6, Tryz.ntmps6
  go_wp2_with fail
  refine HAW.out.mono ?_
  rintro e w1 ⟨rfl, hM⟩
  have HM := Lib.hid hM; clear hM HAW
  go_wp2_with fail
  refine (HC0.out _ HM.out).mono ?_
  rintro e w2 ⟨rfl, hM⟩
  have HM := Lib.hid (HM.out.trans hM); clear hM HC0
  go_wp2_with fail
  refine (HC1.out _ HM.out).mono ?_
  rintro e w3 ⟨rfl, hM⟩
  have HM := Lib.hid (HM.out.trans hM); clear hM HC1
  go_wp2_with fail
  refine (HC2.out _ HM.out).mono ?_
  rintro e w4 ⟨rfl, hM⟩
  have HM := Lib.hid (HM.out.trans hM); clear hM HC2
  go_wp2_with fail
  refine (HC3.out _ HM.out).mono ?_
  rintro e w5 ⟨rfl, hM⟩
  have HM := Lib.hid (HM.out.trans hM); clear hM HC3
  go_wp2_with fail
  refine (HC4.out _ HM.out).mono ?_
  rintro e w6 ⟨rfl, hM⟩
  have HM := Lib.hid (HM.out.trans hM); clear hM HC4
  go_wp2_with fail
  refine (HS0.out _ HM.out).mono ?_
  rintro e w7 ⟨rfl, hM⟩
  have HM := Lib.hid (HM.out.trans hM); clear hM HS0
  unfold brV
  go_wp2_with fail
  refine (HS1.out _ HM.out).mono ?_
  rintro e w8 ⟨rfl, hM⟩
  have HM := Lib.hid (HM.out.trans hM); clear hM HS1
  unfold brV
  go_wp2_with fail
  refine (HS2.out _ HM.out).mono ?_
  rintro e w9 ⟨rfl, hM⟩
  have HM := Lib.hid (HM.out.trans hM); clear hM HS2
  unfold brV
  go_wp2_with fail
  refine (HS3.out _ HM.out).mono ?_
  rintro e w10 ⟨rfl, hM⟩
  have HM := Lib.hid (HM.out.trans hM); clear hM HS3
  unfold brV
  go_wp2_with fail
  refine (HS4.out _ HM.out).mono ?_
  rintro e w11 ⟨rfl, hM⟩
  have HM := Lib.hid (HM.out.trans hM); clear hM HS4
  unfold brV
  go_wp2_with fail
  refine (HS5.out _ HM.out).mono ?_
  rintro e w12 ⟨rfl, hM⟩
  have HM := Lib.hid (HM.out.trans hM); clear hM HS5
  unfold brV
  go_wp2_with fail
  refine (HS6.out _ HM.out).mono ?_
  rintro e w13 ⟨rfl, hM⟩
  have HM := Lib.hid (HM.out.trans hM); clear hM HS6
  unfold brV
  go_wp2_with fail
  refine (HS7.out _ HM.out).mono ?_
  rintro e w14 ⟨rfl, hM⟩
  have HM := Lib.hid (HM.out.trans hM); clear hM HS7
  unfold brV
  go_wp2_with fail
  refine (HS8.out _ HM.out).mono ?_
  rintro e w15 ⟨rfl, hM⟩
  have HM := Lib.hid (HM.out.trans hM); clear hM HS8
  unfold brV
  go_wp2_with fail
  refine (HM5.out _).mono ?_
  rintro e w16 ⟨rfl, hM⟩
  have HM := Lib.hid (HM.out.trans hM); clear hM
  go_wp2_with fail
  refine (HL5.out _ HM.out).mono ?_
  rintro e w17 ⟨rfl, hM⟩
  have HM := Lib.hid (HM.out.trans hM); clear hM HL5
  go_wp2_with fail
  refine (HM6.out _).mono ?_
  rintro e w18 ⟨rfl, hM⟩
  have HM := Lib.hid (HM.out.trans hM); clear hM
  go_wp2_with fail
  refine (HL6.out _ HM.out).mono ?_
  rintro e w19 ⟨rfl, hM⟩
  have HM := Lib.hid (HM.out.trans hM); clear hM HL6
  go_wp2_with fail
  refine (HM5.out _).mono ?_
  rintro e w20 ⟨rfl, hM⟩
  have HM := Lib.hid (HM.out.trans hM); clear hM
  go_wp2_with fail
  refine (HLQ.out _ HM.out).mono ?_
  rintro e w21 ⟨rfl, hM⟩
  have HM := Lib.hid (HM.out.trans hM); clear hM HLQ
  go_wp2_with fail
  refine (HM5.out _).mono ?_
  rintro e w22 ⟨rfl, hM⟩
  have HM := Lib.hid (HM.out.trans hM); clear hM
  go_wp2_with fail
  refine (HLX.out _ HM.out).mono ?_
  rintro e w23 ⟨rfl, hM⟩
  have HM := Lib.hid (HM.out.trans hM); clear hM HLX
  go_wp2_with fail
  clear HM5 HM6 hz5 hz6 n2 n4
  refine (HPA.out _ _ _ (Rd.newsZ w23 (bts kbA) _ (_, _)) (tabs_mod HT.out (HM.out.alloc _))).mono ?_
  rintro e v1 ⟨s, rfl, hs, hM⟩
  have hm1 : Mod (fun _ => False) w v1 := (HM.out.alloc _).trans hM
  obtain ⟨u1, hu⟩ : ∃ u, u = v1.alloc (.cells #[s] 24) := ⟨_, rfl⟩
  have HB1 : Hid (u1.heap[v1.heap.size]? = some (.cells #[s] 24 (0, 0))) := by rw [hu]; exact heap_alloc_new v1 _
  have HM1 : Hid (Mod (fun _ => False) w u1) := by rw [hu]; exact hm1.alloc _
  have HS1 : Hid (RsAt u1 s rA) := by rw [hu]; exact hs.mod0 ((Mod.refl (fun _ => False) v1).alloc _)
  have HU := Lib.hid hu
  obtain ⟨a1, c1, _, rfl, _⟩ := id hs
  clear hM hm1 hs hu HPA HM
  go_wp2_with fail
  rw [← HU.out]; clear HU
  refine (HAR.out _ _ HS1.out).mono ?_
  rintro e v2 ⟨⟨g2, rfl, hl⟩, hM2⟩
  have HL2 := Lib.hid hl
  have HM2 := Lib.hid (HM1.out.trans hM2)
  clear hM2 hl HAR HS1 HB1 HM1
  go_wp2_with fail
  refine (HPB.out _ _ _ (Rd.newsZ v2 (bts kbB) _ (_, _)) (tabs_mod HT.out (HM2.out.alloc _))).mono ?_
  rintro e v3 ⟨s3, rfl, hs, hM⟩
  have HM3 := Lib.hid (((Mod.refl (fun _ => False) v2).alloc _).trans hM)
  obtain ⟨a3, c3, _, rfl, _⟩ := id hs
  have HS3 := Lib.hid hs
  clear hM hs HPB
  go_wp2_with fail
  have m4 : Mod (fun _ => False) v3 ((v3.alloc (.cells #[.slice a3 rB.length c3] 24)).alloc (.cells (resC kE1).toArray 60)) := ((Mod.refl _ v3).alloc _).alloc _
  have M4 := Lib.hid m4
  have HB3 := Lib.hid (((Mod.refl (fun _ => False) _).alloc (.cells (resC kE1).toArray 60)).at (heap_alloc_new v3 (.cells #[.slice a3 rB.length c3] 24)) id)
  clear m4
  refine (HWB.out _ _ _ _ (HS3.out.mod0 M4.out) (Rd.news (v3.alloc _) (resC kE1) _ (by simp))).mono ?_
  rintro e v4 ⟨⟨g4, rfl, hl⟩, hM4⟩
  have HL4 := Lib.hid hl
  have HM4 := Lib.hid (M4.out.trans hM4)
  have q3 := cell_at (j := 0) (hM4.at HB3.out id) rfl
  clear hM4 hl M4 HB3 HWB
  go_wp2_with fail
  refine (HWC.out _ _ _ _ (HS3.out.mod0 (HM4.out.alloc _)) (Rd.news v4 (resC kE2) _)).mono ?_
  rintro e v5 ⟨hW, hM5⟩
  obtain rfl : e = _ := hW
  have HM5 : Hid (Mod (fun _ => False) v4 v5) := Lib.hid (((Mod.refl _ v4).alloc _).trans hM5)
  have x2 := (HL2.out.mod (HM3.out.trans (HM4.out.trans HM5.out)) (fun _ _ => id))
  have x4 := (HL4.out.mod HM5.out (fun _ _ => id))
  obtain ⟨y0, y1, y2⟩ : v5.cell? ⟨g2, 0, none⟩ = some (.string ⟨#[112]⟩) ∧ v5.cell? ⟨g2, 1, none⟩ = some (.int .i64 1) ∧ v5.cell? ⟨g2, 2, none⟩ = some (.int .i64 2) := pz_at x2 (i := 0) rfl
  obtain ⟨y3, y4, y5⟩ : v5.cell? ⟨g2, 3, none⟩ = some (.string ⟨#[113]⟩) ∧ v5.cell? ⟨g2, 4, none⟩ = some (.int .i64 2) ∧ v5.cell? ⟨g2, 5, none⟩ = some (.int .i64 0) := pz_at x2 (i := 1) rfl
  obtain ⟨z0, z1, z2⟩ : v5.cell? ⟨g4, 0, none⟩ = some (.string ⟨#[112]⟩) ∧ v5.cell? ⟨g4, 1, none⟩ = some (.int .i64 1) ∧ v5.cell? ⟨g4, 2, none⟩ = some (.int .i64 1) := pz_at x4 (i := 0) rfl
  obtain ⟨z3, z4, z5⟩ : v5.cell? ⟨g4, 3, none⟩ = some (.string ⟨#[113]⟩) ∧ v5.cell? ⟨g4, 4, none⟩ = some (.int .i64 1) ∧ v5.cell? ⟨g4, 5, none⟩ = some (.int .i64 0) := pz_at x4 (i := 1) rfl
  obtain ⟨z6, z7, z8⟩ : v5.cell? ⟨g4, 6, none⟩ = some (.string ⟨#[114]⟩) ∧ v5.cell? ⟨g4, 7, none⟩ = some (.int .i64 3) ∧ v5.cell? ⟨g4, 8, none⟩ = some (.int .i64 0) := pz_at x4 (i := 2) rfl
  have HMF := Lib.hid (HM2.out.trans (HM3.out.trans (HM4.out.trans HM5.out)))
  clear x2 x4 HM2 HM3 HM4 HM5 HL2 HL4 hM5 q3 HS3 HWC
  go_wp2_with (first
    | (go_at_call 27; refine (HN.out _ _).mono ?_; rintro e w' ⟨rfl, rfl⟩))
  go_ret
  exact ⟨rfl, HMF.out⟩
end Go.Proofs.YteecbbnpgmceiaaGreatDoor.L11
