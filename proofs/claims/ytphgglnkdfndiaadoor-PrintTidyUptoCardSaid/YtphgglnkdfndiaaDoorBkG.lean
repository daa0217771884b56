/-
  The plain law of PrintBack, first part: what is printed is scanned as the tokens of what it was.
-/
import Derived.Test.YtphgglnkdfndiaaDoorBackL
import Derived.Test.YtphgglnkdfndiaaDoorParLR
import Derived.Test.YtphgglnkdfndiaaDoorMayL
namespace Go.Proofs.YtphgglnkdfndiaaDoor
open Go Go.RowKit Go.Mine
set_option maxHeartbeats 1000000
set_option maxRecDepth 100000
set_option linter.unusedVariables false

/-- a text that goes on behind a byte that stands in no word -/
structure GoesC (c : UInt8) (s t : ByteArray) : Prop where
  ex : ∃ b, t.data.toList = s.data.toList ++ c :: b
  lo : c.toNat < 128
  np : isPart c.toNat = false
section
variable {c : UInt8} {s t : ByteArray}
theorem GoesC.lt (h : GoesC c s t) : s.size < t.size := by
  obtain ⟨b, hb⟩ := h.ex
  have := congrArg List.length hb
  rw [List.length_append, ← Lib.size_eq, ← Lib.size_eq, List.length_cons] at this
  omega
theorem GoesC.same (h : GoesC c s t) : ∀ i, i < s.size → t.get! i = s.get! i := fun i hi => by
  obtain ⟨b, hb⟩ := h.ex
  rw [getD_list, getD_list, hb, List.getD_eq_getElem?_getD, List.getD_eq_getElem?_getD, List.getElem?_append_left (by rw [← Lib.size_eq]; exact hi)]
theorem GoesC.next (h : GoesC c s t) : t.get! s.size = c := by
  obtain ⟨b, hb⟩ := h.ex
  rw [getD_list, hb, List.getD_eq_getElem?_getD, List.getElem?_append_right (by rw [← Lib.size_eq]; omega), ← Lib.size_eq, Nat.sub_self]; rfl
theorem GoesC.decode (h : GoesC c s t) {i : Nat} (hi : i < s.size) : Utf8.decode t i = Utf8.decode s i := by
  have hlt := h.lt
  have e0 := h.same i hi
  have c : ∀ k, i + k < s.size → t.get! (i + k) = s.get! (i + k) := fun k hk => h.same _ hk
  have nb : ∀ k, i + k = s.size → ((t.get! (i + k)).toNat / 64 == 2) = false := fun k hk => by
    have := h.lo
    rw [hk, h.next, beq_eq_false_iff_ne]; omega
  unfold Utf8.decode
  simp only [Nat.add_zero, e0]
  by_cases h1 : i + 1 < s.size
  · have e1 := c 1 h1
    by_cases h2 : i + 2 < s.size
    · have e2 := c 2 h2
      by_cases h3 : i + 3 < s.size
      · have e3 := c 3 h3
        rw [e1, e2, e3, decide_eq_true h1, decide_eq_true h2, decide_eq_true h3, decide_eq_true (show i + 1 < t.size by omega), decide_eq_true (show i + 2 < t.size by omega), decide_eq_true (show i + 3 < t.size by omega)]
      · rw [e1, e2, decide_eq_true h1, decide_eq_true h2, decide_eq_false h3, decide_eq_true (show i + 1 < t.size by omega), decide_eq_true (show i + 2 < t.size by omega)]
        have hf : (decide (i + 3 < t.size) && (t.get! (i + 3)).toNat / 64 == 2) = false := by rw [nb 3 (by omega)]; simp
        rw [hf]
        simp
    · have hf : (decide (i + 2 < t.size) && (t.get! (i + 2)).toNat / 64 == 2) = false := by rw [nb 2 (by omega)]; simp
      rw [e1, decide_eq_true h1, decide_eq_false h2, decide_eq_true (show i + 1 < t.size by omega), hf]
      simp
  · have hf : (decide (i + 1 < t.size) && (t.get! (i + 1)).toNat / 64 == 2) = false := by rw [nb 1 (by omega)]; simp
    rw [decide_eq_false h1, hf]
    simp
theorem GoesC.partL (h : GoesC c s t) {i : Nat} (hi : i ≤ s.size) : Proofs.YtphgglnkdfndiaaDoor.partL t i = Proofs.YtphgglnkdfndiaaDoor.partL s i := by
  have hlt := h.lt
  unfold Proofs.YtphgglnkdfndiaaDoor.partL
  by_cases hl : i < s.size
  · rw [h.decode hl]
    simp only [hl, show i < t.size by omega, true_and]
  · obtain rfl : i = s.size := by omega
    have hd : Utf8.decode t s.size = (c.toNat, 1) := by
      have hc : t[s.size] = c := by
        have := h.next
        rwa [show t.get! s.size = t[s.size] by simpa using get_at t s.size hlt] at this
      rw [decode_ascii t s.size hlt (by rw [hc]; exact h.lo), hc]
    rw [hd, if_neg (by rintro ⟨_, hh⟩; simp only at hh; rw [h.np] at hh; cases hh), if_neg (by rintro ⟨hh, _⟩; exact hl hh)]
theorem GoesC.endL (h : GoesC c s t) : ∀ (f i : Nat), i ≤ s.size → Proofs.YtphgglnkdfndiaaDoor.endL t f i = Proofs.YtphgglnkdfndiaaDoor.endL s f i
  | 0, i, _ => rfl
  | f + 1, i, hi => by
    rw [Proofs.YtphgglnkdfndiaaDoor.endL, Proofs.YtphgglnkdfndiaaDoor.endL, h.partL hi]
    split
    · rfl
    · exact h.endL f _ (partL_le hi)
theorem GoesC.wordL (h : GoesC c s t) {i : Nat} (hi : i < s.size) : Proofs.YtphgglnkdfndiaaDoor.wordL t i = Proofs.YtphgglnkdfndiaaDoor.wordL s i := by
  have hlt := h.lt
  have hk : kindL t i = kindL s i := by
    unfold kindL
    rw [if_pos hi, if_pos (show i < t.size by omega), h.decode hi]
  unfold Proofs.YtphgglnkdfndiaaDoor.wordL
  rw [hk]
  split
  · rfl
  · rw [h.endL t.size i (Nat.le_of_lt hi)]
    congr 1
    exact End.unique (Nat.le_of_lt hi) ⟨_, by omega, rfl⟩ ⟨_, by omega, rfl⟩
end

abbrev K := Nat × ByteArray
def kt (t : Tok) : K := (t.kind, t.text)
/-- no word goes on here -/
def Stop : List UInt8 → Prop
  | [] => True
  | c :: _ => c.toNat < 128 ∧ isPart c.toNat = false
theorem Stop.app {l m : List UInt8} (hl : Stop l) (hm : Stop m) : Stop (l ++ m) := by
  cases l with
  | nil => exact hm
  | cons c l => exact hl
theorem stop_c (c : UInt8) {l : List UInt8} (h1 : c.toNat < 128) (h2 : isPart c.toNat = false) : Stop (c :: l) := ⟨h1, h2⟩
/-- a piece of text is scanned so, whatever stands ahead, where behind it no word goes on -/
def Sc (l : List UInt8) (ks : List K) : Prop := ∀ (s : ByteArray) (i : Nat) (rest : List UInt8) (r : List Tok × Nat × Nat), s.data.toList.drop i = l ++ rest → Stop rest → TRes s (i + l.length) r →
  ∃ ts, TRes s i (ts ++ r.1, r.2) ∧ ts.map kt = ks
/-- likewise, whatever stands behind it -/
def ScM (l : List UInt8) (ks : List K) : Prop := ∀ (s : ByteArray) (i : Nat) (rest : List UInt8) (r : List Tok × Nat × Nat), s.data.toList.drop i = l ++ rest → TRes s (i + l.length) r →
  ∃ ts, TRes s i (ts ++ r.1, r.2) ∧ ts.map kt = ks
section
variable {l m : List UInt8} {ks ms : List K}
theorem ScM.sc (h : ScM l ks) : Sc l ks := fun s i rest r hd _ hr => h s i rest r hd hr
theorem ScM.nil : ScM [] [] := fun s i rest r _ hr => ⟨[], by simpa using hr, rfl⟩
theorem drop_app {s : ByteArray} {i : Nat} {rest : List UInt8} (hd : s.data.toList.drop i = l ++ rest) : s.data.toList.drop (i + l.length) = rest := by rw [← List.drop_drop, hd, List.drop_left]
theorem ScM.app (h1 : ScM l ks) (h2 : Sc m ms) : Sc (l ++ m) (ks ++ ms) := fun s i rest r hd hs hr => by
  rw [List.append_assoc] at hd
  rw [List.length_append, ← Nat.add_assoc] at hr
  obtain ⟨t2, ht2, hm2⟩ := h2 s _ rest r (drop_app hd) hs hr
  obtain ⟨t1, ht1, hm1⟩ := h1 s i (m ++ rest) _ hd ht2
  exact ⟨t1 ++ t2, by simpa [List.append_assoc] using ht1, by rw [List.map_append, hm1, hm2]⟩
theorem ScM.appM (h1 : ScM l ks) (h2 : ScM m ms) : ScM (l ++ m) (ks ++ ms) := fun s i rest r hd hr => by
  rw [List.append_assoc] at hd
  rw [List.length_append, ← Nat.add_assoc] at hr
  obtain ⟨t2, ht2, hm2⟩ := h2 s _ rest r (drop_app hd) hr
  obtain ⟨t1, ht1, hm1⟩ := h1 s i (m ++ rest) _ hd ht2
  exact ⟨t1 ++ t2, by simpa [List.append_assoc] using ht1, by rw [List.map_append, hm1, hm2]⟩
theorem Sc.app (h1 : Sc l ks) (hm : Stop m) (h2 : Sc m ms) : Sc (l ++ m) (ks ++ ms) := fun s i rest r hd hs hr => by
  rw [List.append_assoc] at hd
  rw [List.length_append, ← Nat.add_assoc] at hr
  obtain ⟨t2, ht2, hm2⟩ := h2 s _ rest r (drop_app hd) hs hr
  obtain ⟨t1, ht1, hm1⟩ := h1 s i (m ++ rest) _ hd (hm.app hs) ht2
  exact ⟨t1 ++ t2, by simpa [List.append_assoc] using ht1, by rw [List.map_append, hm1, hm2]⟩
end
theorem sc_word {x : ByteArray} {k : Nat} (h : Word x = k) (hk : k ≠ 0) : Sc x.data.toList [(k, x)] := fun s i rest r hd hs hr => by
  have hw := Word_eq (s := x) (by rw [h]; exact hk)
  rw [h] at hw
  obtain ⟨hkd, hpos⟩ := wordL_kind hw hk
  have hlen := congrArg List.length hd
  rw [List.length_drop, List.length_append, ← Lib.size_eq, ← Lib.size_eq] at hlen
  have hi : i ≤ s.size := by omega
  have hwu : wordL (s.extract i s.size) 0 = (k, x.size) := by
    cases rest with
    | nil =>
      have : s.extract i s.size = x := by
        apply ByteArray.ext
        apply Array.ext'
        rw [ext_drop, hd, List.append_nil]
      rw [this, hw]
    | cons c rest =>
      have hgo : GoesC c x (s.extract i s.size) := ⟨⟨rest, by rw [ext_drop, hd]⟩, hs.1, hs.2⟩
      rw [hgo.wordL hpos, hw]
  have hws := wordL_shift hi
  rw [hwu] at hws
  simp only at hws
  obtain ⟨hkd2, hi'⟩ := wordL_kind hws hk
  rw [← Lib.size_eq] at hr
  have := TRes.ofWord hi' (kind_plain hi' hkd2) hws hk hr
  refine ⟨[⟨k, s.extract i (i + x.size), i⟩], this, ?_⟩
  have hx : s.extract i (i + x.size) = x := by
    apply ByteArray.ext
    apply Array.ext'
    rw [ext_data, hd, Nat.add_sub_cancel_left, Lib.size_eq, List.take_left]
  simp only [List.map_cons, List.map_nil, kt, hx]
theorem sc_quoted (x : ByteArray) : ScM (quotedL x.data.toList) [(3, x)] := fun s i rest r hd hr => by
  have hwr : quotedL x.data.toList = 34 :: (x.data.toList.flatMap q1 ++ [34]) := rfl
  rw [hwr, List.cons_append, List.append_assoc] at hd
  obtain ⟨hi', h1, h2⟩ := drop_cons hd
  have hq := quoteE_back (l := x.data.toList) (rest := rest) (by simpa using h2)
  have he : i + 1 + (x.data.toList.flatMap q1).length + 1 = i + (quotedL x.data.toList).length := by
    rw [hwr]; simp only [List.length_cons, List.length_append, List.length_nil]; omega
  rw [he] at hq
  refine ⟨[⟨3, ⟨x.data.toList.toArray⟩, i⟩], TRes.ofQuote hi' h1 hq hr, ?_⟩
  simp only [List.map_cons, List.map_nil, kt, ba_mk]
/-- a mark and what it is read as -/
theorem sc_markR {m rest : List UInt8} {k : Nat} {c : UInt8} {m' : List UInt8} (hm : m = c :: m') (hml : markL (m ++ rest) = (k, m.length)) (hk : k ≠ 0) (hc1 : c.toNat < 128) (hc2 : kindR c.toNat = 0) (hc3 : plainB c)
    {s : ByteArray} {i : Nat} {r : List Tok × Nat × Nat} (hd : s.data.toList.drop i = m ++ rest) (hr : TRes s (i + m.length) r) : TRes s i (⟨k, emptyB, i⟩ :: r.1, r.2) := by
  rw [← hd] at hml
  have h0 := hd
  rw [hm, List.cons_append] at h0
  obtain ⟨hi', h1, h2⟩ := drop_cons h0
  have hw0 : (wordL s i).1 = 0 := by
    have : kindL s i = 0 := by unfold kindL; rw [if_pos hi', decode_ascii s i hi' (by rw [h1]; exact hc1), h1]; exact hc2
    rw [wordL_no this]
  exact TRes.ofMark hi' (by rw [h1]; exact hc3) hw0 hml hk hr
theorem sc_mark {m : List UInt8} {k : Nat} {c : UInt8} {m' : List UInt8} (hm : m = c :: m') (hml : ∀ rest, markL (m ++ rest) = (k, m.length)) (hk : k ≠ 0) (hc1 : c.toNat < 128) (hc2 : kindR c.toNat = 0) (hc3 : plainB c) : ScM m [(k, emptyB)] :=
  fun s i rest r hd hr => ⟨[⟨k, emptyB, i⟩], sc_markR hm (hml rest) hk hc1 hc2 hc3 hd hr, rfl⟩
theorem sc_blank {c : UInt8} (h : c = 32 ∨ c = 10) : ScM [c] [] := fun s i rest r hd hr => by
  obtain ⟨hi, h1, h2⟩ := drop_cons (by simpa using hd)
  exact ⟨[], TRes.ofBlank hi (by rw [h1]; rcases h with h | h <;> simp [h]) hr, rfl⟩
theorem sc_open : ScM [40] [(4, emptyB)] := sc_mark (c := 40) rfl (fun _ => rfl) (by decide) (by decide) (by decide) (by unfold plainB; decide)
theorem sc_shut : ScM [41] [(5, emptyB)] := sc_mark (c := 41) rfl (fun _ => rfl) (by decide) (by decide) (by decide) (by unfold plainB; decide)
theorem sc_comma : ScM [44, 32] [(6, emptyB)] := (sc_mark (m := [44]) (c := 44) rfl (fun _ => rfl) (by decide) (by decide) (by decide) (by unfold plainB; decide)).appM (sc_blank (.inl rfl))
theorem sc_dot : ScM [46] [(7, emptyB)] := sc_mark (c := 46) rfl (fun _ => rfl) (by decide) (by decide) (by decide) (by unfold plainB; decide)
theorem sc_if : ScM [32, 58, 45, 32] [(8, emptyB)] := (sc_blank (c := 32) (.inl rfl)).appM ((sc_mark (m := [58, 45]) (c := 58) rfl (fun _ => rfl) (by decide) (by decide) (by decide) (by unfold plainB; decide)).appM (sc_blank (.inl rfl)))
/-- a mark ahead of a blank -/
theorem sc_markB {k : Nat} (h1 : 4 ≤ k) (h2 : k ≤ 13) : ScM (marksW.getD k [] ++ [32]) [(k, emptyB)] := fun s i rest r hd hr => by
  obtain ⟨hml, c, m, hcm, hc1, hc2, hc3⟩ := marksW_law k h1 h2 rest
  rw [List.append_assoc, List.singleton_append] at hd
  rw [List.length_append, ← Nat.add_assoc] at hr
  obtain ⟨hb, hb1, hb2⟩ := drop_cons (drop_app hd)
  exact ⟨[⟨k, emptyB, i⟩], sc_markR hcm hml (by omega) hc1 hc2 hc3 hd (TRes.ofBlank hb (.inl hb1) hr), rfl⟩
theorem sc_op {o : Int} (h1 : 1 ≤ o) (h4 : o ≤ 4) : ScM (opT o) [(9 + o.toNat, emptyB)] := by
  have hc : o = 1 ∨ o = 2 ∨ o = 3 ∨ o = 4 := by omega
  rcases hc with rfl | rfl | rfl | rfl
  · exact (sc_blank (c := 32) (.inl rfl)).appM (sc_markB (k := 10) (by omega) (by omega))
  · exact (sc_blank (c := 32) (.inl rfl)).appM (sc_markB (k := 11) (by omega) (by omega))
  · exact (sc_blank (c := 32) (.inl rfl)).appM (sc_markB (k := 12) (by omega) (by omega))
  · exact (sc_blank (c := 32) (.inl rfl)).appM (sc_markB (k := 13) (by omega) (by omega))
theorem sc_not {c : UInt8} {l : List UInt8} {ks : List K} (hc : c ≠ 61) (h : Sc (c :: l) ks) : Sc (33 :: c :: l) ((9, emptyB) :: ks) := fun s i rest r hd hs hr => by
  have hd2 : s.data.toList.drop i = [33] ++ (c :: l ++ rest) := hd
  have hr2 : TRes s (i + 1 + (c :: l).length) r := by
    rw [show i + 1 + (c :: l).length = i + (33 :: c :: l).length by simp only [List.length_cons]; omega]; exact hr
  obtain ⟨t2, ht2, hm2⟩ := h s (i + 1) rest r (drop_app hd2) hs hr2
  refine ⟨⟨9, emptyB, i⟩ :: t2, sc_markR (m := [33]) (c := 33) rfl ?_ (by decide) (by decide) (by decide) (by unfold plainB; decide) hd2 ht2, by rw [List.map_cons, hm2]; rfl⟩
  show markL (33 :: c :: (l ++ rest)) = (9, 1)
  unfold markL
  split <;> simp_all
/-- tokens, with one ahead of the first and one between -/
def sepK (f s : List K) : List (List K) → List K
  | [] => []
  | x :: xs => f ++ x ++ xs.flatMap (s ++ ·)
theorem sc_seps {α : Type} {T : α → List UInt8} {Kf : α → List K} {s : List UInt8} {ks : List K} (hs : ScM s ks) (st : Stop s) (h0 : s ≠ []) : ∀ xs : List α, (∀ x ∈ xs, Sc (T x) (Kf x)) → Sc ((xs.map T).flatMap (s ++ ·)) ((xs.map Kf).flatMap (ks ++ ·)) ∧ Stop ((xs.map T).flatMap (s ++ ·))
  | [], _ => ⟨ScM.nil.sc, trivial⟩
  | x :: xs, h => by
    obtain ⟨h1, h2⟩ := sc_seps hs st h0 xs (fun y hy => h y (List.mem_cons_of_mem _ hy))
    rw [List.map_cons, List.map_cons, List.flatMap_cons, List.flatMap_cons]
    refine ⟨(hs.app (h x (List.mem_cons_self ..))).app h2 h1, ?_⟩
    cases s with
    | nil => exact absurd rfl h0
    | cons c s => exact st
theorem sc_sep {α : Type} {T : α → List UInt8} {Kf : α → List K} {f s : List UInt8} {kf ks : List K} (hf : ScM f kf) (hs : ScM s ks) (sf : Stop f) (f0 : f ≠ []) (st : Stop s) (h0 : s ≠ []) (xs : List α) (h : ∀ x ∈ xs, Sc (T x) (Kf x)) :
    Sc (sepT f s (xs.map T)) (sepK kf ks (xs.map Kf)) ∧ Stop (sepT f s (xs.map T)) := by
  cases xs with
  | nil => exact ⟨ScM.nil.sc, trivial⟩
  | cons x xs =>
    obtain ⟨h1, h2⟩ := sc_seps hs st h0 xs (fun y hy => h y (List.mem_cons_of_mem _ hy))
    refine ⟨(hf.app (h x (List.mem_cons_self ..))).app h2 h1, ?_⟩
    cases f with
    | nil => exact absurd rfl f0
    | cons c f => exact sf
def tmK (t : Tm) : List K :=
  if t.kind = 1 then [(2, t.text)] else if t.kind = 2 then [(2, blankB)]
  else if t.kind = 3 then [(if Word t.text = 1 then 1 else 3, t.text)]
  else if t.kind = 4 then [(1, wCount), (4, emptyB), (5, emptyB)]
  else if t.kind = 5 then [(1, wSum), (4, emptyB), (2, t.text), (5, emptyB)]
  else if t.kind = 6 then [(1, wMin), (4, emptyB), (2, t.text), (5, emptyB)]
  else [(1, wMax), (4, emptyB), (2, t.text), (5, emptyB)]
def amK (a : Am) : List K := (1, a.pred) :: (sepK [(4, emptyB)] [(6, emptyB)] (a.terms.map tmK) ++ (if a.terms.length = 0 then [] else [(5, emptyB)]))
def lmK (l : Lm) : List K := if l.kind = 2 then (9, emptyB) :: amK l.atom else if l.kind = 3 then tmK l.left ++ ((9 + l.op.toNat, emptyB) :: tmK l.right) else amK l.atom
def rmK (r : Rm) : List K := amK r.head ++ (sepK [(8, emptyB)] [(6, emptyB)] (r.body.map lmK) ++ [(7, emptyB)])
def pmK (rs : List Rm) : List K := rs.flatMap rmK
theorem word_blank : Word blankB = 2 := by kernel_rfl
theorem word_count : Word wCount = 1 := by kernel_rfl
theorem word_sum : Word wSum = 1 := by kernel_rfl
theorem word_min : Word wMin = 1 := by kernel_rfl
theorem word_max : Word wMax = 1 := by kernel_rfl
/-- what a term that may be is -/
theorem mayTm_cases {t : Tm} (h : mayTm t = 0) : (t.kind = 3 ∧ t.text.size ≤ 4096) ∨ ((t.kind = 2 ∨ t.kind = 4) ∧ t.text = emptyB) ∨ ((t.kind = 1 ∨ t.kind = 5 ∨ t.kind = 6 ∨ t.kind = 7) ∧ t.text ≠ blankB ∧ Word t.text = 2 ∧ t.text.size ≤ 4096) := by
  unfold mayTm at h
  by_cases h3 : t.kind = 3
  · rw [if_pos h3] at h
    refine .inl ⟨h3, ?_⟩
    split at h
    · exact absurd h (by decide)
    · omega
  rw [if_neg h3] at h
  by_cases h2 : t.kind = 2 ∨ t.kind = 4
  · rw [if_pos h2] at h
    refine .inr (.inl ⟨h2, ?_⟩)
    split at h
    · assumption
    · exact absurd h (by decide)
  rw [if_neg h2] at h
  by_cases h1 : t.kind = 1 ∨ t.kind = 5 ∨ t.kind = 6 ∨ t.kind = 7
  · rw [if_pos h1] at h
    by_cases hw : t.text = blankB ∨ Word t.text ≠ 2
    · rw [if_pos hw] at h; exact absurd h (by decide)
    · rw [if_neg hw] at h
      have hw2 : Word t.text = 2 := by
        by_cases hh : Word t.text = 2
        · exact hh
        · exact absurd (.inr hh) hw
      refine .inr (.inr ⟨h1, fun hh => hw (.inl hh), hw2, ?_⟩)
      split at h
      · exact absurd h (by decide)
      · omega
  · rw [if_neg h1] at h; exact absurd h (by decide)
theorem sc_agg {x t : ByteArray} (hx : Word x = 1) (ht : Word t = 2) : Sc (x.data.toList ++ ([40] ++ (t.data.toList ++ [41]))) [(1, x), (4, emptyB), (2, t), (5, emptyB)] :=
  (sc_word hx (by decide)).app (stop_c 40 (by decide) (by decide)) (sc_open.app ((sc_word ht (by decide)).app (by unfold Stop; decide) sc_shut.sc))
theorem sc_tm {t : Tm} (h : mayTm t = 0) : Sc (tmT t) (tmK t) := by
  rcases mayTm_cases h with ⟨h3, hs⟩ | ⟨hk, he⟩ | ⟨hk, hb, hw, hs⟩
  · unfold tmT tmK
    simp only [h3, show ¬ ((3 : Int) = 1) by decide, show ¬ ((3 : Int) = 2) by decide, if_false, if_true]
    by_cases hw : Word t.text = 1
    · rw [if_pos hw, if_pos hw]; exact sc_word hw (by decide)
    · rw [if_neg hw, if_neg hw]; exact (sc_quoted t.text).sc
  · rcases hk with hk | hk
    · unfold tmT tmK
      simp only [hk, show ¬ ((2 : Int) = 1) by decide, if_false, if_true]
      exact sc_word word_blank (by decide)
    · unfold tmT tmK
      simp only [hk, show ¬ ((4 : Int) = 1) by decide, show ¬ ((4 : Int) = 2) by decide, show ¬ ((4 : Int) = 3) by decide, if_false, if_true]
      exact (sc_word word_count (by decide)).app (m := [40, 41]) (by unfold Stop; decide) (sc_open.appM sc_shut).sc
  · unfold tmT tmK
    rcases hk with hk | hk | hk | hk
    · simp only [hk, if_true]
      exact sc_word hw (by decide)
    · simp only [hk, show ¬ ((5 : Int) = 1) by decide, show ¬ ((5 : Int) = 2) by decide, show ¬ ((5 : Int) = 3) by decide, show ¬ ((5 : Int) = 4) by decide, if_false, if_true, List.append_assoc]
      exact sc_agg word_sum hw
    · simp only [hk, show ¬ ((6 : Int) = 1) by decide, show ¬ ((6 : Int) = 2) by decide, show ¬ ((6 : Int) = 3) by decide, show ¬ ((6 : Int) = 4) by decide, show ¬ ((6 : Int) = 5) by decide, if_false, if_true, List.append_assoc]
      exact sc_agg word_min hw
    · simp only [hk, show ¬ ((7 : Int) = 1) by decide, show ¬ ((7 : Int) = 2) by decide, show ¬ ((7 : Int) = 3) by decide, show ¬ ((7 : Int) = 4) by decide, show ¬ ((7 : Int) = 5) by decide, show ¬ ((7 : Int) = 6) by decide, if_false, List.append_assoc]
      exact sc_agg word_max hw
/-- what an atom that may be is -/
theorem mayAm_out {head : Bool} {a : Am} (h : mayAm head a = 0) : Word a.pred = 1 ∧ a.pred.size ≤ 4096 ∧ a.terms.length ≤ 64 ∧ mayTs head a.terms = 0 := by
  unfold mayAm at h
  by_cases h1 : Word a.pred ≠ 1
  · rw [if_pos h1] at h; exact absurd h (by decide)
  rw [if_neg h1] at h
  by_cases h2 : 4096 < a.pred.size
  · rw [if_pos h2] at h; exact absurd h (by decide)
  rw [if_neg h2] at h
  by_cases h3 : 64 < a.terms.length
  · rw [if_pos h3] at h; exact absurd h (by decide)
  rw [if_neg h3] at h
  exact ⟨by simpa using h1, by omega, by omega, h⟩
theorem mayTs_all : ∀ {head : Bool} {ts : List Tm}, mayTs head ts = 0 → ∀ t ∈ ts, mayTm t = 0
  | _, [], _, t, ht => by cases ht
  | head, x :: ts, h, t, ht => by
    rw [mayTs] at h
    by_cases hk : 4 ≤ x.kind ∧ x.kind ≤ 7
    · rw [if_pos hk] at h
      by_cases hh : head = true
      · rw [if_pos hh] at h
        by_cases hm : mayTm x ≠ 0
        · rw [if_pos hm] at h; exact absurd h hm
        · rw [if_neg hm] at h
          rcases List.mem_cons.1 ht with rfl | ht
          · simpa using hm
          · exact mayTs_all h t ht
      · rw [if_neg hh] at h; exact absurd h (by decide)
    · rw [if_neg hk] at h
      by_cases hm : mayTm x ≠ 0
      · rw [if_pos hm] at h; exact absurd h hm
      · rw [if_neg hm] at h
        rcases List.mem_cons.1 ht with rfl | ht
        · simpa using hm
        · exact mayTs_all h t ht
theorem sc_am {head : Bool} {a : Am} (h : mayAm head a = 0) : Sc (amT a) (amK a) := by
  obtain ⟨hw, hs, hf, ht⟩ := mayAm_out h
  have hx := sc_sep (T := tmT) (Kf := tmK) sc_open sc_comma (by unfold Stop; decide) (by simp) (by unfold Stop; decide) (by simp) a.terms (fun t hh => sc_tm (mayTs_all ht t hh))
  have e : Sc (if a.terms.length = 0 then [] else [41]) (if a.terms.length = 0 then [] else [(5, emptyB)]) ∧ Stop (if a.terms.length = 0 then [] else [41]) := by
    split
    · exact ⟨ScM.nil.sc, trivial⟩
    · exact ⟨sc_shut.sc, by unfold Stop; decide⟩
  unfold amT amK
  rw [List.append_assoc]
  exact (sc_word hw (by decide)).app (hx.2.app e.2) (hx.1.app e.2 e.1)
/-- what a literal that may be is -/
theorem mayLm_cases {l : Lm} (h : mayLm l = 0) : ((l.kind = 1 ∨ l.kind = 2) ∧ bareL l ∧ mayAm false l.atom = 0) ∨ (l.kind = 3 ∧ noneL l ∧ 1 ≤ l.op ∧ l.op ≤ 4 ∧ l.left.kind ≤ 3 ∧ mayTm l.left = 0 ∧ l.right.kind ≤ 3 ∧ mayTm l.right = 0) := by
  unfold mayLm at h
  by_cases h1 : (l.kind = 1 ∨ l.kind = 2) ∧ bareL l
  · rw [if_pos h1] at h
    exact .inl ⟨h1.1, h1.2, h⟩
  rw [if_neg h1] at h
  by_cases h2 : l.kind ≠ 3 ∨ ¬ noneL l ∨ l.op < 1 ∨ 4 < l.op
  · rw [if_pos h2] at h; exact absurd h (by decide)
  rw [if_neg h2] at h
  have hk : l.kind = 3 := by
    by_cases hk : l.kind = 3
    · exact hk
    · exact absurd (.inl hk) h2
  have hn : noneL l := by
    by_cases hn : noneL l
    · exact hn
    · exact absurd (.inr (.inl hn)) h2
  have ho1 : 1 ≤ l.op := by
    by_cases ho : l.op < 1
    · exact absurd (.inr (.inr (.inl ho))) h2
    · omega
  have ho4 : l.op ≤ 4 := by
    by_cases ho : 4 < l.op
    · exact absurd (.inr (.inr (.inr ho))) h2
    · omega
  by_cases h3 : 4 ≤ l.left.kind
  · rw [if_pos h3] at h; exact absurd h (by decide)
  rw [if_neg h3] at h
  by_cases h4 : mayTm l.left ≠ 0
  · rw [if_pos h4] at h; exact absurd h h4
  rw [if_neg h4] at h
  by_cases h5 : 4 ≤ l.right.kind
  · rw [if_pos h5] at h; exact absurd h (by decide)
  rw [if_neg h5] at h
  exact .inr ⟨hk, hn, ho1, ho4, by omega, by simpa using h4, by omega, h⟩
theorem pred_head {x : ByteArray} (h : Word x = 1) : ∃ c m, x.data.toList = c :: m ∧ c ≠ 61 := by
  have hw := Word_eq (s := x) (by rw [h]; decide)
  obtain ⟨hkd, hpos⟩ := wordL_kind hw (by rw [h]; decide)
  have hd : x.data.toList = x[0] :: x.data.toList.drop 1 := by
    have : x.data.toList.drop 0 = x[0] :: x.data.toList.drop 1 := List.drop_eq_getElem_cons (by simpa using hpos)
    simpa using this
  refine ⟨_, _, hd, fun hc => hkd ?_⟩
  unfold kindL
  rw [if_pos hpos, decode_ascii x 0 hpos (by rw [hc]; decide), hc]
  decide
theorem sc_lm {l : Lm} (h : mayLm l = 0) : Sc (lmT l) (lmK l) := by
  unfold lmT lmK
  rcases mayLm_cases h with ⟨hk, hb, ha⟩ | ⟨hk, hn, h1, h4, hl1, hl, hr1, hr⟩
  · rcases hk with hk | hk
    · rw [if_neg (by omega), if_neg (by omega), if_neg (by omega), if_neg (by omega)]; exact sc_am ha
    · rw [if_pos hk, if_pos hk]
      obtain ⟨c, m, hc, hne⟩ := pred_head (mayAm_out ha).1
      have := sc_am ha
      have e : ∃ m', amT l.atom = c :: m' := by unfold amT; rw [hc]; exact ⟨_, rfl⟩
      obtain ⟨m', e⟩ := e
      rw [e] at this ⊢
      exact sc_not hne this
  · rw [if_neg (by omega), if_pos hk, if_neg (by omega), if_pos hk, List.append_assoc]
    refine (sc_tm hl).app ?_ ((sc_op h1 h4).app (sc_tm hr))
    unfold opT
    repeat' split
    all_goals exact stop_c 32 (by decide) (by decide)
theorem mayRm_out {r : Rm} (h : mayRm r = 0) : mayAm true r.head = 0 ∧ r.body.length ≤ 64 ∧ mayLs r.body = 0 := by
  unfold mayRm at h
  by_cases h1 : mayAm true r.head ≠ 0
  · rw [if_pos h1] at h; exact absurd h h1
  rw [if_neg h1] at h
  by_cases h2 : 64 < r.body.length
  · rw [if_pos h2] at h; exact absurd h (by decide)
  rw [if_neg h2] at h
  exact ⟨by simpa using h1, by omega, h⟩
theorem mayLs_all : ∀ {ls : List Lm}, mayLs ls = 0 → ∀ l ∈ ls, mayLm l = 0
  | [], _, l, hl => by cases hl
  | x :: ls, h, l, hl => by
    rw [mayLs] at h
    by_cases hm : mayLm x ≠ 0
    · rw [if_pos hm] at h; exact absurd h hm
    · rw [if_neg hm] at h
      rcases List.mem_cons.1 hl with rfl | hl
      · simpa using hm
      · exact mayLs_all h l hl
theorem mayRs_all : ∀ {rs : List Rm}, mayRs rs = 0 → ∀ r ∈ rs, mayRm r = 0
  | [], _, l, hl => by cases hl
  | x :: rs, h, r, hr => by
    rw [mayRs] at h
    by_cases hm : mayRm x ≠ 0
    · rw [if_pos hm] at h; exact absurd h hm
    · rw [if_neg hm] at h
      rcases List.mem_cons.1 hr with rfl | hr
      · simpa using hm
      · exact mayRs_all h r hr
theorem sc_rm {r : Rm} (h : mayRm r = 0) : Sc (rmT r) (rmK r) := by
  obtain ⟨hh, hf, hb⟩ := mayRm_out h
  have hx := sc_sep (T := lmT) (Kf := lmK) sc_if sc_comma (by unfold Stop; decide) (by simp) (by unfold Stop; decide) (by simp) r.body (fun l hl => sc_lm (mayLs_all hb l hl))
  have hd : Stop [46] := by unfold Stop; decide
  unfold rmT rmK
  rw [List.append_assoc]
  exact (sc_am hh).app (hx.2.app hd) (hx.1.app hd sc_dot.sc)
theorem sc_pm : ∀ {rs : List Rm}, (∀ r ∈ rs, mayRm r = 0) → Sc (pmT rs) (pmK rs)
  | [], _ => ScM.nil.sc
  | r :: rs, h => fun s i rest x hd hs hr => by
    have e1 : pmT (r :: rs) = (rmT r ++ [10]) ++ pmT rs := rfl
    have e2 : pmK (r :: rs) = rmK r ++ pmK rs := rfl
    have h1 := (sc_rm (h r (List.mem_cons_self ..))).app (m := [10]) (by unfold Stop; decide) (sc_blank (c := 10) (.inr rfl)).sc
    rw [e1, List.append_assoc] at hd
    rw [e1, List.length_append, ← Nat.add_assoc] at hr
    obtain ⟨t2, ht2, hm2⟩ := sc_pm (fun y hy => h y (List.mem_cons_of_mem _ hy)) s _ rest x (drop_app hd) hs hr
    rw [List.append_assoc] at hd
    have hr3 : TRes s (i + (rmT r).length) (t2 ++ x.1, x.2) := by
      obtain ⟨hb, hb1, hb2⟩ := drop_cons (drop_app hd)
      rw [List.length_append, ← Nat.add_assoc] at ht2
      exact TRes.ofBlank hb (by rw [hb1]; simp) ht2
    obtain ⟨t1, ht1, hm1⟩ := sc_rm (h r (List.mem_cons_self ..)) s i _ _ hd (by
      exact stop_c 10 (by decide) (by decide)) hr3
    exact ⟨t1 ++ t2, by simpa [List.append_assoc] using ht1, by rw [List.map_append, hm1, hm2, e2]⟩
/-- a whole text that is scanned so -/
theorem Sc.whole {l : List UInt8} {ks : List K} (h : Sc l ks) : ∃ ts, scanL ⟨l.toArray⟩ = (ts, 0, 0) ∧ ts.map kt = ks := by
  obtain ⟨ts, h1, h2⟩ := h ⟨l.toArray⟩ 0 [] ([], 0, 0) (by simp) trivial (TRes.ofEnd (by
    show ¬ 0 + l.length < l.length
    omega))
  exact ⟨ts, (scanL_res _).uniq (by simpa using h1), h2⟩
end Go.Proofs.YtphgglnkdfndiaaDoor
/-
  The plain law of PrintBack, second part: the tokens of what may be are read as what it was.
-/
namespace Go.Proofs.YtphgglnkdfndiaaDoor
open Go Go.RowKit Go.Mine
set_option maxHeartbeats 1000000
set_option maxRecDepth 100000
set_option linter.unusedVariables false

/-- from a place on the tokens are these, and nothing is wrong behind them -/
structure From (S : Toks) (k : Nat) (L : List K) : Prop where
  d : (S.ts.map kt).drop k = L
  f : S.fault = 0
def nxt : List K → Nat
  | [] => 0
  | x :: _ => x.1
section
variable {S : Toks} {k c : Nat} {x : ByteArray} {L : List K} {ks : List Nat}
theorem From.bad (h : From S k L) : S.bad k = false := by unfold Toks.bad; rw [h.f]; simp
theorem From.tok (h : From S k ((c, x) :: L)) : (S.tok k).kind = c ∧ (S.tok k).text = x ∧ From S (k + 1) L := by
  have hk : k < S.ts.length := by
    by_cases hk : k < S.ts.length
    · exact hk
    · have := h.d
      rw [List.drop_eq_nil_of_le (by simpa using hk)] at this; cases this
  have h2 := h.d
  rw [List.drop_eq_getElem_cons (by simpa using hk)] at h2
  injection h2 with h3 h4
  rw [List.getElem_map] at h3
  rw [tok_in hk]
  unfold kt at h3
  simp only [Prod.mk.injEq] at h3
  exact ⟨h3.1, h3.2, h4, h.f⟩
theorem From.kind (h : From S k L) : (S.tok k).kind = nxt L := by
  cases L with
  | nil =>
    have hk : S.ts.length ≤ k := by
      have := congrArg List.length h.d
      simp at this; omega
    rw [tok_out hk]; rfl
  | cons y L => exact h.tok.1
theorem From.isP (h : From S k L) (ks : List Nat) : Proofs.YtphgglnkdfndiaaDoor.isP S k ks = .ok (ks.contains (nxt L)) := by rw [isP_val h.bad, h.kind]
theorem From.want (h : From S k L) (hc : ks.contains (nxt L) = true) : wantP S k ks = .ok () := wantP_ok h.bad (by rw [h.kind]; exact hc)
theorem From.word (h : From S k ((c, x) :: L)) (hc : ks.contains c = true) (hl : x.size ≤ 4096) : wordP S k ks = .ok (x, k + 1) := by
  rw [wordP_yes h.bad (by rw [h.tok.1]; exact hc) (by rw [h.tok.2.1]; omega), h.tok.2.1]
theorem From.mark (h : From S k ((c, x) :: L)) : markP S k c = .ok (k + 1) := by
  unfold markP
  rw [h.want (by simp [nxt])]; rfl
end
theorem ct1 {ks : List Nat} {c : Nat} {x : ByteArray} {L : List K} (h : ks.contains c = true) : ks.contains (nxt ((c, x) :: L)) = true := h
theorem ct0 {ks : List Nat} {c : Nat} {x : ByteArray} {L : List K} (h : ks.contains c = false) : ¬ (ks.contains (nxt ((c, x) :: L)) = true) := by
  show ¬ (ks.contains c = true)
  rw [h]; simp
theorem ct2 {ks : List Nat} {c : Nat} {x : ByteArray} {L : List K} (h : ks.contains c = true) : ¬ (ks.contains (nxt ((c, x) :: L)) = false) := by
  show ¬ (ks.contains c = false)
  rw [h]; simp
theorem amK_nxt (a : Am) (L : List K) : nxt (amK a ++ L) = 1 := rfl
section
variable {S : Toks} {k : Nat} {L : List K} {head agg : Bool}
theorem tm_eq3 {t : Tm} {k : Int} {x : ByteArray} (h : t.kind = k) (hx : t.text = x) : (⟨k, x⟩ : Tm) = t := by subst h hx; rfl
theorem term_back {t : Tm} (h : mayTm t = 0) (hk : t.kind ≤ 3) (hF : From S k (tmK t ++ L)) : termP S k = .ok (t, k + 1) ∧ From S (k + 1) L ∧ (nxt (tmK t ++ L) = 1 ∨ nxt (tmK t ++ L) = 2 ∨ nxt (tmK t ++ L) = 3) ∧ (tmK t).length = 1 := by
  rcases mayTm_cases h with ⟨h3, hs⟩ | ⟨hk2, he⟩ | ⟨hk2, hb, hw, hs⟩
  · have e : tmK t = [(if Word t.text = 1 then 1 else 3, t.text)] := by unfold tmK; simp [h3]
    rw [e, List.singleton_append] at hF
    refine ⟨?_, hF.tok.2.2, ?_, by rw [e]; rfl⟩
    · unfold termP
      rw [hF.isP, bind_ok', if_neg (ct0 (by split <;> decide)), hF.word (by split <;> decide) hs]
      simp only [bind_ok']
      rw [tm_eq3 h3 rfl]
    · rw [e]; unfold nxt; simp only [List.singleton_append]; split <;> simp
  · obtain hk2 : t.kind = 2 := by omega
    have e : tmK t = [(2, blankB)] := by unfold tmK; simp [hk2]
    rw [e, List.singleton_append] at hF
    refine ⟨?_, hF.tok.2.2, by rw [e]; simp [nxt], by rw [e]; rfl⟩
    unfold termP
    rw [hF.isP, bind_ok', if_pos (ct1 (by decide)), hF.word (by decide) (by decide)]
    simp only [bind_ok']
    unfold varL
    rw [if_pos rfl, tm_eq3 hk2 he]
  · obtain hk2 : t.kind = 1 := by omega
    have e : tmK t = [(2, t.text)] := by unfold tmK; simp [hk2]
    rw [e, List.singleton_append] at hF
    refine ⟨?_, hF.tok.2.2, by rw [e]; simp [nxt], by rw [e]; rfl⟩
    unfold termP
    rw [hF.isP, bind_ok', if_pos (ct1 (by decide)), hF.word (by decide) hs]
    simp only [bind_ok']
    unfold varL
    rw [if_neg hb, tm_eq3 hk2 rfl]
theorem from_bool {b c : Bool} (h : From S k L) : True := trivial
theorem agg_back {t : Tm} {x : ByteArray} {g : Nat} (hk : t.kind = (g : Int)) (hx : aggL x = g) (hg : g ≠ 0) (hg4 : g ≠ 4) (hs : x.size ≤ 4096) (hb : t.text ≠ blankB) (ht : t.text.size ≤ 4096)
    (hF : From S k ((1, x) :: (4, emptyB) :: (2, t.text) :: (5, emptyB) :: L)) : partP S k false = .ok (t, k + 4, true) ∧ From S (k + 4) L := by
  have h1 := hF.tok.2.2
  have h2 := h1.tok.2.2
  have h3 := h2.tok.2.2
  refine ⟨?_, h3.tok.2.2⟩
  unfold partP
  have ht1 := termP_small (S := S) (k := k) hF.tok.1 (by rw [hF.tok.2.1]; exact hs)
  rw [hF.tok.2.1] at ht1
  rw [hF.isP, bind_ok', ht1, bind_ok', if_neg (by rw [hx]; simp [nxt, hg]), h1.isP, bind_ok', if_neg (ct2 (by decide)), if_neg (by rw [hx]; exact hg4), h2.isP, bind_ok', if_neg (by rw [h2.tok.2.1]; exact fun h => hb h.2), h2.word (by decide) ht, bind_ok', h3.mark, bind_ok', hx, tm_eq3 hk rfl]
theorem part_back {t : Tm} (h : mayTm t = 0) (ha : 4 ≤ t.kind → agg = false) (hL : nxt L ≠ 4) (hF : From S k (tmK t ++ L)) :
    partP S k agg = .ok (t, k + (tmK t).length, agg || decide (4 ≤ t.kind)) ∧ From S (k + (tmK t).length) L ∧ (nxt (tmK t ++ L) = 1 ∨ nxt (tmK t ++ L) = 2 ∨ nxt (tmK t ++ L) = 3) := by
  by_cases hk : t.kind ≤ 3
  · obtain ⟨h1, h2, h3, h4⟩ := term_back h hk hF
    rw [h4]
    refine ⟨?_, h2, h3⟩
    unfold partP
    rw [hF.isP, bind_ok', h1, bind_ok', decide_eq_false (by omega), Bool.or_false]
    by_cases hh : List.contains [1] (nxt (tmK t ++ L)) = false ∨ aggL t.text = 0 ∨ agg = true
    · rw [if_pos hh]
    · rw [if_neg hh, h2.isP, bind_ok', if_pos (by simp; exact fun h => hL h)]
  · have hag := ha (by omega)
    subst hag
    rw [decide_eq_true (by omega), Bool.or_true]
    rcases mayTm_cases h with ⟨h3, hs⟩ | ⟨hk2, he⟩ | ⟨hk2, hb, hw, hs⟩
    · omega
    · obtain hk2 : t.kind = 4 := by omega
      have e : tmK t = [(1, wCount), (4, emptyB), (5, emptyB)] := by unfold tmK; simp [hk2]
      rw [e] at hF ⊢
      have hF : From S k ((1, wCount) :: (4, emptyB) :: (5, emptyB) :: L) := hF
      have h1 := hF.tok.2.2
      have h2 := h1.tok.2.2
      refine ⟨?_, h2.tok.2.2, by simp [nxt]⟩
      unfold partP
      have ht1 := termP_small (S := S) (k := k) hF.tok.1 (by rw [hF.tok.2.1]; decide)
      rw [hF.tok.2.1] at ht1
      rw [hF.isP, bind_ok', ht1, bind_ok', if_neg (by simp [nxt]; decide), h1.isP, bind_ok', if_neg (ct2 (by decide)), if_pos (show aggL wCount = 4 by decide), h2.mark, bind_ok', tm_eq3 hk2 he]
      rfl
    · have hc : t.kind = 5 ∨ t.kind = 6 ∨ t.kind = 7 := by omega
      rcases hc with hc | hc | hc
      · have e : tmK t = [(1, wSum), (4, emptyB), (2, t.text), (5, emptyB)] := by unfold tmK; simp [hc]
        rw [e] at hF ⊢
        obtain ⟨h1, h2⟩ := agg_back (g := 5) hc (by decide) (by decide) (by decide) (by decide) hb hs hF
        exact ⟨h1, h2, by simp [nxt]⟩
      · have e : tmK t = [(1, wMin), (4, emptyB), (2, t.text), (5, emptyB)] := by unfold tmK; simp [hc]
        rw [e] at hF ⊢
        obtain ⟨h1, h2⟩ := agg_back (g := 6) hc (by decide) (by decide) (by decide) (by decide) hb hs hF
        exact ⟨h1, h2, by simp [nxt]⟩
      · have e : tmK t = [(1, wMax), (4, emptyB), (2, t.text), (5, emptyB)] := by unfold tmK; simp [hc]
        rw [e] at hF ⊢
        obtain ⟨h1, h2⟩ := agg_back (g := 7) hc (by decide) (by decide) (by decide) (by decide) hb hs hF
        exact ⟨h1, h2, by simp [nxt]⟩
/-- one of the terms, and what may come behind it -/
theorem one_back {t : Tm} {ts : List Tm} (h : mayTs (head && !agg) (t :: ts) = 0) (hL : nxt L ≠ 4) (hF : From S k (tmK t ++ L)) :
    ∃ k' agg', oneP head S k agg = .ok (t, k', agg') ∧ From S k' L ∧ mayTs (head && !agg') ts = 0 ∧ (nxt (tmK t ++ L) = 1 ∨ nxt (tmK t ++ L) = 2 ∨ nxt (tmK t ++ L) = 3) := by
  have hm := mayTs_all h t (List.mem_cons_self ..)
  rw [mayTs] at h
  by_cases hk : 4 ≤ t.kind ∧ t.kind ≤ 7
  · rw [if_pos hk] at h
    by_cases hh : (head && !agg) = true
    · rw [if_pos hh, if_neg (by rw [hm]; simp)] at h
      simp only [Bool.and_eq_true, Bool.not_eq_true'] at hh
      obtain ⟨rfl, rfl⟩ := hh
      obtain ⟨h1, h2, h3⟩ := part_back (agg := false) hm (fun _ => rfl) hL hF
      refine ⟨_, _, by unfold oneP; rw [if_pos rfl]; exact h1, h2, ?_, h3⟩
      rw [decide_eq_true hk.1]; exact h
    · rw [if_neg hh] at h; exact absurd h (by decide)
  · rw [if_neg hk, if_neg (by rw [hm]; simp)] at h
    have hk3 : t.kind ≤ 3 := by
      have := (okTm hm).hi
      omega
    cases head with
    | true =>
      obtain ⟨h1, h2, h3⟩ := part_back (agg := agg) hm (fun hh => by omega) hL hF
      refine ⟨_, _, by unfold oneP; rw [if_pos rfl]; exact h1, h2, ?_, h3⟩
      rw [decide_eq_false (by omega), Bool.or_false]; exact h
    | false =>
      obtain ⟨h1, h2, h3, _⟩ := term_back hm hk3 hF
      exact ⟨k + 1, agg, by unfold oneP; rw [if_neg (by simp), h1]; rfl, h2, h, h3⟩
theorem nxt3 {L : List K} (h : nxt L = 1 ∨ nxt L = 2 ∨ nxt L = 3) : ([1, 2, 3] : List Nat).contains (nxt L) = true := by
  rcases h with h | h | h <;> rw [h] <;> decide
theorem termsGo_back (hL : nxt L ≠ 4) (hL6 : nxt L ≠ 6) : ∀ (ts : List Tm) (t : Tm) (f k : Nat) (agg : Bool) (acc : List Tm), ts.length < f → acc.length + ts.length < 64 → mayTs (head && !agg) (t :: ts) = 0 →
    From S (k + 1) (tmK t ++ ((ts.map tmK).flatMap ([(6, emptyB)] ++ ·) ++ L)) → ∃ k' agg', termsGo head S f k agg acc = .ok (acc ++ t :: ts, k', agg') ∧ From S k' L
  | ts, t, 0, k, agg, acc, hf, _, _, _ => by omega
  | [], t, f + 1, k, agg, acc, hf, ha, hm, hF => by
    have hF : From S (k + 1) (tmK t ++ L) := hF
    obtain ⟨k1, agg1, h1, h2, h3, h4⟩ := one_back hm hL hF
    refine ⟨k1, agg1, ?_, h2⟩
    rw [termsGo, hF.want (nxt3 h4), bind_ok', if_neg (by simp at ha; omega), h1, bind_ok', h2.isP, bind_ok', if_neg (by simp; exact fun h => hL6 h)]
  | t2 :: ts, t, f + 1, k, agg, acc, hf, ha, hm, hF => by
    have hF : From S (k + 1) (tmK t ++ ((6, emptyB) :: (tmK t2 ++ ((ts.map tmK).flatMap ([(6, emptyB)] ++ ·) ++ L)))) := by
      simpa [List.append_assoc] using hF
    obtain ⟨k1, agg1, h1, h2, h3, h4⟩ := one_back hm (by simp [nxt]) hF
    simp only [List.length_cons] at hf ha
    obtain ⟨k2, agg2, h5, h6⟩ := termsGo_back hL hL6 ts t2 f k1 agg1 (acc ++ [t]) (by omega) (by simp; omega) h3 h2.tok.2.2
    refine ⟨k2, agg2, ?_, h6⟩
    rw [termsGo, hF.want (nxt3 h4), bind_ok', if_neg (by omega), h1, bind_ok', h2.isP, bind_ok', if_pos (ct1 (by decide)), h5, List.append_assoc]
    rfl
theorem terms_back {a : Am} (h : mayTs (head && !agg) a.terms = 0) (hf : a.terms.length ≤ 64) (hL : nxt L ≠ 4)
    (hF : From S k ((sepK [(4, emptyB)] [(6, emptyB)] (a.terms.map tmK) ++ (if a.terms.length = 0 then [] else [(5, emptyB)])) ++ L)) : ∃ k' agg', termsP head S k agg = .ok (a.terms, k', agg') ∧ From S k' L := by
  obtain ⟨p, ts⟩ := a
  simp only at *
  cases ts with
  | nil =>
    have hF : From S k L := hF
    refine ⟨k, agg, ?_, hF⟩
    unfold termsP
    rw [hF.isP, bind_ok', if_pos (by simp; exact fun h => hL h)]
  | cons t ts =>
    have hF : From S k ((4, emptyB) :: (tmK t ++ ((ts.map tmK).flatMap ([(6, emptyB)] ++ ·) ++ ((5, emptyB) :: L)))) := by
      simpa [List.append_assoc, sepK] using hF
    simp only [List.length_cons] at hf
    obtain ⟨k1, agg1, h1, h2⟩ := termsGo_back (L := (5, emptyB) :: L) (by simp [nxt]) (by simp [nxt]) ts t 65 k agg [] (by omega) (by simp; omega) h hF.tok.2.2
    refine ⟨k1 + 1, agg1, ?_, h2.tok.2.2⟩
    unfold termsP
    rw [hF.isP, bind_ok', if_neg (ct2 (by decide)), h1, bind_ok', h2.mark]
    rfl
theorem atom_back {a : Am} (h : mayAm (head && !agg) a = 0) (hL : nxt L ≠ 4) (hF : From S k (amK a ++ L)) : ∃ k' agg', atomP head S k agg = .ok (a, k', agg') ∧ From S k' L := by
  obtain ⟨hw, hs, hf, ht⟩ := mayAm_out h
  have hF : From S k ((1, a.pred) :: ((sepK [(4, emptyB)] [(6, emptyB)] (a.terms.map tmK) ++ (if a.terms.length = 0 then [] else [(5, emptyB)])) ++ L)) := hF
  obtain ⟨k1, agg1, h1, h2⟩ := terms_back ht hf hL hF.tok.2.2
  refine ⟨k1, agg1, ?_, h2⟩
  unfold atomP
  rw [hF.word (by decide) hs, bind_ok', h1]
  rfl
theorem ops_op {o : Int} (h1 : 1 ≤ o) (h4 : o ≤ 4) : opsK.contains (9 + o.toNat) = true ∧ ((9 + o.toNat : Nat) : Int) - 9 = o := by
  have hc : o = 1 ∨ o = 2 ∨ o = 3 ∨ o = 4 := by omega
  rcases hc with rfl | rfl | rfl | rfl <;> exact ⟨by decide, by decide⟩
theorem cmp_back {t u : Tm} {o : Int} (h1 : 1 ≤ o) (h4 : o ≤ 4) (hu : mayTm u = 0) (hk : u.kind ≤ 3) (hF : From S k ((9 + o.toNat, emptyB) :: (tmK u ++ L))) : ∃ k', cmpP S k t = .ok (⟨3, ⟨emptyB, []⟩, o, t, u⟩, k') ∧ From S k' L := by
  obtain ⟨hc, ho⟩ := ops_op h1 h4
  obtain ⟨h5, h6, _, _⟩ := term_back hu hk hF.tok.2.2
  refine ⟨_, ?_, h6⟩
  unfold cmpP
  rw [hF.want (by exact hc), bind_ok', h5, bind_ok', hF.tok.1, ho]
theorem lm_pos {l : Lm} {n : Int} (hk : l.kind = n) (hb : bareL l) : l = ⟨n, l.atom, 0, tm0, tm0⟩ := by
  obtain ⟨k, a, o, ⟨lk, lt⟩, ⟨rk, rt⟩⟩ := l
  obtain ⟨h1, ⟨h2, h3⟩, h4, h5⟩ := hb
  simp only at *
  subst hk h1 h2 h3 h4 h5
  rfl
theorem am_nil {p : ByteArray} {a : Am} (h : a.pred = p) : (⟨p, a.terms⟩ : Am) = a := by subst h; rfl
theorem lit_back {l : Lm} (h : mayLm l = 0) (hL : nxt L = 6 ∨ nxt L = 7) (hF : From S k (lmK l ++ L)) : ∃ k', litP S k agg = .ok (l, k') ∧ From S k' L ∧ ([1, 2, 3, 9] : List Nat).contains (nxt (lmK l ++ L)) = true := by
  have hL4 : nxt L ≠ 4 := by omega
  rcases mayLm_cases h with ⟨hk, hb, ha⟩ | ⟨hk, hn, h1, h4, hl1, hl, hr1, hr⟩
  · obtain ⟨hw, hs, hf, ht⟩ := mayAm_out ha
    rcases hk with hk | hk
    · have e : lmK l = amK l.atom := by unfold lmK; rw [if_neg (by omega), if_neg (by omega)]
      rw [e] at hF ⊢
      have hF : From S k ((1, l.atom.pred) :: ((sepK [(4, emptyB)] [(6, emptyB)] (l.atom.terms.map tmK) ++ (if l.atom.terms.length = 0 then [] else [(5, emptyB)])) ++ L)) := hF
      obtain ⟨k1, agg1, h5, h6⟩ := terms_back (head := false) (agg := agg) ht hf hL4 hF.tok.2.2
      refine ⟨k1, ?_, h6, by rw [amK_nxt]; decide⟩
      have ht1 := termP_small (S := S) (k := k) hF.tok.1 (by rw [hF.tok.2.1]; exact hs)
      rw [hF.tok.2.1] at ht1
      have hno : opsK.contains (nxt ((sepK [(4, emptyB)] [(6, emptyB)] (l.atom.terms.map tmK) ++ (if l.atom.terms.length = 0 then [] else [(5, emptyB)])) ++ L)) = false := by
        cases hts : l.atom.terms with
        | nil => simp only [List.map_nil, sepK, List.length_nil, if_true, List.nil_append]; rcases hL with h | h <;> rw [h] <;> decide
        | cons t ts => rfl
      unfold litP
      rw [hF.isP, bind_ok', if_neg (ct0 (by decide)), hF.isP, bind_ok', ht1, bind_ok', if_pos (ct1 (by decide)), hF.tok.2.2.isP, bind_ok', if_neg (by rw [hno]; simp), h5, bind_ok', am_nil rfl, ← lm_pos hk hb]
    · have e : lmK l = (9, emptyB) :: amK l.atom := by unfold lmK; rw [if_pos hk]
      rw [e] at hF ⊢
      have hF : From S k ((9, emptyB) :: (amK l.atom ++ L)) := hF
      obtain ⟨k1, agg1, h5, h6⟩ := atom_back (head := false) (agg := agg) ha hL4 hF.tok.2.2
      refine ⟨k1, ?_, h6, ct1 (x := emptyB) (by decide)⟩
      unfold litP
      rw [hF.isP, bind_ok', if_pos (ct1 (by decide)), h5, bind_ok', ← lm_pos hk hb]
  · have e : lmK l = tmK l.left ++ ((9 + l.op.toNat, emptyB) :: tmK l.right) := by unfold lmK; rw [if_neg (by omega), if_pos hk]
    rw [e] at hF ⊢
    have hF : From S k (tmK l.left ++ ((9 + l.op.toNat, emptyB) :: (tmK l.right ++ L))) := by simpa [List.append_assoc] using hF
    obtain ⟨h5, h6, h7, _⟩ := term_back hl hl1 hF
    obtain ⟨k1, h8, h9⟩ := cmp_back (t := l.left) h1 h4 hr hr1 h6
    have hn2 : nxt (tmK l.left ++ ((9 + l.op.toNat, emptyB) :: tmK l.right) ++ L) = nxt (tmK l.left ++ ((9 + l.op.toNat, emptyB) :: (tmK l.right ++ L))) := by simp [List.append_assoc]
    refine ⟨k1, ?_, h9, ?_⟩
    · have he : (⟨3, ⟨emptyB, []⟩, l.op, l.left, l.right⟩ : Lm) = l := by
        obtain ⟨k0, ⟨p, ts⟩, o, lt, rt⟩ := l
        obtain ⟨g1, g2⟩ := hn
        simp only at hk g1 g2
        subst hk g1 g2
        rfl
      rw [he] at h8
      unfold litP
      rw [hF.isP, bind_ok', if_neg (by rcases h7 with h | h | h <;> rw [h] <;> decide), hF.isP, bind_ok', h5, bind_ok']
      rcases h7 with h | h | h <;> rw [h]
      · rw [if_pos (by decide), h6.isP, bind_ok', if_pos (by exact (ops_op h1 h4).1), h8]
      · rw [if_neg (by decide), h8]
      · rw [if_neg (by decide), h8]
    · rw [hn2]; rcases h7 with h | h | h <;> rw [h] <;> decide
theorem bodyGo_back (hL7 : nxt L = 7) : ∀ (ls : List Lm) (l : Lm) (f k : Nat) (acc : List Lm), ls.length < f → acc.length + ls.length < 64 → (∀ x ∈ l :: ls, mayLm x = 0) →
    From S (k + 1) (lmK l ++ ((ls.map lmK).flatMap ([(6, emptyB)] ++ ·) ++ L)) → ∃ k', bodyGo S agg f k acc = .ok (acc ++ l :: ls, k') ∧ From S k' L
  | ls, l, 0, k, acc, hf, _, _, _ => by omega
  | [], l, f + 1, k, acc, hf, ha, hm, hF => by
    have hF : From S (k + 1) (lmK l ++ L) := hF
    obtain ⟨k1, h1, h2, h3⟩ := lit_back (agg := agg) (hm l (List.mem_cons_self ..)) (.inr hL7) hF
    refine ⟨k1, ?_, h2⟩
    rw [bodyGo, hF.want h3, bind_ok', if_neg (by simp at ha; omega), h1, bind_ok', h2.isP, bind_ok', if_neg (by rw [hL7]; decide)]
  | l2 :: ls, l, f + 1, k, acc, hf, ha, hm, hF => by
    have hF : From S (k + 1) (lmK l ++ ((6, emptyB) :: (lmK l2 ++ ((ls.map lmK).flatMap ([(6, emptyB)] ++ ·) ++ L)))) := by
      simpa [List.append_assoc] using hF
    obtain ⟨k1, h1, h2, h3⟩ := lit_back (agg := agg) (hm l (List.mem_cons_self ..)) (.inl rfl) hF
    simp only [List.length_cons] at hf ha
    obtain ⟨k2, h5, h6⟩ := bodyGo_back hL7 ls l2 f k1 (acc ++ [l]) (by omega) (by simp; omega) (fun x hx => hm x (List.mem_cons_of_mem _ hx)) h2.tok.2.2
    refine ⟨k2, ?_, h6⟩
    rw [bodyGo, hF.want h3, bind_ok', if_neg (by omega), h1, bind_ok', h2.isP, bind_ok', if_pos (ct1 (by decide)), h5, List.append_assoc]
    rfl
theorem rule_back {r : Rm} (h : mayRm r = 0) (hF : From S k (rmK r ++ L)) : ∃ k' agg', ruleP S k = .ok (r, k', agg') ∧ From S k' L := by
  obtain ⟨hh, hf, hb⟩ := mayRm_out h
  obtain ⟨hd, bd⟩ := r
  simp only at *
  have hF : From S k (amK hd ++ (sepK [(8, emptyB)] [(6, emptyB)] (bd.map lmK) ++ ((7, emptyB) :: L))) := by simpa [rmK, List.append_assoc] using hF
  obtain ⟨k1, agg1, h1, h2⟩ := atom_back (head := true) (agg := false) hh (by cases bd <;> simp [sepK, nxt]) hF
  have hbody : ∃ k', bodyP S k1 agg1 = .ok (bd, k') ∧ From S k' ((7, emptyB) :: L) := by
    cases bd with
    | nil =>
      have h2 : From S k1 ((7, emptyB) :: L) := h2
      refine ⟨k1, ?_, h2⟩
      unfold bodyP
      rw [h2.isP, bind_ok', if_neg (ct0 (by decide))]
    | cons l ls =>
      have h2 : From S k1 ((8, emptyB) :: (lmK l ++ ((ls.map lmK).flatMap ([(6, emptyB)] ++ ·) ++ ((7, emptyB) :: L)))) := by simpa [sepK, List.append_assoc] using h2
      simp only [List.length_cons] at hf
      obtain ⟨k2, h5, h6⟩ := bodyGo_back (agg := agg1) (L := (7, emptyB) :: L) rfl ls l 65 k1 [] (by omega) (by simp; omega) (mayLs_all hb) h2.tok.2.2
      refine ⟨k2, ?_, h6⟩
      unfold bodyP
      rw [h2.isP, bind_ok', if_pos (ct1 (by decide)), h5]
      rfl
  obtain ⟨k2, h3, h4⟩ := hbody
  refine ⟨k2 + 1, agg1, ?_, h4.tok.2.2⟩
  unfold ruleP
  rw [h1, bind_ok', h3, bind_ok', h4.mark]
  rfl
theorem rmK_nxt (r : Rm) (L : List K) : nxt (rmK r ++ L) = 1 := rfl
theorem progGo_back : ∀ (rs : List Rm) (f k : Nat) (acc : List Rm), rs.length < f → acc.length + rs.length ≤ 1024 → (∀ r ∈ rs, mayRm r = 0) → From S k (pmK rs) → ∃ k', progGo S f k acc = .ok (acc ++ rs, k') ∧ From S k' []
  | rs, 0, k, acc, hf, _, _, _ => by omega
  | [], f + 1, k, acc, hf, ha, hm, hF => by
    have hF : From S k [] := hF
    exact ⟨k, by rw [progGo, hF.isP, bind_ok', if_pos (by decide), List.append_nil], hF⟩
  | r :: rs, f + 1, k, acc, hf, ha, hm, hF => by
    have hF : From S k (rmK r ++ pmK rs) := hF
    obtain ⟨k1, agg1, h1, h2⟩ := rule_back (hm r (List.mem_cons_self ..)) hF
    simp only [List.length_cons] at hf ha
    obtain ⟨k2, h3, h4⟩ := progGo_back rs f k1 (acc ++ [r]) (by omega) (by simp; omega) (fun x hx => hm x (List.mem_cons_of_mem _ hx)) h2
    refine ⟨k2, ?_, h4⟩
    rw [progGo, hF.isP, bind_ok', if_neg (by rw [rmK_nxt]; decide), hF.want (by rw [rmK_nxt]; decide), bind_ok', if_neg (by omega), h1, bind_ok', h3, List.append_assoc]
    rfl
end
theorem whole_ok {α : Type} {S : Toks} {r : PR (α × Nat)} {x : α} {k : Nat} (h : r = .ok (x, k)) (hF : From S k []) : wholeP S r = .ok x := by
  unfold wholeP
  rw [h, bind_ok', hF.want (by decide)]; rfl
theorem toks_from {l : List UInt8} {ks : List K} (h : Sc l ks) : From (toksOf ⟨l.toArray⟩) 0 ks := by
  obtain ⟨ts, h1, h2⟩ := h.whole
  unfold toksOf
  rw [h1]
  exact ⟨h2, rfl⟩
/-- WHAT IS PRINTED IS READ AS WHAT IT WAS -/
theorem prog_back {rs : List Rm} (h : mayPm rs = 0) (hl : (pmT rs).length ≤ 65536) : readL ⟨(pmT rs).toArray⟩ progP = .ok rs := by
  unfold mayPm at h
  by_cases h1 : 1024 < rs.length
  · rw [if_pos h1] at h; exact absurd h (by decide)
  rw [if_neg h1] at h
  have hm := mayRs_all h
  obtain ⟨k, h2, h3⟩ := progGo_back rs 1025 0 [] (by omega) (by simp; omega) hm (toks_from (sc_pm hm))
  unfold readL
  rw [if_neg (by show ¬ 65536 < (pmT rs).length; omega)]
  exact whole_ok h2 h3
theorem rm_back {r : Rm} (h : mayRm r = 0) (hl : (rmT r).length ≤ 65536) : readL ⟨(rmT r).toArray⟩ ruleOne = .ok r := by
  have hF := toks_from (sc_rm h)
  obtain ⟨k, agg, h2, h3⟩ := rule_back (L := []) h (by rw [List.append_nil]; exact hF)
  unfold readL
  rw [if_neg (by show ¬ 65536 < (rmT r).length; omega)]
  refine whole_ok (k := k) ?_ h3
  unfold ruleOne
  rw [h2]; rfl
theorem am_back {a : Am} (h : mayAm false a = 0) (hl : (amT a).length ≤ 65536) : readL ⟨(amT a).toArray⟩ atomOne = .ok a := by
  have hF := toks_from (sc_am h)
  obtain ⟨k, agg, h2, h3⟩ := atom_back (head := false) (agg := false) (L := []) h (by simp [nxt]) (by rw [List.append_nil]; exact hF)
  unfold readL
  rw [if_neg (by show ¬ 65536 < (amT a).length; omega)]
  refine whole_ok (k := k) ?_ h3
  unfold atomOne
  rw [h2]; rfl
end Go.Proofs.YtphgglnkdfndiaaDoor
