/-
  The plain law of what predicates a program has: it does not hang on the order of its rules.
-/
import Derived.Test.YteecbbnpgmceiaaGreatDoorSKey
import Derived.Test.YteecbbnpgmceiaaGreatDoorSafeG
namespace Go.Proofs.YteecbbnpgmceiaaGreatDoor
open Go Go.RowKit Go.Mine
set_option linter.unusedVariables false

/-- no name at two numbers -/
def Fun {β : Type} (us : List (ByteArray × β)) : Prop := ∀ x ∈ us, ∀ y ∈ us, x.1 = y.1 → x.2 = y.2
theorem Fun.sub {β : Type} {us vs : List (ByteArray × β)} (h : Fun us) (hs : ∀ x ∈ vs, x ∈ us) : Fun vs := fun x hx y hy e => h x (hs x hx) y (hs y hy) e
theorem arOf_isSome (l : Ar) (x : ByteArray) : (arOf l x).isSome = true ↔ x ∈ l.map (·.1) := by
  induction l with
  | nil => simp [arOf_nil]
  | cons y l ih =>
    rw [arOf_cons, List.map_cons, List.mem_cons]
    by_cases h : y.1 = x
    · rw [if_pos h]; simp [h]
    · rw [if_neg h, ih]; simp [show ¬ x = y.1 from fun e => h e.symm]
theorem arOf_mem {l : Ar} {x : ByteArray} {n : Nat} (h : arOf l x = some n) : (x, n) ∈ l := by
  induction l with
  | nil => cases h
  | cons y l ih =>
    rw [arOf_cons] at h
    by_cases hy : y.1 = x
    · rw [if_pos hy] at h
      cases h; subst hy
      exact List.mem_cons_self
    · rw [if_neg hy] at h
      exact List.mem_cons_of_mem _ (ih h)
theorem arOf_of_mem {l : Ar} {x : ByteArray} {n : Nat} (h : (x, n) ∈ l) (hf : Fun l) : arOf l x = some n := by
  have h1 : (arOf l x).isSome = true := (arOf_isSome l x).2 (List.mem_map.2 ⟨(x, n), h, rfl⟩)
  cases ho : arOf l x with
  | none => rw [ho] at h1; cases h1
  | some m =>
    have h2 := arOf_mem ho
    have h3 : m = n := hf _ h2 _ h rfl
    rw [h3]
theorem nodup_fun {β : Type} {l : List (ByteArray × β)} (h : (l.map (·.1)).Nodup) : Fun l := by
  induction l with
  | nil => intro x hx; cases hx
  | cons a l ih =>
    rw [List.map_cons, List.nodup_cons] at h
    intro x hx y hy e
    rcases List.mem_cons.1 hx with hx | hx <;> rcases List.mem_cons.1 hy with hy | hy
    · rw [hx, hy]
    · exact (h.1 (List.mem_map.2 ⟨y, hy, by rw [← e, hx]⟩)).elim
    · exact (h.1 (List.mem_map.2 ⟨x, hx, by rw [e, hy]⟩)).elim
    · exact ih h.2 x hx y hy e
/-- what is noted: all that was there, and all that was used, no name twice -/
theorem noted_spec : ∀ (us : Ar) (L M : Ar), (L.map (·.1)).Nodup → notedL L us = some M → (M.map (·.1)).Nodup ∧ ∀ x, x ∈ M ↔ x ∈ L ∨ x ∈ us
  | [], L, M, hn, h => by
    rw [notedL] at h; cases h
    exact ⟨hn, fun x => by simp⟩
  | u :: us, L, M, hn, h => by
    rw [notedL] at h
    by_cases hf : fitsL L u = true
    · rw [if_pos hf] at h
      unfold fitsL at hf
      unfold noteL at h
      cases ho : arOf L u.1 with
      | some n =>
        rw [ho] at h hf
        simp only [decide_eq_true_eq] at h hf
        obtain ⟨h1, h2⟩ := noted_spec us L M hn h
        have hm : u ∈ L := by have := arOf_mem ho; rw [hf] at this; exact this
        refine ⟨h1, fun x => (h2 x).trans ?_⟩
        rw [List.mem_cons]
        constructor
        · rintro (h | h)
          · exact .inl h
          · exact .inr (.inr h)
        · rintro (h | rfl | h)
          · exact .inl h
          · exact .inl hm
          · exact .inr h
      | none =>
        rw [ho] at h
        simp only at h
        have hn' : ((L ++ [u]).map (·.1)).Nodup := by
          rw [List.map_append, List.nodup_append]
          refine ⟨hn, by simp, fun a ha b hb => ?_⟩
          simp only [List.map_cons, List.map_nil, List.mem_singleton] at hb
          subst hb
          intro e; subst e
          have := (arOf_isSome L u.1).2 ha
          rw [ho] at this; cases this
        obtain ⟨h1, h2⟩ := noted_spec us (L ++ [u]) M hn' h
        refine ⟨h1, fun x => (h2 x).trans ?_⟩
        rw [List.mem_append, List.mem_singleton, List.mem_cons]
        constructor
        · rintro ((h | h) | h)
          · exact .inl h
          · exact .inr (.inl h)
          · exact .inr (.inr h)
        · rintro (h | h | h)
          · exact .inl (.inl h)
          · exact .inl (.inr h)
          · exact .inr h
    · rw [if_neg hf] at h; cases h
theorem noted_fun : ∀ (us : Ar) (L : Ar), (L.map (·.1)).Nodup → Fun (L ++ us) → ∃ M, notedL L us = some M
  | [], L, _, _ => ⟨L, rfl⟩
  | u :: us, L, hn, hF => by
    have hfit : fitsL L u = true := by
      unfold fitsL
      cases ho : arOf L u.1 with
      | none => rfl
      | some n =>
        have h1 := arOf_mem ho
        have := hF (u.1, n) (by simp [h1]) u (by simp) rfl
        simpa using this
    rw [notedL, if_pos hfit]
    unfold noteL
    cases ho : arOf L u.1 with
    | some n => exact noted_fun us L hn (hF.sub (fun x hx => by simp only [List.mem_append, List.mem_cons] at hx ⊢; rcases hx with h | h <;> simp [h]))
    | none =>
      refine noted_fun us (L ++ [u]) ?_ (hF.sub (fun x hx => by simp only [List.mem_append, List.mem_cons, List.not_mem_nil, or_false] at hx ⊢; rcases hx with (h | h) | h <;> simp [h]))
      rw [List.map_append, List.nodup_append]
      refine ⟨hn, by simp, fun a ha b hb => ?_⟩
      simp only [List.map_cons, List.map_nil, List.mem_singleton] at hb
      subst hb
      intro e; subst e
      have := (arOf_isSome L u.1).2 ha
      rw [ho] at this; cases this
theorem noted_none {us : Ar} (h : notedL [] us = none) : ¬ Fun us := fun hF => by
  obtain ⟨M, hM⟩ := noted_fun us [] (by simp) (by simpa using hF)
  rw [h] at hM; cases hM
theorem noted_some {us M : Ar} (h : notedL [] us = some M) : Fun us ∧ (M.map (·.1)).Nodup ∧ ∀ x, x ∈ M ↔ x ∈ us := by
  obtain ⟨h1, h2⟩ := noted_spec us [] M (by simp) h
  have h3 : ∀ x, x ∈ M ↔ x ∈ us := fun x => (h2 x).trans (by simp)
  exact ⟨(nodup_fun h1).sub fun x hx => (h3 x).2 hx, h1, h3⟩
/-- the same uses in another order: the same names, or a clash again -/
theorem noted_same {us vs : Ar} (h : ∀ x, x ∈ us ↔ x ∈ vs) : (notedL [] us = none ∧ notedL [] vs = none) ∨ ∃ M N, notedL [] us = some M ∧ notedL [] vs = some N ∧ M.Perm N ∧ (M.map (·.1)).Nodup ∧ ∀ x, x ∈ M ↔ x ∈ us := by
  cases hu : notedL [] us with
  | none =>
    refine .inl ⟨rfl, ?_⟩
    cases hv : notedL [] vs with
    | none => rfl
    | some N => exact absurd ((noted_some hv).1.sub fun x hx => (h x).1 hx) (noted_none hu)
  | some M =>
    obtain ⟨h1, h2, h3⟩ := noted_some hu
    cases hv : notedL [] vs with
    | none => exact absurd (h1.sub fun x hx => (h x).2 hx) (noted_none hv)
    | some N =>
      obtain ⟨k1, k2, k3⟩ := noted_some hv
      have nd : ∀ {l : Ar}, (l.map (·.1)).Nodup → l.Nodup := fun {l} h => (List.pairwise_map.1 h).imp (fun hne e => hne (by rw [e]))
      exact .inr ⟨M, N, rfl, rfl, (List.perm_ext_iff_of_nodup (nd h2) (nd k2)).2 fun x => (h3 x).trans ((h x).trans (k3 x).symm), h2, h3⟩
theorem sub_len {α : Type} [DecidableEq α] : ∀ {l m : List α}, l.Nodup → (∀ x ∈ l, x ∈ m) → l.length ≤ m.length
  | [], m, _, _ => by simp
  | a :: l, m, hn, hs => by
    rw [List.nodup_cons] at hn
    have h1 : a ∈ m := hs a (by simp)
    have h2 := sub_len (l := l) (m := m.erase a) hn.2 fun x hx => (List.mem_erase_of_ne (fun e => hn.1 (by rw [← e]; exact hx))).2 (hs x (by simp [hx]))
    rw [List.length_erase_of_mem h1] at h2
    have := List.length_pos_of_mem h1
    rw [List.length_cons]; omega
/-- fewer uses: no clash, no more names -/
theorem noted_less {us vs M : Ar} (h : notedL [] us = some M) (hs : ∀ x ∈ vs, x ∈ us) : ∃ N, notedL [] vs = some N ∧ N.length ≤ M.length := by
  obtain ⟨h1, h2, h3⟩ := noted_some h
  obtain ⟨N, hN⟩ := noted_fun vs [] (by simp) (by simpa using h1.sub hs)
  obtain ⟨k1, k2, k3⟩ := noted_some hN
  have nd : ∀ {l : Ar}, (l.map (·.1)).Nodup → l.Nodup := fun {l} h => (List.pairwise_map.1 h).imp (fun hne e => hne (by rw [e]))
  exact ⟨N, hN, sub_len (nd k2) fun x hx => (h3 x).2 (hs x ((k3 x).1 hx))⟩
theorem notedL_app : ∀ (us vs L : Ar), notedL L (us ++ vs) = (notedL L us).bind fun M => notedL M vs
  | [], vs, L => rfl
  | u :: us, vs, L => by
    rw [List.cons_append, notedL, notedL]
    by_cases h : fitsL L u = true
    · rw [if_pos h, if_pos h, notedL_app us vs]
    · rw [if_neg h, if_neg h]; rfl
theorem noteL_ge (L : Ar) (x : ByteArray × Nat) : L.length ≤ (noteL L x).length := by
  unfold noteL
  split
  · omega
  · simp
theorem notedL_ge : ∀ {us L M : Ar}, notedL L us = some M → L.length ≤ M.length
  | [], L, M, h => by rw [notedL] at h; cases h; omega
  | u :: us, L, M, h => by
    rw [notedL] at h
    by_cases hf : fitsL L u = true
    · rw [if_pos hf] at h
      have := notedL_ge h
      have := noteL_ge L u
      omega
    · rw [if_neg hf] at h; cases h

/-- all uses of a program's rules -/
def usesAll (rs : List Rm) : Ar := rs.flatMap usesL
theorem usesAll_cons (r : Rm) (rs : List Rm) : usesAll (r :: rs) = usesL r ++ usesAll rs := by unfold usesAll; rw [List.flatMap_cons]
/-- is a program right? -/
def okR (r : Rm) : Prop := mayRm r = 0 ∧ (safeB r).kind = 0
theorem checkGo_ok : ∀ (rs : List Rm) (i : Nat) (L : Ar), L.length ≤ 512 → ((checkGo i L rs).2 = 0 ↔ (∀ r ∈ rs, okR r) ∧ ∃ M, notedL L (usesAll rs) = some M ∧ M.length ≤ 512)
  | [], i, L, hL => by
    rw [checkGo]
    simp only [true_iff]
    exact ⟨fun r hr => (List.not_mem_nil hr).elim, L, rfl, hL⟩
  | r :: rs, i, L, hL => by
    rw [checkGo, usesAll_cons, notedL_app]
    by_cases h1 : mayRm r = 0
    · rw [if_neg (by simpa using h1)]
      cases hn : notedL L (usesL r) with
      | none =>
        simp only [Option.bind_none]
        constructor
        · intro h; simp at h
        · rintro ⟨_, M, hM, _⟩; cases hM
      | some L' =>
        simp only [Option.bind_some]
        by_cases h2 : 512 < L'.length
        · rw [if_pos h2]
          constructor
          · intro h; simp at h
          · rintro ⟨_, M, hM, h3⟩
            have := notedL_ge hM; omega
        · rw [if_neg h2]
          by_cases h3 : (safeB r).kind = 0
          · rw [if_neg (by simpa using h3), checkGo_ok rs (i + 1) L' (by omega)]
            constructor
            · rintro ⟨h4, h5⟩
              exact ⟨fun x hx => by rcases List.mem_cons.1 hx with rfl | hx; exact ⟨h1, h3⟩; exact h4 x hx, h5⟩
            · rintro ⟨h4, h5⟩
              exact ⟨fun x hx => h4 x (by simp [hx]), h5⟩
          · rw [if_pos h3]
            constructor
            · intro h; simp at h
            · rintro ⟨h4, _⟩; exact absurd (h4 r (by simp)).2 h3
    · rw [if_pos h1]
      constructor
      · intro h; exact absurd h h1
      · rintro ⟨h4, _⟩; exact absurd (h4 r (by simp)).1 h1
theorem checkL_ok (rs : List Rm) : (checkL rs).2 = 0 ↔ rs.length ≤ 1024 ∧ (∀ r ∈ rs, okR r) ∧ ∃ M, notedL [] (usesAll rs) = some M ∧ M.length ≤ 512 := by
  unfold checkL
  by_cases h : 1024 < rs.length
  · rw [if_pos h]
    constructor
    · intro h; simp at h
    · rintro ⟨h1, _⟩; omega
  · rw [if_neg h, checkGo_ok rs 0 [] (by simp)]
    exact ⟨fun h1 => ⟨by omega, h1⟩, fun h1 => h1.2⟩
theorem usesAll_mem {rs qs : List Rm} (h : ∀ r ∈ rs, r ∈ qs) : ∀ x ∈ usesAll rs, x ∈ usesAll qs := by
  intro x hx
  obtain ⟨r, hr, h1⟩ := List.mem_flatMap.1 hx
  exact List.mem_flatMap.2 ⟨r, h r hr, h1⟩
theorem check_perm {rs qs : List Rm} (h : rs.Perm qs) : (checkL rs).2 = 0 ↔ (checkL qs).2 = 0 := by
  have hs : ∀ x, x ∈ usesAll rs ↔ x ∈ usesAll qs := fun x => ⟨usesAll_mem (fun r hr => h.mem_iff.1 hr) x, usesAll_mem (fun r hr => h.mem_iff.2 hr) x⟩
  rw [checkL_ok, checkL_ok, h.length_eq]
  have h2 : (∀ r ∈ rs, okR r) ↔ ∀ r ∈ qs, okR r := ⟨fun g r hr => g r (h.mem_iff.2 hr), fun g r hr => g r (h.mem_iff.1 hr)⟩
  rw [h2]
  rcases noted_same hs with ⟨e1, e2⟩ | ⟨M, N, e1, e2, hp, _⟩
  · rw [e1, e2]
  · rw [e1, e2]
    simp only [Option.some.injEq]
    have := hp.length_eq
    constructor
    · rintro ⟨a, b, M', rfl, c⟩; exact ⟨a, b, N, rfl, by omega⟩
    · rintro ⟨a, b, M', rfl, c⟩; exact ⟨a, b, M, rfl, by omega⟩
theorem check_less {rs qs : List Rm} (h : ∀ r ∈ qs, r ∈ rs) (hl : qs.length ≤ rs.length) (hc : (checkL rs).2 = 0) : (checkL qs).2 = 0 := by
  rw [checkL_ok] at *
  obtain ⟨h1, h2, M, h3, h4⟩ := hc
  obtain ⟨N, h5, h6⟩ := noted_less h3 (usesAll_mem h)
  exact ⟨by omega, fun r hr => h2 r (h r hr), N, h5, by omega⟩

/-- a predicate: its name, its arity, how many rules have it ahead -/
abbrev PdZ := ByteArray × Int × Nat
def cntR (rs : List Rm) (x : ByteArray) : Nat := (rs.filter fun r => decide (r.head.pred = x)).length
theorem cntR_cons (r : Rm) (rs : List Rm) (x : ByteArray) : cntR (r :: rs) x = (if r.head.pred = x then 1 else 0) + cntR rs x := by
  unfold cntR
  rw [List.filter_cons]
  by_cases h : r.head.pred = x
  · rw [if_pos (by simpa using h), if_pos h, List.length_cons]; omega
  · rw [if_neg (by simpa using h), if_neg h]; omega
theorem cntR_perm {rs qs : List Rm} (h : rs.Perm qs) (x : ByteArray) : cntR rs x = cntR qs x := (h.filter _).length_eq
def predsZ (rs : List Rm) (M : ArZ) : List PdZ := (sortN (M.map (·.1))).map fun x => (x, (arZ M x).getD 0, cntR rs x)
/-- the predicates of a program and of further names -/
def withL (rs : List Rm) (rels : ArZ) : Option (List PdZ) := (notedL [] (usesAll rs)).bind fun L => (notedZ (toZ L) rels).map fun M => predsZ rs M
theorem arZ_perm {l m : ArZ} (h : l.Perm m) (hn : (l.map (·.1)).Nodup) (x : ByteArray) : arZ l x = arZ m x := by
  have key : ∀ {l m : ArZ}, l.Perm m → (l.map (·.1)).Nodup → ∀ n, arZ l x = some n → arZ m x = some n := by
    intro l m h hn n e
    have hmem : ∀ {l : ArZ} {n : Int}, arZ l x = some n → (x, n) ∈ l := by
      intro l
      induction l with
      | nil => intro n h; cases h
      | cons y l ih =>
        intro n h
        rw [arZ_cons] at h
        by_cases hy : y.1 = x
        · rw [if_pos hy] at h
          cases h; subst hy
          exact List.mem_cons_self
        · rw [if_neg hy] at h
          exact List.mem_cons_of_mem _ (ih h)
    have h1 := h.mem_iff.1 (hmem e)
    have h2 : (arZ m x).isSome = true := (arZ_isSome m x).2 (List.mem_map.2 ⟨_, h1, rfl⟩)
    cases hm : arZ m x with
    | none => rw [hm] at h2; cases h2
    | some k =>
      have h3 := h.mem_iff.2 (hmem hm)
      have h4 := h.mem_iff.2 h1
      exact congrArg some (nodup_fun hn _ h3 _ h4 rfl)
  cases h1 : arZ l x with
  | some n => exact (key h hn n h1).symm
  | none =>
    cases h2 : arZ m x with
    | none => rfl
    | some n =>
      have h3 := key h.symm ((h.map (·.1)).nodup_iff.1 hn) n h2
      rw [h1] at h3; cases h3
theorem with_perm {rs qs : List Rm} (h : rs.Perm qs) : withL rs [] = withL qs [] := by
  have hs : ∀ x, x ∈ usesAll rs ↔ x ∈ usesAll qs := fun x => ⟨usesAll_mem (fun r hr => h.mem_iff.1 hr) x, usesAll_mem (fun r hr => h.mem_iff.2 hr) x⟩
  unfold withL
  rcases noted_same hs with ⟨e1, e2⟩ | ⟨M, N, e1, e2, hp, hn, _⟩
  · rw [e1, e2]; rfl
  · rw [e1, e2]
    simp only [Option.bind_some, notedZ, Option.map_some]
    have hpz : (toZ M).Perm (toZ N) := hp.map _
    have hnz : ((toZ M).map (·.1)).Nodup := by unfold toZ; rw [List.map_map]; exact hn
    unfold predsZ
    rw [sortN_of_perm (hpz.map (·.1))]
    congr 1
    refine List.map_congr_left fun x _ => ?_
    rw [arZ_perm hpz hnz x, cntR_perm h x]
theorem sum_ind {x : ByteArray} : ∀ {ns : List ByteArray}, ns.Nodup → ((x ∈ ns → (ns.map fun y => if x = y then 1 else 0).sum = 1) ∧ (¬ x ∈ ns → (ns.map fun y => if x = y then 1 else 0).sum = 0))
  | [], _ => ⟨fun h => (List.not_mem_nil h).elim, fun _ => rfl⟩
  | n :: ns, h => by
    rw [List.nodup_cons] at h
    rw [List.map_cons, List.sum_cons]
    obtain ⟨h1, h2⟩ := sum_ind (x := x) h.2
    by_cases hx : x = n
    · subst hx; rw [h2 h.1]; simp
    · rw [if_neg hx]
      exact ⟨fun hm => by rw [h1 (by simpa [hx] using hm)], fun hm => by rw [h2 (by simpa [hx] using hm)]⟩
theorem sum_add (f g : ByteArray → Nat) : ∀ ns : List ByteArray, (ns.map fun y => f y + g y).sum = (ns.map f).sum + (ns.map g).sum
  | [] => rfl
  | n :: ns => by
    rw [List.map_cons, List.sum_cons, List.map_cons, List.sum_cons, List.map_cons, List.sum_cons, sum_add f g ns]; omega
theorem cnt_none : ∀ ns : List ByteArray, (ns.map (cntR [])).sum = ([] : List Rm).length
  | [] => rfl
  | a :: l => by rw [List.map_cons, List.sum_cons, cnt_none l]; rfl
theorem cnt_sum {ns : List ByteArray} (hn : ns.Nodup) : ∀ (rs : List Rm), (∀ r ∈ rs, r.head.pred ∈ ns) → (ns.map (cntR rs)).sum = rs.length
  | [], _ => cnt_none ns
  | r :: rs, h => by
    have e : (ns.map (cntR (r :: rs))) = ns.map fun y => (if r.head.pred = y then 1 else 0) + cntR rs y := List.map_congr_left fun y _ => cntR_cons r rs y
    rw [e, sum_add, (sum_ind hn).1 (h r (by simp)), cnt_sum hn rs (fun q hq => h q (by simp [hq])), List.length_cons]; omega
theorem with_sum {rs : List Rm} {ps : List PdZ} (h : withL rs [] = some ps) : (ps.map (·.2.2)).sum = rs.length := by
  unfold withL at h
  cases hn : notedL [] (usesAll rs) with
  | none => rw [hn] at h; cases h
  | some L =>
    rw [hn] at h
    simp only [Option.bind_some, notedZ, Option.map_some, Option.some.injEq] at h
    subst h
    obtain ⟨_, h2, h3⟩ := noted_some hn
    have hz : ((toZ L).map (·.1)) = L.map (·.1) := by unfold toZ; rw [List.map_map]; rfl
    unfold predsZ
    rw [List.map_map, hz]
    have hp := sortN_perm (L.map (·.1))
    refine (cnt_sum (hp.nodup_iff.2 h2) rs fun r hr => hp.mem_iff.2 ?_)
    exact List.mem_map.2 ⟨(r.head.pred, r.head.terms.length), (h3 _).2 (List.mem_flatMap.2 ⟨r, hr, by rw [usesL]; simp⟩), rfl⟩
theorem with_check {rs : List Rm} (h : (checkL rs).2 = 0) : ∃ ps, withL rs [] = some ps := by
  obtain ⟨_, _, M, hM, _⟩ := (checkL_ok rs).1 h
  exact ⟨_, by unfold withL; rw [hM]; rfl⟩
theorem with_rising {rs : List Rm} {rels : ArZ} {ps : List PdZ} (h : withL rs rels = some ps) (hN : ∀ L M, notedL [] (usesAll rs) = some L → notedZ (toZ L) rels = some M → (M.map (·.1)).Nodup) : ps.Pairwise fun x y => bl x.1 < bl y.1 := by
  unfold withL at h
  cases hn : notedL [] (usesAll rs) with
  | none => rw [hn] at h; cases h
  | some L =>
    rw [hn] at h
    simp only [Option.bind_some] at h
    cases hz : notedZ (toZ L) rels with
    | none => rw [hz] at h; cases h
    | some M =>
      rw [hz] at h
      simp only [Option.map_some, Option.some.injEq] at h
      subst h
      unfold predsZ
      rw [List.pairwise_map]
      exact sortN_rising (hN L M hn hz)
theorem with_rising0 {rs : List Rm} {ps : List PdZ} (h : withL rs [] = some ps) : ps.Pairwise fun x y => bl x.1 < bl y.1 :=
  with_rising h fun L M hL hM => by
    rw [notedZ] at hM; cases hM
    unfold toZ; rw [List.map_map]
    exact (noted_some hL).2.1
end Go.Proofs.YteecbbnpgmceiaaGreatDoor
