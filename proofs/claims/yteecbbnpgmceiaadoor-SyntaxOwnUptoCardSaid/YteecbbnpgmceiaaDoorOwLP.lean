/-
  SyntaxOwn, the plain part: what is read twice is apart.
-/
import Derived.Test.YteecbbnpgmceiaaDoorOwGH
import Derived.Test.YteecbbnpgmceiaaDoorLawP
namespace Go.Proofs.YteecbbnpgmceiaaDoor
open Go Go.RowKit Go.Mine
set_option linter.unusedVariables false
set_option maxHeartbeats 1000000
set_option maxRecDepth 100000

/-- what a reader answers, and that it is new memory -/
def PSayF (w : World) (r : PR (List Rm)) (e : Ending) (w' : World) : Prop :=
  ∃ a n bs, e = .returned (.tuple #[.agg #[.slice a n n], .int .i64 (atOf r), .int .i64 (noOf r)]) ∧ RsF w' w.heap.size (.slice a n n) (valOf [] r) bs ∧ Mod (fun _ => False) w w'
def RSayF (w : World) (r : PR Rm) (e : Ending) (w' : World) : Prop :=
  ∃ a1 n1 a2 n2 b, e = .returned (.tuple #[rmV (valOf rm0 r) (.slice a1 n1 n1) (.slice a2 n2 n2), .int .i64 (atOf r), .int .i64 (noOf r)]) ∧ RF w' w.heap.size (valOf rm0 r, .slice a1 n1 n1, .slice a2 n2 n2) b ∧ (∀ c ∈ b, w.heap.size ≤ c) ∧ Mod (fun _ => False) w w'
def ASayF (w : World) (r : PR Am) (e : Ending) (w' : World) : Prop :=
  ∃ a1 n1 b, e = .returned (.tuple #[.agg #[.string (valOf am0 r).pred, .slice a1 n1 n1], .int .i64 (atOf r), .int .i64 (noOf r)]) ∧ TsF w' w.heap.size (.slice a1 n1 n1) (valOf am0 r).terms b ∧ Mod (fun _ => False) w w'
theorem clp_nil (w : World) (e : TypeId) (k : Nat) : Clp w e k none 0 [] := ⟨by simp, .inl ⟨rfl, rfl⟩⟩
theorem tsF_nil (w : World) (lo : Nat) : TsF w lo (.slice none 0 0) [] [] := ⟨none, rfl, clp_nil w _ _, rfl, by simp⟩
theorem lsF_nil (w : World) (lo : Nat) : LsF w lo (.slice none 0 0) [] [] := ⟨none, [], [], rfl, clp_nil w _ _, rfl, rfl, by simp, by simp, by simp, by simp⟩
theorem rsF_nil (w : World) (lo : Nat) : RsF w lo (.slice none 0 0) [] [] := ⟨none, [], [], rfl, clp_nil w _ _, rfl, rfl, by simp, by simp, by simp, by simp⟩
theorem parse_saysF (l : List UInt8) (n : Nat) (hl : l.length = n) (hn : n < 2 ^ 30) (a0 : Option Addr) (c0 : Nat) (w : World) (hR : Rd w a0 (bts l)) (hT : Lib.Utf8Tabs 1 2 w) :
    Calls Tryd.prog 10 #[.slice a0 n c0] w (PSayF w (progS ⟨l.toArray⟩)) := by
  subst hl
  refine (parse_any a0 c0 l w hR hT hn).mono ?_
  rintro e w' ⟨h, hM⟩
  rcases h with ⟨x, hr, he⟩ | ⟨rs, v, hr, he, a, k, rfl, bs, hf⟩
  · exact ⟨none, 0, [], by rw [hr]; exact he, by rw [hr]; exact rsF_nil w' _, hM⟩
  · exact ⟨a, k, bs, by rw [hr]; exact he, by rw [hr]; exact hf, hM⟩
theorem parseRule_saysF (l : List UInt8) (n : Nat) (hl : l.length = n) (hn : n < 2 ^ 30) (a0 : Option Addr) (c0 : Nat) (w : World) (hR : Rd w a0 (bts l)) (hT : Lib.Utf8Tabs 1 2 w) :
    Calls Tryd.prog 11 #[.slice a0 n c0] w (RSayF w (ruleS ⟨l.toArray⟩)) := by
  subst hl
  refine (parseRule_any a0 c0 l w hR hT hn).mono ?_
  rintro e w' ⟨h, hM⟩
  rcases h with ⟨x, hr, he⟩ | ⟨r, v, hr, he, p, a1, n1, a2, n2, rfl, rfl, b, hb⟩
  · exact ⟨none, 0, none, 0, [], by rw [hr]; exact he, by rw [hr]; exact ⟨[], [], tsF_nil w' _, lsF_nil w' _, rfl, by simp⟩, by simp, hM⟩
  · refine ⟨a1, n1, a2, n2, b, by rw [hr]; exact he, by rw [hr]; exact hb, ?_, hM⟩
    obtain ⟨h, l, h1, h2, rfl, _⟩ := hb
    intro c hc
    rcases List.mem_append.1 hc with hc | hc
    · obtain ⟨_, _, _, _, h4⟩ := h1; exact h4 c hc
    · exact h2.ge c hc
theorem parseAtom_saysF (l : List UInt8) (n : Nat) (hl : l.length = n) (hn : n < 2 ^ 30) (a0 : Option Addr) (c0 : Nat) (w : World) (hR : Rd w a0 (bts l)) (hT : Lib.Utf8Tabs 1 2 w) :
    Calls Tryd.prog 12 #[.slice a0 n c0] w (ASayF w (atomS ⟨l.toArray⟩)) := by
  subst hl
  refine (parseAtom_any a0 c0 l w hR hT hn).mono ?_
  rintro e w' ⟨h, hM⟩
  rcases h with ⟨x, hr, he⟩ | ⟨r, v, hr, he, p, a1, n1, rfl, rfl, b, hb⟩
  · exact ⟨none, 0, [], by rw [hr]; exact he, by rw [hr]; exact tsF_nil w' _, hM⟩
  · exact ⟨a1, n1, b, by rw [hr]; exact he, by rw [hr]; exact hb, hM⟩
/-- the blocks of lists, one by one -/
def psB (L : Ps) : List Nat := L.flatMap fun p => (blk p.1).toList
theorem psB_append (L M : Ps) : psB (L ++ M) = psB L ++ psB M := by simp [psB]
theorem mem_psB {L : Ps} {b : Nat} : b ∈ psB L ↔ inPs L b := by
  unfold psB inPs
  simp [List.mem_flatMap]
theorem psB_nd {L : Ps} (h : (psB L).Nodup) : ∀ (i j : Nat) (p q : Option Addr × Nat) (b : Nat), i < j → L[i]? = some p → L[j]? = some q → blk p.1 = some b → blk q.1 ≠ some b := by
  induction L with
  | nil => intro i j p q b _ h; simp at h
  | cons x L ih =>
    have hb : psB (x :: L) = (blk x.1).toList ++ psB L := by simp [psB]
    rw [hb, List.nodup_append] at h
    obtain ⟨_, h2, h3⟩ := h
    intro i j p q b hij hi hj hp hq
    cases j with
    | zero => omega
    | succ j =>
      cases i with
      | zero =>
        simp at hi hj
        subst hi
        exact h3 b (by simp [hp]) b (mem_psB.2 ⟨q, List.mem_of_getElem? hj, hq⟩) rfl
      | succ i =>
        simp at hi hj
        exact ih h2 i j p q b (by omega) hi hj hp hq
/-- lists are apart where their blocks are -/
theorem Apart.of {w : World} {e : TypeId} {K : Nat} {L : Ps} (h : ∀ p ∈ L, p.2 ≤ 2048 ∧ ∃ xs, Clp w e K p.1 p.2 xs) (hn : (psB L).Nodup) (hl : L.length ≤ 1000000) : Apart w e K L :=
  ⟨fun p hp => (h p hp).2, psB_nd hn, fun p hp => (h p hp).1, hl⟩
theorem apart3 {Lt Ll Lr : Ps} (h : (psB Lt ++ psB Ll ++ psB Lr).Nodup) : (psB Lt).Nodup ∧ (psB Ll).Nodup ∧ (psB Lr).Nodup ∧ (∀ b, inPs Lt b → ¬ inPs Ll b) ∧ (∀ b, inPs Lt b → ¬ inPs Lr b) ∧ (∀ b, inPs Ll b → ¬ inPs Lr b) := by
  rw [List.nodup_append, List.nodup_append] at h
  obtain ⟨⟨h1, h2, h12⟩, h3, h123⟩ := h
  refine ⟨h1, h2, h3, fun b hb hc => h12 b (mem_psB.2 hb) b (mem_psB.2 hc) rfl, fun b hb hc => h123 b (List.mem_append_left _ (mem_psB.2 hb)) b (mem_psB.2 hc) rfl, fun b hb hc => h123 b (List.mem_append_right _ (mem_psB.2 hb)) b (mem_psB.2 hc) rfl⟩
end Go.Proofs.YteecbbnpgmceiaaDoor
/-
  SyntaxOwn, the plain part: the lists of a rule that was read.
-/
namespace Go.Proofs.YteecbbnpgmceiaaDoor
open Go Go.RowKit Go.Mine
set_option linter.unusedVariables false
set_option maxHeartbeats 1000000
set_option maxRecDepth 100000

def ofV : Value → Option Addr × Nat
  | .slice a n _ => (a, n)
  | _ => (none, 0)
def qs (xs : List (Lm × Value)) : Ps := xs.map fun x => ofV x.2
theorem qs_ok {w : World} {lo : Nat} : ∀ (xs : List (Lm × Value)) (bss : List (List Nat)), xs.length = bss.length →
    (∀ (i : Nat) (x : Lm × Value) (b : List Nat), xs[i]? = some x → bss[i]? = some b → TsF w lo x.2 x.1.atom.terms b) →
    xs.map Prod.snd = psV (qs xs) ∧ psB (qs xs) = bss.flatten ∧ ∀ p ∈ qs xs, ∃ x ∈ xs, p.2 = x.1.atom.terms.length ∧ ∃ ys, Clp w 72 2 p.1 p.2 ys := by
  intro xs
  induction xs with
  | nil =>
    intro bss h _
    have : bss = [] := List.eq_nil_of_length_eq_zero (by simpa using h.symm)
    subst this
    simp [qs, psV, psB]
  | cons x xs ih =>
    intro bss h ht
    cases bss with
    | nil => simp at h
    | cons b bss =>
      obtain ⟨a, hv, hc, hb, _⟩ := ht 0 x b rfl rfl
      obtain ⟨i1, i2, i3⟩ := ih bss (by simpa using h) (fun i x b h1 h2 => ht (i + 1) x b (by simpa using h1) (by simpa using h2))
      have hq : qs (x :: xs) = (a, x.1.atom.terms.length) :: qs xs := by simp [qs, hv, ofV]
      refine ⟨?_, ?_, ?_⟩
      · rw [hq]; simp only [List.map_cons, psV, hv]; rw [i1]; rfl
      · rw [hq]; simp only [psB, List.flatMap_cons, List.flatten_cons]; rw [hb]; congr 1
      · rw [hq]
        intro p hp
        rcases List.mem_cons.1 hp with rfl | hp
        · exact ⟨x, List.mem_cons_self .., rfl, _, hc⟩
        · obtain ⟨y, hy, h1, h2⟩ := i3 p hp
          exact ⟨y, List.mem_cons_of_mem _ hy, h1, h2⟩
/-- the lists of a rule that was read -/
theorem rf_lists {w : World} {lo : Nat} {r : Rm} {s1 s2 : Value} {b : List Nat} (h : RF w lo (r, s1, s2) b) (hs : RmS r) :
    ∃ (ha ba : Option Addr) (xs : List (Lm × Value)), s1 = .slice ha r.head.terms.length r.head.terms.length ∧ s2 = .slice ba r.body.length r.body.length ∧ r.body.length = xs.length ∧ Rd w ba (lmsC xs) ∧
      xs.map Prod.snd = psV (qs xs) ∧ (∀ p ∈ [(ha, r.head.terms.length)] ++ qs xs, p.2 ≤ 2048 ∧ ∃ ys, Clp w 72 2 p.1 p.2 ys) ∧ (∃ ys, Clp w 74 8 ba r.body.length ys) ∧
      (∀ c, (psB ([(ha, r.head.terms.length)] ++ qs xs)).count c + (psB [(ba, r.body.length)]).count c = b.count c) := by
  obtain ⟨h1, l, ⟨ha, e1, hc1, hb1, _⟩, ⟨ba, xs, bss, e2, hc2, hx, hl, ht, hb2, _, _⟩, rfl, _⟩ := h
  simp only at e1 hc1 e2 hc2 hx
  obtain ⟨i1, i2, i3⟩ := qs_ok xs bss hl ht
  refine ⟨ha, ba, xs, e1, e2, ?_, hc2.rd, i1, ?_, ⟨_, hc2⟩, ?_⟩
  · have := congrArg List.length hx; simp at this; exact this.symm
  · intro p hp
    rcases List.mem_append.1 hp with hp | hp
    · simp at hp; subst hp
      exact ⟨by have := hs.1.2.1; omega, _, hc1⟩
    · obtain ⟨x, hxm, hn, hc⟩ := i3 p hp
      refine ⟨?_, hc⟩
      rw [hn]
      have := (hs.2.2 x.1 (by rw [← hx]; exact List.mem_map_of_mem hxm)).1.2.1
      omega
  · intro c
    rw [psB_append, i2, hb1, hb2]
    simp only [psB, List.flatMap_cons, List.flatMap_nil, List.append_nil, List.count_append]
    omega
/-- what was told so far: its lists are lists, and their blocks are counted -/
structure Sofar (w : World) (Lt Ll : Ps) (bs : List Nat) : Prop where
  t : ∀ p ∈ Lt, p.2 ≤ 2048 ∧ ∃ ys, Clp w 72 2 p.1 p.2 ys
  l : ∀ p ∈ Ll, p.2 ≤ 2048 ∧ ∃ ys, Clp w 74 8 p.1 p.2 ys
  c : ∀ c, (psB Lt).count c + (psB Ll).count c ≤ bs.count c
theorem Sofar.nil (w : World) : Sofar w [] [] [] := ⟨by simp, by simp, by simp [psB]⟩
theorem Sofar.mod {w w' : World} {S : Nat → Prop} {Lt Ll : Ps} {bs : List Nat} (h : Sofar w Lt Ll bs) (m : Mod S w w') (hs : ∀ b ∈ bs, ¬ S b) : Sofar w' Lt Ll bs := by
  have key : ∀ b, inPs Lt b ∨ inPs Ll b → b ∈ bs := by
    intro b hb
    have h1 := h.c b
    have : 0 < (psB Lt).count b + (psB Ll).count b := by
      rcases hb with hb | hb
      · have := List.count_pos_iff.2 (mem_psB.2 hb); omega
      · have := List.count_pos_iff.2 (mem_psB.2 hb); omega
    exact List.count_pos_iff.1 (by omega)
  refine ⟨fun p hp => ?_, fun p hp => ?_, h.c⟩
  · obtain ⟨h1, ys, h2⟩ := h.t p hp
    exact ⟨h1, ys, h2.mod m (fun b hb => hs b (key b (.inl ⟨p, hp, hb⟩)))⟩
  · obtain ⟨h1, ys, h2⟩ := h.l p hp
    exact ⟨h1, ys, h2.mod m (fun b hb => hs b (key b (.inr ⟨p, hp, hb⟩)))⟩
theorem Sofar.add {w : World} {Lt Ll Q M : Ps} {bs b : List Nat} (h : Sofar w Lt Ll bs) (ht : ∀ p ∈ Q, p.2 ≤ 2048 ∧ ∃ ys, Clp w 72 2 p.1 p.2 ys) (hl : ∀ p ∈ M, p.2 ≤ 2048 ∧ ∃ ys, Clp w 74 8 p.1 p.2 ys)
    (hc : ∀ c, (psB Q).count c + (psB M).count c ≤ b.count c) : Sofar w (Lt ++ Q) (Ll ++ M) (bs ++ b) := by
  refine ⟨fun p hp => (List.mem_append.1 hp).elim (h.t p) (ht p), fun p hp => (List.mem_append.1 hp).elim (h.l p) (hl p), fun c => ?_⟩
  have h1 := h.c c
  have h2 := hc c
  rw [psB_append, psB_append, List.count_append, List.count_append, List.count_append]
  omega
end Go.Proofs.YteecbbnpgmceiaaDoor
/-
  SyntaxOwn, the plain part: rule i of a program that was read.
-/
namespace Go.Proofs.YteecbbnpgmceiaaDoor
open Go Go.RowKit Go.Mine
set_option linter.unusedVariables false
set_option maxHeartbeats 1000000
set_option maxRecDepth 100000

theorem Sofar.mono {w : World} {Lt Ll : Ps} {bs bs' : List Nat} (h : Sofar w Lt Ll bs) (hb : ∀ c, bs.count c ≤ bs'.count c) : Sofar w Lt Ll bs' := ⟨h.t, h.l, fun c => Nat.le_trans (h.c c) (hb c)⟩
/-- the lists of a rule, whatever its world: what told_rule asks -/
structure RL (w : World) (r : Rm) (ha ba : Option Addr) (ys : List (Lm × Value)) (b : List Nat) : Prop where
  len : r.body.length = ys.length
  rd : Rd w ba (lmsC ys)
  q : ys.map Prod.snd = psV (qs ys)
  sm : r.body.length ≤ 64
  hm : r.head.terms.length ≤ 64
  t : ∀ p ∈ [(ha, r.head.terms.length)] ++ qs ys, p.2 ≤ 2048 ∧ ∃ zs, Clp w 72 2 p.1 p.2 zs
  l : ∃ zs, Clp w 74 8 ba r.body.length zs
  c : ∀ c, (psB ([(ha, r.head.terms.length)] ++ qs ys)).count c + (psB [(ba, r.body.length)]).count c = b.count c
theorem rf_rl {w : World} {lo : Nat} {r : Rm} {s1 s2 : Value} {b : List Nat} (h : RF w lo (r, s1, s2) b) (hs : RmS r) :
    ∃ ha ba ys, s1 = .slice ha r.head.terms.length r.head.terms.length ∧ s2 = .slice ba r.body.length r.body.length ∧ RL w r ha ba ys b := by
  obtain ⟨ha, ba, ys, h1, h2, h3, h4, h5, h6, h7, h8⟩ := rf_lists h hs
  exact ⟨ha, ba, ys, h1, h2, h3, h4, h5, hs.2.1, hs.1.2.1, h6, h7, h8⟩
theorem RL.mem {w : World} {r : Rm} {ha ba : Option Addr} {ys : List (Lm × Value)} {b : List Nat} (h : RL w r ha ba ys b) : ∀ c, blk ba = some c → c ∈ b := by
  intro c hc
  have h1 := h.c c
  have : 0 < (psB [(ba, r.body.length)]).count c := List.count_pos_iff.2 (mem_psB.2 ⟨_, List.mem_cons_self .., hc⟩)
  exact List.count_pos_iff.1 (by omega)
theorem RL.told {w : World} {r : Rm} {ha ba : Option Addr} {ys : List (Lm × Value)} {b bs : List Nat} {Lt Ll : Ps} (h : RL w r ha ba ys b) (hS : Sofar w Lt Ll bs) :
    Sofar w (Lt ++ [(ha, r.head.terms.length)] ++ qs ys) (Ll ++ [(ba, r.body.length)]) (bs ++ b) := by
  rw [List.append_assoc]
  refine hS.add h.t (fun p hp => ?_) (fun c => Nat.le_of_eq (h.c c))
  simp at hp
  subst hp
  exact ⟨by have := h.sm; simp only; omega, h.l⟩
theorem rs_told {w : World} {lo : Nat} {rs : List Rm} {xs : List (Rm × Value × Value)} {bss : List (List Nat)} (hx : xs.map Prod.fst = rs) (hl : xs.length = bss.length)
    (ht : ∀ (i : Nat) (x : Rm × Value × Value) (b : List Nat), xs[i]? = some x → bss[i]? = some b → RF w lo x b) (hs : ∀ r ∈ rs, RmS r) {i : Nat} (hi : i < rs.length) :
    ∃ r ha ba ys b, xs[i]? = some (r, .slice ha r.head.terms.length r.head.terms.length, .slice ba r.body.length r.body.length) ∧ bss[i]? = some b ∧ RL w r ha ba ys b := by
  have hxl : xs.length = rs.length := by rw [← hx]; simp
  obtain ⟨⟨r, s1, s2⟩, h1⟩ : ∃ x, xs[i]? = some x := ⟨_, List.getElem?_eq_getElem (by omega)⟩
  obtain ⟨b, h2⟩ : ∃ b, bss[i]? = some b := ⟨_, List.getElem?_eq_getElem (by omega)⟩
  have hr : r ∈ rs := by rw [← hx]; exact List.mem_map_of_mem (f := Prod.fst) (List.mem_of_getElem? h1)
  obtain ⟨ha, ba, ys, rfl, rfl, h⟩ := rf_rl (ht i _ b h1 h2) (hs r hr)
  exact ⟨r, ha, ba, ys, b, h1, h2, h⟩
theorem flat_take {bss : List (List Nat)} {i : Nat} {b : List Nat} (h : bss[i]? = some b) : (bss.take (i + 1)).flatten = (bss.take i).flatten ++ b := by
  rw [List.take_add_one, h]; simp
theorem flat_sub (bss : List (List Nat)) (i c : Nat) : (bss.take i).flatten.count c ≤ bss.flatten.count c := by
  have : bss.flatten = (bss.take i).flatten ++ (bss.drop i).flatten := by rw [← List.flatten_append, List.take_append_drop]
  rw [this, List.count_append]
  omega
end Go.Proofs.YteecbbnpgmceiaaDoor
/-
  SyntaxOwn, the plain part: all that was told is apart.
-/
namespace Go.Proofs.YteecbbnpgmceiaaDoor
open Go Go.RowKit Go.Mine
set_option linter.unusedVariables false
set_option maxHeartbeats 1000000
set_option maxRecDepth 100000

theorem nd_app {l m : List Nat} (k : Nat) (hl : l.Nodup) (hm : m.Nodup) (h1 : ∀ b ∈ l, b < k) (h2 : ∀ b ∈ m, k ≤ b) : (l ++ m).Nodup := by
  rw [List.nodup_append]
  refine ⟨hl, hm, fun a ha b hb e => ?_⟩
  have := h1 a ha
  have := h2 b hb
  omega
/-- lists whose blocks are counted by lists of blocks without repetition are apart -/
theorem told_nd {w : World} {Lt Ll Lr : Ps} {bs tot : List Nat} (hS : Sofar w Lt Ll bs) (hn : tot.Nodup) (hc : ∀ c, bs.count c + (psB Lr).count c ≤ tot.count c) : (psB Lt ++ psB Ll ++ psB Lr).Nodup := by
  rw [List.nodup_iff_count]
  intro c
  have h1 := hS.c c
  have h2 := hc c
  have h3 := (List.nodup_iff_count.1 hn) c
  simp only [List.count_append]
  omega
theorem told_in {w : World} {Lt Ll Lr : Ps} {bs tot : List Nat} (hS : Sofar w Lt Ll bs) (hc : ∀ c, bs.count c + (psB Lr).count c ≤ tot.count c) {b : Nat} (h : inPs Lt b ∨ inPs Ll b ∨ inPs Lr b) : b ∈ tot := by
  have h1 := hS.c b
  have h2 := hc b
  have : 0 < (psB Lt).count b + (psB Ll).count b + (psB Lr).count b := by
    rcases h with h | h | h
    · have := List.count_pos_iff.2 (mem_psB.2 h); omega
    · have := List.count_pos_iff.2 (mem_psB.2 h); omega
    · have := List.count_pos_iff.2 (mem_psB.2 h); omega
  exact List.count_pos_iff.1 (by omega)
/-- six readings, one behind the other: their blocks are apart -/
theorem six_nd {p q r s x y : List Nat} {k3 k4 k5 k6 k7 k8 k9 k10 k11 k12 k13 k14 : Nat} (hp : p.Nodup) (hq : q.Nodup) (hr : r.Nodup) (hs : s.Nodup) (hx : x.Nodup) (hy : y.Nodup)
    (p1 : ∀ b ∈ p, b < k4) (q1 : ∀ b ∈ q, k5 ≤ b ∧ b < k6) (r1 : ∀ b ∈ r, k7 ≤ b ∧ b < k8) (s1 : ∀ b ∈ s, k9 ≤ b ∧ b < k10) (x1 : ∀ b ∈ x, k11 ≤ b ∧ b < k12) (y1 : ∀ b ∈ y, k13 ≤ b)
    (h : k4 ≤ k5 ∧ k5 ≤ k6 ∧ k6 ≤ k7 ∧ k7 ≤ k8 ∧ k8 ≤ k9 ∧ k9 ≤ k10 ∧ k10 ≤ k11 ∧ k11 ≤ k12 ∧ k12 ≤ k13) : (p ++ q ++ r ++ s ++ x ++ y).Nodup := by
  have a1 : ∀ b ∈ p ++ q, b < k6 := fun b hb => (List.mem_append.1 hb).elim (fun h1 => by have := p1 b h1; omega) (fun h1 => (q1 b h1).2)
  have a2 : ∀ b ∈ p ++ q ++ r, b < k8 := fun b hb => (List.mem_append.1 hb).elim (fun h1 => by have := a1 b h1; omega) (fun h1 => (r1 b h1).2)
  have a3 : ∀ b ∈ p ++ q ++ r ++ s, b < k10 := fun b hb => (List.mem_append.1 hb).elim (fun h1 => by have := a2 b h1; omega) (fun h1 => (s1 b h1).2)
  have a4 : ∀ b ∈ p ++ q ++ r ++ s ++ x, b < k12 := fun b hb => (List.mem_append.1 hb).elim (fun h1 => by have := a3 b h1; omega) (fun h1 => (x1 b h1).2)
  refine nd_app k13 (nd_app k11 (nd_app k9 (nd_app k7 (nd_app k5 hp hq ?_ ?_) hr ?_ ?_) hs ?_ ?_) hx ?_ ?_) hy ?_ y1
  · intro b hb; have := p1 b hb; omega
  · intro b hb; exact (q1 b hb).1
  · intro b hb; have := a1 b hb; omega
  · intro b hb; exact (r1 b hb).1
  · intro b hb; have := a2 b hb; omega
  · intro b hb; exact (s1 b hb).1
  · intro b hb; have := a3 b hb; omega
  · intro b hb; exact (x1 b hb).1
  · intro b hb; have := a4 b hb; omega
end Go.Proofs.YteecbbnpgmceiaaDoor
