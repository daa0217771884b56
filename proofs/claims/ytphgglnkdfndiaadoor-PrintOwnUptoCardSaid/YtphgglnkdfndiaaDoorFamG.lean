/-
  Several things that lie in blocks of their own, side by side: what turns one of them leaves the others.
-/
import Derived.Test.YtphgglnkdfndiaaDoorOrd
import Derived.Test.YtphgglnkdfndiaaDoorNormG
namespace Go.Mine
open Go Go.RowKit
set_option linter.unusedVariables false

/-- a thing: the blocks in which it lies, and what is said of it -/
structure It where
  F : Nat → Prop
  P : World → Prop
  st : ∀ (S : Nat → Prop) (w w' : World), P w → Mod S w w' → (∀ b, F b → ¬ S b) → P w'
  lt : ∀ w, P w → ∀ b, F b → b < w.heap.size
/-- several -/
structure Fam (L : Nat) (w : World) (its : List It) : Prop where
  at_ : ∀ i ∈ its, i.P w
  dj : its.Pairwise (fun i j => ∀ b, i.F b → ¬ j.F b)
  lo : ∀ i ∈ its, ∀ b, i.F b → L ≤ b
  sz : L ≤ w.heap.size
section
variable {L : Nat} {w w' : World} {its its' l1 l2 : List It} {i i' : It}
theorem Fam.nil {w : World} (h : L ≤ w.heap.size) : Fam L w [] := ⟨(fun _ h => by cases h), .nil, (fun _ h => by cases h), h⟩
theorem Fam.mod {S : Nat → Prop} (h : Fam L w its) (m : Mod S w w') (hs : ∀ i ∈ its, ∀ b, i.F b → ¬ S b) : Fam L w' its :=
  ⟨fun i hi => i.st S w w' (h.at_ i hi) m (hs i hi), h.dj, h.lo, Nat.le_trans h.sz m.size⟩
theorem Fam.mod0 (h : Fam L w its) (m : Mod (fun _ => False) w w') : Fam L w' its := h.mod m (fun _ _ _ _ => id)
theorem Fam.lt (h : Fam L w its) (hi : i ∈ its) : ∀ b, i.F b → b < w.heap.size := i.lt w (h.at_ i hi)
theorem Fam.perm (h : Fam L w its) (p : its.Perm its') : Fam L w its' :=
  ⟨fun i hi => h.at_ i (p.mem_iff.2 hi), (p.pairwise_iff (fun {x y} hxy b hy hx => hxy b hx hy)).1 h.dj, fun i hi => h.lo i (p.mem_iff.2 hi), h.sz⟩
theorem Fam.sub (h : Fam L w its) (p : its'.Sublist its) : Fam L w its' := ⟨fun i hi => h.at_ i (p.subset hi), h.dj.sublist p, fun i hi => h.lo i (p.subset hi), h.sz⟩
theorem Fam.mono {L' : Nat} (h : Fam L w its) (hl : L' ≤ L) : Fam L' w its := ⟨h.at_, h.dj, fun i hi b hb => Nat.le_trans hl (h.lo i hi b hb), Nat.le_trans hl h.sz⟩
/-- others, in newer blocks -/
theorem Fam.append {L' : Nat} (h : Fam L w its) (m : Mod (fun _ => False) w w') (h' : Fam L' w' its') (hl : w.heap.size ≤ L') : Fam L w' (its ++ its') := by
  refine ⟨fun i hi => ?_, List.pairwise_append.2 ⟨h.dj, h'.dj, fun i hi j hj b hb hb' => ?_⟩, fun i hi b hb => ?_, Nat.le_trans h.sz m.size⟩
  · rcases List.mem_append.1 hi with hi | hi
    · exact i.st _ w w' (h.at_ i hi) m (fun _ _ => id)
    · exact h'.at_ i hi
  · have h1 := h.lt hi b hb
    have h2 := h'.lo j hj b hb'
    omega
  · rcases List.mem_append.1 hi with hi | hi
    · exact h.lo i hi b hb
    · have h1 := h'.lo i hi b hb
      have h2 := h.sz
      omega
theorem Fam.one {w : World} (h : i.P w) (hl : ∀ b, i.F b → L ≤ b) (hz : L ≤ w.heap.size) : Fam L w [i] :=
  ⟨fun j hj => by rw [List.mem_singleton] at hj; subst hj; exact h, List.pairwise_singleton _ _, fun j hj => by rw [List.mem_singleton] at hj; subst hj; exact hl, hz⟩
theorem Fam.push (h : Fam L w its) (m : Mod (fun _ => False) w w') (hi : i.P w') (hl : ∀ b, i.F b → w.heap.size ≤ b) : Fam L w' (its ++ [i]) :=
  h.append m (Fam.one hi hl m.size) (Nat.le_refl _)
theorem Fam.cons (h : Fam L w its) (m : Mod (fun _ => False) w w') (hi : i.P w') (hl : ∀ b, i.F b → w.heap.size ≤ b) : Fam L w' (i :: its) :=
  (h.push m hi hl).perm (by
    have h1 : (its ++ [i]).Perm ([i] ++ its) := List.perm_append_comm
    exact h1)
/-- one of them has turned -/
theorem Fam.upd0 (h : Fam L w (i :: its)) (m : Mod i.F w w') (hi : i'.P w') (hf : ∀ b, i'.F b → i.F b ∨ w.heap.size ≤ b) : Fam L w' (i' :: its) := by
  have hd := List.pairwise_cons.1 h.dj
  refine ⟨fun j hj => ?_, List.pairwise_cons.2 ⟨fun j hj b hb hb' => ?_, hd.2⟩, fun j hj b hb => ?_, Nat.le_trans h.sz m.size⟩
  · rcases List.mem_cons.1 hj with rfl | hj
    · exact hi
    · exact j.st _ w w' (h.at_ j (List.mem_cons_of_mem _ hj)) m (fun b hb hb' => hd.1 j hj b hb' hb)
  · rcases hf b hb with hb | hb
    · exact hd.1 j hj b hb hb'
    · have := h.lt (List.mem_cons_of_mem _ hj) b hb'
      omega
  · rcases List.mem_cons.1 hj with rfl | hj
    · rcases hf b hb with hb | hb
      · exact h.lo i (List.mem_cons_self ..) b hb
      · exact Nat.le_trans h.sz hb
    · exact h.lo j (List.mem_cons_of_mem _ hj) b hb
theorem Fam.upd (h : Fam L w (l1 ++ i :: l2)) (m : Mod i.F w w') (hi : i'.P w') (hf : ∀ b, i'.F b → i.F b ∨ w.heap.size ≤ b) : Fam L w' (l1 ++ i' :: l2) :=
  ((h.perm List.perm_middle).upd0 m hi hf).perm List.perm_middle.symm
theorem set_mid {α : Type} {l : List α} {k : Nat} (hk : k < l.length) (x : α) : l.set k x = l.take k ++ x :: l.drop (k + 1) := by
  rw [List.set_eq_take_append_cons_drop, if_pos hk]
theorem get_mid {α : Type} {l : List α} {k : Nat} (hk : k < l.length) : l = l.take k ++ l[k] :: l.drop (k + 1) := by
  rw [List.getElem_cons_drop, List.take_append_drop]
theorem Fam.set (h : Fam L w its) {k : Nat} (hk : k < its.length) (m : Mod its[k].F w w') (hi : i'.P w') (hf : ∀ b, i'.F b → its[k].F b ∨ w.heap.size ≤ b) : Fam L w' (its.set k i') := by
  rw [set_mid hk]
  have h' := h
  rw [get_mid hk] at h'
  exact h'.upd m hi hf
/-- what turns one of them turns nothing that was there at the beginning -/
theorem Fam.base (h : Fam L w its) {u : World} (hu : u.heap.size ≤ L) (m0 : Mod (fun _ => False) u w) (hi : i ∈ its) (m : Mod i.F w w') : Mod (fun _ => False) u w' :=
  m0.step m fun b hb e => by have := h.lo i hi b e; omega
/-- others of which it says less -/
theorem Fam.weak (h : Fam L w its) {f : It → It} (hp : ∀ i ∈ its, (f i).P w) (hf : ∀ i ∈ its, ∀ b, (f i).F b → i.F b) : Fam L w (its.map f) := by
  refine ⟨fun i hi => ?_, ?_, fun i hi b hb => ?_, h.sz⟩
  · obtain ⟨j, hj, rfl⟩ := List.mem_map.1 hi
    exact hp j hj
  · rw [List.pairwise_map]
    exact h.dj.imp_of_mem (fun {x y} hx hy hxy b hb hb' => hxy b (hf x hx b hb) (hf y hy b hb'))
  · obtain ⟨j, hj, rfl⟩ := List.mem_map.1 hi
    exact h.lo j hj b (hf j hj b hb)
theorem Fam.weak0 (h : Fam L w (i :: its)) (hp : i'.P w) (hf : ∀ b, i'.F b → i.F b) : Fam L w (i' :: its) :=
  h.upd0 (Mod.refl _ w) hp (fun b hb => .inl (hf b hb))
end
/-- a block that is taken -/
def pin (b : Nat) : It := ⟨fun k => k = b, fun w => b < w.heap.size, fun _ _ _ h m _ => Nat.lt_of_lt_of_le h m.size, fun _ h _ e => by subst e; exact h⟩
/-- a slice of one's own, its cells -/
def ownI (e : TypeId) (k : Nat) (a : Option Addr) (n c : Nat) (xs : List Value) : It :=
  ⟨fun b => blk a = some b, fun w => Own w e k a n c xs, fun _ _ _ h m hs => h.mod m hs, fun _ h => h.lt⟩
/-- a slice's head -/
structure Sl where
  a : Option Addr
  n : Nat
  c : Nat
def Sl.val (s : Sl) : Value := .slice s.a s.n s.c
def Sl.nil : Sl := ⟨none, 0, 0⟩
/-- a slice of one's own of whose cells something is said -/
def slI (e : TypeId) (k : Nat) (s : Sl) (Q : List Value → Prop) : It :=
  ⟨fun b => blk s.a = some b, fun w => ∃ xs, Own w e k s.a s.n s.c xs ∧ Q xs, fun _ _ _ ⟨xs, h, q⟩ m hs => ⟨xs, h.mod m hs, q⟩, fun _ ⟨_, h, _⟩ => h.lt⟩
/-- a rule's lists -/
structure RD where
  s : Sl
  b : Sl
  ats : List Sl
def bQ (ats : List Sl) (xs : List Value) : Prop := ∀ n t, ats[n]? = some t → xs[n * 8 + 2]? = some t.val
def uQ (ds : List RD) (xs : List Value) : Prop := ∀ n d, ds[n]? = some d → (∃ p, xs[n * 3]? = some (.string p)) ∧ xs[n * 3 + 1]? = some d.s.val ∧ xs[n * 3 + 2]? = some d.b.val
structure RD.Ok (d : RD) : Prop where
  s : d.s.n ≤ 64
  b : d.b.n ≤ 64
  len : d.ats.length = d.b.n
  ats : ∀ t ∈ d.ats, t.n ≤ 64
end Go.Mine
namespace Go.Proofs.YtphgglnkdfndiaaDoor
open Go Go.RowKit Go.Mine
set_option linter.unusedVariables false
def tE (s : Sl) : It := slI 42 2 s (fun _ => True)
def bE (b : Sl) (ats : List Sl) : It := slI 44 8 b (bQ ats)
def uE (u : Sl) (ds : List RD) : It := slI 38 3 u (uQ ds)
def rIts (d : RD) : List It := tE d.s :: bE d.b d.ats :: d.ats.map tE
/-- a rule's lists, each in a block of its own -/
def RuO (w : World) (L : Nat) (d : RD) : Prop := d.Ok ∧ Fam L w (rIts d)
/-- a program's -/
structure PrO (w : World) (L : Nat) (u : Sl) (ds : List RD) : Prop where
  ok : ∀ d ∈ ds, d.Ok
  len : ds.length = u.n
  few : u.n ≤ 1024
  fam : Fam L w (uE u ds :: ds.flatMap rIts)
theorem RuO.em {w : World} {L : Nat} (h : L ≤ w.heap.size) : RuO w L ⟨Sl.nil, Sl.nil, []⟩ := by
  refine ⟨⟨by decide, by decide, rfl, fun _ h => by cases h⟩, ?_⟩
  refine (Fam.one (i := tE Sl.nil) ⟨[], Mine.Own.nil _ _ _, trivial⟩ (fun b hb => by cases hb) h).append (Mod.refl _ w) (Fam.one (i := bE Sl.nil []) ⟨[], Mine.Own.nil _ _ _, fun n t h => by simp at h⟩ (fun b hb => by cases hb) (Nat.le_refl _)) (Nat.le_refl _)
theorem PrO.em {w : World} {L : Nat} (h : L ≤ w.heap.size) : PrO w L Sl.nil [] :=
  ⟨(fun _ h => by cases h), rfl, by decide, Fam.one (i := uE Sl.nil []) ⟨[], Mine.Own.nil _ _ _, fun n t h => by simp at h⟩ (fun b hb => by cases hb) h⟩
theorem PrO.mod0 {w w' : World} {L : Nat} {u : Sl} {ds : List RD} (h : PrO w L u ds) (m : Mod (fun _ => False) w w') : PrO w' L u ds := ⟨h.ok, h.len, h.few, h.fam.mod0 m⟩
end Go.Proofs.YtphgglnkdfndiaaDoor
/-
  What a normal form is made of lies in blocks of its own.
-/
namespace Go.Mine
open Go Go.RowKit
set_option linter.unusedVariables false
theorem Fam.snoc {L : Nat} {w : World} {its : List It} {j : It} (h : Fam L w its) (hj : j.P w) (hd : ∀ i ∈ its, ∀ b, i.F b → ¬ j.F b) (hl : ∀ b, j.F b → L ≤ b) : Fam L w (its ++ [j]) := by
  refine ⟨fun i hi => ?_, List.pairwise_append.2 ⟨h.dj, List.pairwise_singleton _ _, fun i hi k hk => ?_⟩, fun i hi => ?_, h.sz⟩
  · rcases List.mem_append.1 hi with hi | hi
    · exact h.at_ i hi
    · rw [List.mem_singleton] at hi; subst hi; exact hj
  · rw [List.mem_singleton] at hk; subst hk; exact hd i hi
  · rcases List.mem_append.1 hi with hi | hi
    · exact h.lo i hi
    · rw [List.mem_singleton] at hi; subst hi; exact hl
end Go.Mine
namespace Go.Proofs.YtphgglnkdfndiaaDoor
open Go Go.RowKit Go.Mine
set_option linter.unusedVariables false
/-- the walk's state: the names' block, the rule's, the head's terms, the literals, their terms -/
def NF (L : Nat) (w : World) (B go : Nat) (sh : Sl) (al : Option Addr) (k cl : Nat) (xs : List (Lm × Value)) : Prop :=
  ∃ ats : List Sl, xs.map Prod.snd = ats.map Sl.val ∧ (∀ t ∈ ats, t.n ≤ 64) ∧ Fam L w (pin B :: pin go :: tE sh :: ownI 44 8 al k cl (lmsC xs) :: ats.map tE)
section
variable {L : Nat} {w w' : World} {B go : Nat} {sh : Sl} {al : Option Addr} {k cl : Nat} {xs : List (Lm × Value)}
theorem NF.start (hB : L ≤ B) (hg : B < go) (hgo : go < w.heap.size) (hs : (tE sh).P w) (hf : ∀ b, blk sh.a = some b → B < b ∧ b ≠ go) : NF L w B go sh none 0 0 [] := by
  refine ⟨[], rfl, (fun _ h => by cases h), ?_⟩
  refine ⟨fun i hi => ?_, ?_, fun i hi b hb => ?_, by omega⟩
  · simp at hi
    rcases hi with rfl | rfl | rfl | rfl
    · show B < w.heap.size; omega
    · exact hgo
    · exact hs
    · exact Mine.Own.nil _ _ _
  · simp only [List.map_nil, List.pairwise_cons, List.mem_cons, List.not_mem_nil, or_false]
    refine ⟨fun j hj b hb hb' => ?_, fun j hj b hb hb' => ?_, fun j hj b hb hb' => ?_, fun _ h => h.elim, .nil⟩
    · have hb : b = B := hb
      rcases hj with rfl | rfl | rfl
      · have hb' : b = go := hb'; omega
      · have := (hf b hb').1; omega
      · cases hb'
    · have hb : b = go := hb
      rcases hj with rfl | rfl
      · exact (hf b hb').2 hb
      · cases hb'
    · subst hj; cases hb'
  · simp at hi
    rcases hi with rfl | rfl | rfl | rfl
    · have hb : b = B := hb; omega
    · have hb : b = go := hb; omega
    · have := (hf b hb).1; omega
    · cases hb
theorem NF.named (h : NF L w B go sh al k cl xs) (m : Mod (fun b => b = B) w w') : NF L w' B go sh al k cl xs := by
  obtain ⟨ats, h1, h2, h3⟩ := h
  exact ⟨ats, h1, h2, h3.upd0 m (Nat.lt_of_lt_of_le (h3.at_ _ (List.mem_cons_self ..)) m.size) (fun b hb => .inl hb)⟩
theorem NF.mod0 (h : NF L w B go sh al k cl xs) (m : Mod (fun _ => False) w w') : NF L w' B go sh al k cl xs := h.named (m.mono fun _ _ f => f.elim)
theorem NF.push {u w4 : World} {al' : Option Addr} {cl' : Nat} {x : Lm} {t : Sl} {v : Value} (h : NF L w B go sh al k cl xs) (m : Mod (fun b => b = B) w u) (ht : (tE t).P u) (hf : ∀ b, blk t.a = some b → w.heap.size ≤ b) (hn : t.n ≤ 64)
    (hO : Mine.Own w4 44 8 al' (k + 1) cl' (lmsC xs ++ lmC (x, t.val))) (hG : Grow u al w4 al') : NF L (w4.setCell ⟨go, 2, none⟩ v) B go sh al' (k + 1) cl' (xs ++ [(x, t.val)]) := by
  have hu := h.named m
  obtain ⟨ats, h1, h2, h3⟩ := h
  obtain ⟨ats', h1', _, h3'⟩ := hu
  have e : ats' = ats := by
    have h4 := h1'.symm.trans h1
    have inj : ∀ {l m : List Sl}, l.map Sl.val = m.map Sl.val → l = m := by
      intro l
      induction l with
      | nil => intro m h; cases m with | nil => rfl | cons _ _ => cases h
      | cons a l ih =>
        intro m h
        cases m with
        | nil => cases h
        | cons b m =>
          rw [List.map_cons, List.map_cons] at h
          obtain ⟨a1, a2, a3⟩ := a
          obtain ⟨b1, b2, b3⟩ := b
          injection h with e1 e2
          injection e1 with e3 e4 e5
          subst e3 e4 e5
          rw [ih e2]
    exact inj h4
  subst e
  refine ⟨ats' ++ [t], by rw [List.map_append, List.map_append, h1']; rfl, fun s hs => ?_, ?_⟩
  · rcases List.mem_append.1 hs with hs | hs
    · exact h2 s hs
    · rw [List.mem_singleton] at hs; subst hs; exact hn
  have hL := h3.sz
  have hsn : Fam L u ((pin B :: pin go :: tE sh :: ownI 44 8 al k cl (lmsC xs) :: ats'.map tE) ++ [tE t]) :=
    h3'.snoc ht (fun i hi b hb hb' => by have := h3.lt hi b hb; have := hf b hb'; omega) (fun b hb => by have := hf b hb; omega)
  have p1 : List.Perm ((pin B :: pin go :: tE sh :: ownI 44 8 al k cl (lmsC xs) :: ats'.map tE) ++ [tE t]) (ownI 44 8 al k cl (lmsC xs) :: pin B :: pin go :: tE sh :: (ats' ++ [t]).map tE) := by
    rw [List.map_append]
    exact (List.perm_middle (l₁ := [pin B, pin go, tE sh]) (l₂ := ats'.map tE ++ [tE t]) (a := ownI 44 8 al k cl (lmsC xs)))
  have h5 := (hsn.perm p1).upd0 (i' := ownI 44 8 al' (k + 1) cl' (lmsC (xs ++ [(x, t.val)]))) hG.mod (by rw [lmsC_append]; exact hO) (fun b hb => by
    rcases hG.pos with e | ⟨g, e, hg⟩
    · exact .inl (by show blk al = some b; rw [← e]; exact hb)
    · have hb : blk al' = some b := hb
      rw [e] at hb; cases hb; exact .inr hg)
  have p2 : List.Perm (ownI 44 8 al' (k + 1) cl' (lmsC (xs ++ [(x, t.val)])) :: pin B :: pin go :: tE sh :: (ats' ++ [t]).map tE) (pin go :: ownI 44 8 al' (k + 1) cl' (lmsC (xs ++ [(x, t.val)])) :: pin B :: tE sh :: (ats' ++ [t]).map tE) :=
    List.perm_middle (l₁ := [ownI 44 8 al' (k + 1) cl' (lmsC (xs ++ [(x, t.val)])), pin B])
  have h6 := (h5.perm p2).upd0 (i' := pin go) ((Mod.refl (fun b => b = go) w4).setCell (p := ⟨go, 2, none⟩) (fun _ => rfl) v) (by
    have := (h5.perm p2).at_ _ (List.mem_cons_self ..)
    show go < _
    have h7 : go < w4.heap.size := this
    simpa [World.setCell] using h7) (fun b hb => .inl hb)
  refine h6.perm ?_
  refine List.Perm.trans ?_ (List.Perm.swap _ _ _)
  refine List.Perm.cons _ ?_
  refine List.Perm.trans (List.Perm.swap _ _ _) ?_
  exact List.Perm.cons _ (List.Perm.swap _ _ _)
theorem lms_two {xs : List (Lm × Value)} {ats : List Sl} (h : xs.map Prod.snd = ats.map Sl.val) : bQ ats (lmsC xs) := by
  intro n t ht
  have h1 : (xs.map Prod.snd)[n]? = some t.val := by rw [h, List.getElem?_map, ht]; rfl
  rw [List.getElem?_map] at h1
  obtain ⟨x, hx, e⟩ : ∃ x, xs[n]? = some x ∧ x.2 = t.val := by
    cases hh : xs[n]? with
    | none => rw [hh] at h1; cases h1
    | some x => rw [hh] at h1; exact ⟨x, rfl, Option.some.inj h1⟩
  have h2 := flat_get (f := lmC) (j := 2) lmC_length hx (by omega)
  show (xs.flatMap lmC)[n * 8 + 2]? = _
  rw [h2, ← e]
  rfl
theorem NF.fin (h : NF L w B go sh al k cl xs) (hs : sh.n ≤ 64) (hk : k ≤ 64) : ∃ d : RD, sh = d.s ∧ d.b = ⟨al, k, cl⟩ ∧ RuO w L d := by
  obtain ⟨ats, h1, h2, h3⟩ := h
  have h4 := (h3.sub (List.sublist_cons_self ..)).sub (List.sublist_cons_self ..)
  have hO : Mine.Own w 44 8 al k cl (lmsC xs) := h4.at_ (ownI 44 8 al k cl (lmsC xs)) (by simp)
  have hl : ats.length = k := by
    have e1 := congrArg List.length h1
    have e2 := hO.1
    rw [lmsC_length] at e2
    simp at e1
    omega
  refine ⟨⟨sh, ⟨al, k, cl⟩, ats⟩, rfl, rfl, ⟨hs, hk, hl, h2⟩, ?_⟩
  have p : List.Perm (tE sh :: ownI 44 8 al k cl (lmsC xs) :: ats.map tE) (ownI 44 8 al k cl (lmsC xs) :: tE sh :: ats.map tE) := List.Perm.swap _ _ _
  exact ((h4.perm p).weak0 (i' := bE ⟨al, k, cl⟩ ats) ⟨_, hO, lms_two h1⟩ (fun _ hb => hb)).perm (List.Perm.swap _ _ _)
end
end Go.Proofs.YtphgglnkdfndiaaDoor
