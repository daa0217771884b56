/-
  The plain law of renaming: a normal form is its own; names of one's own make no difference.
-/
import Derived.Test.YtphgglnkdfndiaaDoorNormG
namespace Go.Proofs.YtphgglnkdfndiaaDoor
open Go Go.RowKit Go.Mine
set_option linter.unusedVariables false
set_option maxRecDepth 100000

section
variable {s : ByteArray}
/-- letters and digits are a word -/
theorem Word_of {k : Nat} (h0 : 0 < s.size) (hl : ∀ (j : Nat) (h : j < s.size), s[j].toNat < 128 ∧ isPart s[j].toNat = true) (hk : kindR s[0].toNat = k) (hk0 : k ≠ 0) : Word s = k := by
  have hp : ∀ j, j < s.size → partL s j = 1 := fun j hj => by
    have := hl j hj
    unfold partL
    rw [decode_ascii s j hj this.1, if_pos ⟨hj, this.2⟩]
  have key : ∀ (n j f : Nat), j + n = s.size → n ≤ f → endL s f j = s.size := by
    intro n
    induction n with
    | zero =>
      intro j f h2 _
      rw [endL_stop (by unfold partL; rw [if_neg (by omega)])]
      omega
    | succ n ih =>
      intro j f h2 h3
      obtain ⟨f', rfl⟩ : ∃ f', f = f' + 1 := ⟨f - 1, by omega⟩
      rw [endL, hp j (by omega), if_neg (by decide)]
      exact ih (j + 1) f' (by omega) (by omega)
  have hkd : kindL s 0 = k := by
    unfold kindL
    rw [if_pos h0, decode_ascii s 0 h0 (hl 0 h0).1, hk]
  unfold Word wordL
  rw [hkd, if_neg hk0, key s.size 0 s.size (by omega) (Nat.le_refl _)]
  simp
end
theorem Word_list {c : UInt8} {l : List UInt8} {k : Nat} (hl : ∀ x ∈ c :: l, x.toNat < 128 ∧ isPart x.toNat = true) (hk : kindR c.toNat = k) (hk0 : k ≠ 0) : Word ⟨(c :: l).toArray⟩ = k := by
  refine Word_of (s := ⟨(c :: l).toArray⟩) (by show 0 < (c :: l).toArray.size; simp) (fun j hj => ?_) ?_ hk0
  · have hj' : j < (c :: l).length := hj
    have e : (⟨(c :: l).toArray⟩ : ByteArray)[j] = (c :: l)[j] := rfl
    rw [e]
    exact hl _ (List.getElem_mem hj')
  · exact hk

/-- a name of one's own: letters for its bytes -/
def nmG (c : UInt8) : List UInt8 := [97 + c / 16, 97 + c % 16]
def nameL (l : List UInt8) : List UInt8 := 90 :: l.flatMap nmG
def nameB (s : ByteArray) : ByteArray := ⟨(nameL s.data.toList).toArray⟩
theorem nmG_part (c : UInt8) : ∀ x ∈ nmG c, x.toNat < 128 ∧ isPart x.toNat = true := by
  have h : ∀ n : Fin 256, (nmG (UInt8.ofNat n.1)).all (fun x => decide (x.toNat < 128) && isPart x.toNat) = true := by decide +kernel
  have := h ⟨c.toNat, c.toNat_lt⟩
  simp only [UInt8.ofNat_toNat] at this
  intro x hx
  have := List.all_eq_true.1 this x hx
  simpa using this
theorem nmG_inj {c d : UInt8} {l m : List UInt8} (h : nmG c ++ l = nmG d ++ m) : c = d ∧ l = m := by
  have hh : ∀ n : Fin 256, ((97 + (UInt8.ofNat n.1) / 16 : UInt8) - 97) * 16 + ((97 + (UInt8.ofNat n.1) % 16 : UInt8) - 97) = UInt8.ofNat n.1 := by decide +kernel
  have hc := hh ⟨c.toNat, c.toNat_lt⟩
  have hd := hh ⟨d.toNat, d.toNat_lt⟩
  simp only [UInt8.ofNat_toNat] at hc hd
  unfold nmG at h
  simp only [List.cons_append, List.nil_append, List.cons.injEq] at h
  exact ⟨by rw [← hc, ← hd, h.1, h.2.1], h.2.2⟩
theorem nmGs_inj : ∀ {l m : List UInt8}, l.flatMap nmG = m.flatMap nmG → l = m
  | [], [], _ => rfl
  | [], d :: m, h => by simp [nmG] at h
  | c :: l, [], h => by simp [nmG] at h
  | c :: l, d :: m, h => by
    rw [List.flatMap_cons, List.flatMap_cons] at h
    obtain ⟨rfl, h2⟩ := nmG_inj h
    rw [nmGs_inj h2]
theorem nameB_inj {x y : ByteArray} (h : nameB x = nameB y) : x = y := by
  have := congrArg (fun b : ByteArray => b.data.toList) h
  simp only [nameB, nameL, List.cons.injEq, true_and] at this
  exact ByteArray.ext (Array.ext' (nmGs_inj this))
theorem nameB_word (x : ByteArray) : Word (nameB x) = 2 ∧ nameB x ≠ blankB := by
  refine ⟨Word_list (fun c hc => ?_) (by decide) (by decide), fun h => ?_⟩
  · rcases List.mem_cons.1 hc with rfl | hc
    · decide
    · obtain ⟨d, _, hd⟩ := List.mem_flatMap.1 hc
      exact nmG_part d c hd
  · have := congrArg (fun b : ByteArray => b.data.toList) h
    simp [nameB, nameL, blankB] at this
theorem nameL_len (l : List UInt8) : (nameL l).length = 2 * l.length + 1 := by
  unfold nameL
  rw [List.length_cons]
  congr 1
  induction l with
  | nil => rfl
  | cons c l ih => rw [List.flatMap_cons, List.length_append, ih, List.length_cons]; show 2 + _ = _; omega

/-- digits -/
def decV (l : List UInt8) : Nat := l.foldl (fun a c => a * 10 + (c.toNat - 48)) 0
theorem decD_one (d : Nat) (h : d < 10) : (UInt8.ofNat (48 + d)).toNat = 48 + d := by
  rw [UInt8.toNat_ofNat', Nat.mod_eq_of_lt (by omega)]
theorem decV_dec (n : Nat) : decV (Lib.decDigits n) = n := by
  induction n using Nat.strongRecOn with
  | _ n ih =>
    rw [Lib.decDigits]
    split
    · rename_i h
      show 0 * 10 + ((UInt8.ofNat (48 + n)).toNat - 48) = n
      rw [decD_one n h]; omega
    · rename_i h
      have h2 := ih (n / 10) (by omega)
      unfold decV at h2 ⊢
      rw [List.foldl_append, h2]
      show n / 10 * 10 + ((UInt8.ofNat (48 + n % 10)).toNat - 48) = n
      rw [decD_one _ (by omega)]; omega
theorem dec_part (n : Nat) : ∀ c ∈ Lib.decDigits n, c.toNat < 128 ∧ isPart c.toNat = true := by
  have hd : ∀ d, d < 10 → (UInt8.ofNat (48 + d)).toNat < 128 ∧ isPart (UInt8.ofNat (48 + d)).toNat = true := fun d hd => by
    rw [decD_one d hd]
    refine ⟨by omega, ?_⟩
    have : digitL (48 + d) = true := by unfold digitL; simp; omega
    unfold isPart
    rw [this]; simp
  induction n using Nat.strongRecOn with
  | _ n ih =>
    intro c hc
    rw [Lib.decDigits] at hc
    split at hc
    · rename_i h
      simp only [List.mem_cons, List.not_mem_nil, or_false] at hc
      subst hc
      exact hd n h
    · rcases List.mem_append.1 hc with hc | hc
      · exact ih (n / 10) (by omega) c hc
      · simp only [List.mem_cons, List.not_mem_nil, or_false] at hc
        subst hc
        exact hd _ (by omega)
theorem dec_few : ∀ (k n : Nat), n < 10 ^ (k + 1) → (Lib.decDigits n).length ≤ k + 1
  | 0, n, h => by rw [Lib.decDigits, dif_pos (by simpa using h)]; simp
  | k + 1, n, h => by
    rw [Lib.decDigits]
    split
    · simp
    · have := dec_few k (n / 10) (by rw [Nat.pow_succ] at h; omega)
      rw [List.length_append]
      simp only [List.length_cons, List.length_nil]
      omega
theorem vN_inj {a b : Nat} (h : vN a = vN b) : a = b := by
  have := congrArg (fun b : ByteArray => b.data.toList) h
  simp only [vN, List.cons.injEq, true_and] at this
  rw [← decV_dec a, ← decV_dec b, this]
theorem vN_word (n : Nat) : Word (vN n) = 2 ∧ vN n ≠ blankB := by
  refine ⟨Word_list (fun c hc => ?_) (by decide) (by decide), fun h => ?_⟩
  · rcases List.mem_cons.1 hc with rfl | hc
    · decide
    · exact dec_part n c hc
  · have := congrArg (fun b : ByteArray => b.data.toList) h
    simp [vN, blankB] at this
theorem vN_len (n : Nat) (h : n < 100000) : (vN n).size ≤ 4096 := by
  have h1 : (vN n).size = (Lib.decDigits n).length + 1 := by unfold vN; show (86 :: Lib.decDigits n).toArray.size = _; simp
  have := dec_few 4 n (by omega)
  omega

/-- renamed -/
def rnG (f : ByteArray → ByteArray) (t : Tm) : Tm := if t.kind = 1 ∨ (5 ≤ t.kind ∧ t.kind ≤ 7) then ⟨t.kind, f t.text⟩ else t
def rnAm (f : ByteArray → ByteArray) (a : Am) : Am := ⟨a.pred, a.terms.map (rnG f)⟩
def rnLm (f : ByteArray → ByteArray) (l : Lm) : Lm := ⟨l.kind, rnAm f l.atom, l.op, rnG f l.left, rnG f l.right⟩
def rnRm (f : ByteArray → ByteArray) (r : Rm) : Rm := ⟨rnAm f r.head, r.body.map (rnLm f)⟩
section
variable {f : ByteArray → ByteArray} {L : List ByteArray}
theorem rnG_kind (t : Tm) : (rnG f t).kind = t.kind := by unfold rnG; split <;> rfl
theorem rnG_as {t : Tm} (h : asIs t.kind ∨ t.kind = 0) : rnG f t = t := by
  unfold rnG asIs at *
  rw [if_neg (by omega)]
theorem rnG_var {t : Tm} (h : ¬ asIs t.kind) (h1 : 1 ≤ t.kind) (h7 : t.kind ≤ 7) : rnG f t = ⟨t.kind, f t.text⟩ := by
  unfold rnG asIs at *
  rw [if_pos (by omega)]
def VarIn (L : List ByteArray) (t : Tm) : Prop := ¬ asIs t.kind → t.text ∈ L
theorem place_map (hi : ∀ x ∈ L, ∀ y ∈ L, f x = f y → x = y) {x : ByteArray} (hx : x ∈ L) : ∀ {ns : List ByteArray}, (∀ y ∈ ns, y ∈ L) → place (f x) (ns.map f) = place x ns
  | [], _ => rfl
  | y :: ns, h => by
    show (if f y = f x then 0 else place (f x) (ns.map f) + 1) = (if y = x then 0 else place x ns + 1)
    rw [place_map hi hx (fun z hz => h z (List.mem_cons_of_mem _ hz))]
    by_cases he : y = x
    · rw [if_pos he, if_pos (by rw [he])]
    · rw [if_neg he, if_neg (fun e => he (hi _ (h y (List.mem_cons_self ..)) _ hx e))]
theorem more_map (hi : ∀ x ∈ L, ∀ y ∈ L, f x = f y → x = y) {x : ByteArray} (hx : x ∈ L) {ns : List ByteArray} (hn : ∀ y ∈ ns, y ∈ L) : more (ns.map f) (f x) = (more ns x).map f := by
  unfold more
  rw [place_map hi hx hn, List.length_map]
  split
  · rfl
  · simp
theorem more_sub {x : ByteArray} (hx : x ∈ L) {ns : List ByteArray} (hn : ∀ y ∈ ns, y ∈ L) : ∀ y ∈ more ns x, y ∈ L := by
  intro y hy
  unfold more at hy
  split at hy
  · exact hn y hy
  · rcases List.mem_append.1 hy with hy | hy
    · exact hn y hy
    · simp at hy; rw [hy]; exact hx
theorem nmTm_ren (hi : ∀ x ∈ L, ∀ y ∈ L, f x = f y → x = y) {t : Tm} (h1 : 1 ≤ t.kind) (h7 : t.kind ≤ 7) (hv : VarIn L t) {ns : List ByteArray} (hn : ∀ y ∈ ns, y ∈ L) :
    nmTm (ns.map f) (rnG f t) = ((nmTm ns t).1, (nmTm ns t).2.map f) ∧ ∀ y ∈ (nmTm ns t).2, y ∈ L := by
  unfold nmTm
  rw [rnG_kind]
  by_cases ha : asIs t.kind
  · rw [if_pos ha, if_pos ha, rnG_as (.inl ha)]
    exact ⟨rfl, hn⟩
  · have hx := hv ha
    rw [if_neg ha, if_neg ha, rnG_var ha h1 h7]
    simp only
    rw [more_map hi hx hn, place_map hi hx (more_sub hx hn)]
    exact ⟨rfl, more_sub hx hn⟩
theorem nmTs_ren (hi : ∀ x ∈ L, ∀ y ∈ L, f x = f y → x = y) : ∀ (ts : List Tm) (ns : List ByteArray), (∀ t ∈ ts, OkTm t) → (∀ t ∈ ts, VarIn L t) → (∀ y ∈ ns, y ∈ L) →
    nmTs (ns.map f) (ts.map (rnG f)) = ((nmTs ns ts).1, (nmTs ns ts).2.map f) ∧ ∀ y ∈ (nmTs ns ts).2, y ∈ L
  | [], ns, _, _, hn => ⟨rfl, hn⟩
  | t :: ts, ns, ho, hv, hn => by
    have ht := ho t (List.mem_cons_self ..)
    obtain ⟨e1, h1⟩ := nmTm_ren hi ht.lo ht.hi (hv t (List.mem_cons_self ..)) hn
    obtain ⟨e2, h2⟩ := nmTs_ren hi ts (nmTm ns t).2 (fun x hx => ho x (List.mem_cons_of_mem _ hx)) (fun x hx => hv x (List.mem_cons_of_mem _ hx)) h1
    refine ⟨?_, h2⟩
    rw [List.map_cons]
    simp only [nmTs]
    rw [e1]
    simp only
    rw [e2]
/-- what a literal that may be is -/
theorem may_lit {l : Lm} (h : mayLm l = 0) : (l.kind ≠ 3 ∧ (∀ t ∈ l.atom.terms, OkTm t) ∧ l.left.kind = 0 ∧ l.right.kind = 0 ∧ (l.kind = 1 ∨ l.kind = 2) ∧ bareL l ∧ mayAm false l.atom = 0) ∨
    (l.kind = 3 ∧ l.atom.pred = emptyB ∧ l.atom.terms = [] ∧ OkTm l.left ∧ OkTm l.right) := by
  have h0 := h
  unfold mayLm at h
  by_cases hb : (l.kind = 1 ∨ l.kind = 2) ∧ bareL l
  · rw [if_pos hb] at h
    exact .inl ⟨by omega, (okAm h).all, hb.2.2.1.1, hb.2.2.2.1, hb.1, hb.2, h⟩
  · rw [if_neg hb] at h
    by_cases h2 : l.kind ≠ 3 ∨ ¬ noneL l ∨ l.op < 1 ∨ 4 < l.op
    · rw [if_pos h2] at h; exact absurd h (by decide)
    rw [if_neg h2] at h
    have hk : l.kind = 3 := by
      by_cases h3 : l.kind = 3
      · exact h3
      · exact absurd (.inl h3) h2
    obtain ⟨p1, p2⟩ := may_none h0 hk
    split at h
    · exact absurd h (by decide)
    split at h
    · rename_i hc; exact absurd h hc
    rename_i hc
    split at h
    · exact absurd h (by decide)
    · exact .inr ⟨hk, p1, p2, okTm (by simpa using hc), okTm h⟩
def VarLm (L : List ByteArray) (l : Lm) : Prop := (∀ t ∈ l.atom.terms, VarIn L t) ∧ (l.kind = 3 → VarIn L l.left ∧ VarIn L l.right)
theorem nmLm_ren (hi : ∀ x ∈ L, ∀ y ∈ L, f x = f y → x = y) {l : Lm} (hm : mayLm l = 0) (hv : VarLm L l) {ns : List ByteArray} (hn : ∀ y ∈ ns, y ∈ L) :
    nmLm (ns.map f) (rnLm f l) = ((nmLm ns l).1, (nmLm ns l).2.map f) ∧ ∀ y ∈ (nmLm ns l).2, y ∈ L := by
  unfold nmLm
  rcases may_lit hm with ⟨hk, ho, hl, hr, _⟩ | ⟨hk, _, _, hl, hr⟩
  · rw [if_neg hk, if_neg (show ¬ (rnLm f l).kind = 3 from hk)]
    obtain ⟨e1, h1⟩ := nmTs_ren hi l.atom.terms ns ho hv.1 hn
    refine ⟨?_, h1⟩
    unfold rnLm rnAm
    simp only
    rw [e1, rnG_as (.inr hl), rnG_as (.inr hr)]
  · rw [if_pos hk, if_pos (show (rnLm f l).kind = 3 from hk)]
    obtain ⟨v1, v2⟩ := hv.2 hk
    obtain ⟨e1, h1⟩ := nmTm_ren hi hl.lo hl.hi v1 hn
    obtain ⟨e2, h2⟩ := nmTm_ren hi hr.lo hr.hi v2 h1
    refine ⟨?_, h2⟩
    unfold rnLm
    simp only
    rw [e1]
    simp only
    rw [e2]
theorem nmLs_ren (hi : ∀ x ∈ L, ∀ y ∈ L, f x = f y → x = y) : ∀ (ls : List Lm) (ns : List ByteArray), (∀ l ∈ ls, mayLm l = 0) → (∀ l ∈ ls, VarLm L l) → (∀ y ∈ ns, y ∈ L) →
    nmLs (ns.map f) (ls.map (rnLm f)) = ((nmLs ns ls).1, (nmLs ns ls).2.map f)
  | [], ns, _, _, hn => rfl
  | l :: ls, ns, ho, hv, hn => by
    obtain ⟨e1, h1⟩ := nmLm_ren hi (ho l (List.mem_cons_self ..)) (hv l (List.mem_cons_self ..)) hn
    have e2 := nmLs_ren hi ls (nmLm ns l).2 (fun x hx => ho x (List.mem_cons_of_mem _ hx)) (fun x hx => hv x (List.mem_cons_of_mem _ hx)) h1
    rw [List.map_cons]
    simp only [nmLs]
    rw [e1]
    simp only
    rw [e2]
def VarRm (L : List ByteArray) (r : Rm) : Prop := (∀ t ∈ r.head.terms, VarIn L t) ∧ ∀ l ∈ r.body, VarLm L l
/-- **the law**: other names, no two of them alike: the same normal form -/
theorem nmRm_ren (hi : ∀ x ∈ L, ∀ y ∈ L, f x = f y → x = y) {r : Rm} (hm : mayRm r = 0) (hv : VarRm L r) : nmRm (rnRm f r) = nmRm r := by
  obtain ⟨h1, _, h3⟩ := may_rule hm
  obtain ⟨e1, s1⟩ := nmTs_ren hi r.head.terms [] (okAm h1).all hv.1 (fun _ h => by cases h)
  have e2 := nmLs_ren hi r.body (nmTs [] r.head.terms).2 h3 hv.2 s1
  have e1' : nmTs [] (r.head.terms.map (rnG f)) = ((nmTs [] r.head.terms).1, (nmTs [] r.head.terms).2.map f) := e1
  unfold nmRm
  show (⟨⟨r.head.pred, (nmTs [] (r.head.terms.map (rnG f))).1⟩, (nmLs (nmTs [] (r.head.terms.map (rnG f))).2 (r.body.map (rnLm f))).1⟩ : Rm) = _
  rw [e1']
  simp only
  rw [e2]
end
/-- names grow -/
theorem more_pre (ns : List ByteArray) (x : ByteArray) : ns <+: more ns x := by
  unfold more
  split
  · exact List.prefix_refl _
  · exact List.prefix_append _ _
theorem nmTm_pre (ns : List ByteArray) (t : Tm) : ns <+: (nmTm ns t).2 := by
  unfold nmTm
  split
  · exact List.prefix_refl _
  · exact more_pre _ _
theorem nmTs_pre : ∀ (ts : List Tm) (ns : List ByteArray), ns <+: (nmTs ns ts).2
  | [], ns => List.prefix_refl _
  | t :: ts, ns => (nmTm_pre ns t).trans (nmTs_pre ts _)
theorem nmLm_pre (ns : List ByteArray) (l : Lm) : ns <+: (nmLm ns l).2 := by
  unfold nmLm
  split
  · exact (nmTm_pre ns l.left).trans (nmTm_pre _ _)
  · exact nmTs_pre _ _
theorem nmLs_pre : ∀ (ls : List Lm) (ns : List ByteArray), ns <+: (nmLs ns ls).2
  | [], ns => List.prefix_refl _
  | l :: ls, ns => (nmLm_pre ns l).trans (nmLs_pre ls _)
/-- the names of a normal form -/
def vf (NS : List ByteArray) (x : ByteArray) : ByteArray := vN (place x NS + 1)
theorem vf_inj (NS : List ByteArray) : ∀ x ∈ NS, ∀ y ∈ NS, vf NS x = vf NS y → x = y := by
  intro x hx y hy h
  have h1 := vN_inj h
  have h2 := place_get hx
  have h3 := place_get hy
  rw [show place x NS = place y NS by omega, h3] at h2
  exact (Option.some.inj h2).symm
theorem nmTm_self {NS ns : List ByteArray} {t : Tm} (h1 : 1 ≤ t.kind) (h7 : t.kind ≤ 7) (hp : (nmTm ns t).2 <+: NS) : (nmTm ns t).1 = rnG (vf NS) t ∧ VarIn NS t := by
  unfold nmTm at hp ⊢
  by_cases ha : asIs t.kind
  · rw [if_pos ha, rnG_as (.inl ha)]
    exact ⟨rfl, fun h => absurd ha h⟩
  · rw [if_neg ha] at hp ⊢
    rw [rnG_var ha h1 h7]
    simp only at hp ⊢
    obtain ⟨m, hm⟩ := hp
    have hin := more_mem ns t.text
    refine ⟨?_, fun _ => by rw [← hm]; exact List.mem_append_left _ hin⟩
    unfold vf
    rw [← hm, place_app hin]
theorem nmTs_self {NS : List ByteArray} : ∀ (ts : List Tm) (ns : List ByteArray), (∀ t ∈ ts, OkTm t) → (nmTs ns ts).2 <+: NS → (nmTs ns ts).1 = ts.map (rnG (vf NS)) ∧ ∀ t ∈ ts, VarIn NS t
  | [], ns, _, _ => ⟨rfl, fun _ h => by cases h⟩
  | t :: ts, ns, ho, hp => by
    have ht := ho t (List.mem_cons_self ..)
    obtain ⟨e1, v1⟩ := nmTm_self (NS := NS) (ns := ns) ht.lo ht.hi ((nmTs_pre ts _).trans hp)
    obtain ⟨e2, v2⟩ := nmTs_self ts (nmTm ns t).2 (fun x hx => ho x (List.mem_cons_of_mem _ hx)) hp
    refine ⟨?_, fun x hx => ?_⟩
    · simp only [nmTs, List.map_cons]
      rw [e1, e2]
    · rcases List.mem_cons.1 hx with rfl | hx
      · exact v1
      · exact v2 x hx
theorem nmLm_self {NS ns : List ByteArray} {l : Lm} (hm : mayLm l = 0) (hp : (nmLm ns l).2 <+: NS) : (nmLm ns l).1 = rnLm (vf NS) l ∧ VarLm NS l := by
  unfold nmLm at hp ⊢
  rcases may_lit hm with ⟨hk, ho, hl, hr, _⟩ | ⟨hk, p1, p2, hl, hr⟩
  · rw [if_neg hk] at hp ⊢
    obtain ⟨e1, v1⟩ := nmTs_self l.atom.terms ns ho hp
    refine ⟨?_, v1, fun h => absurd h hk⟩
    unfold rnLm rnAm
    rw [e1, rnG_as (.inr hl), rnG_as (.inr hr)]
  · rw [if_pos hk] at hp ⊢
    obtain ⟨e1, v1⟩ := nmTm_self (NS := NS) (ns := ns) hl.lo hl.hi ((nmTm_pre _ l.right).trans hp)
    obtain ⟨e2, v2⟩ := nmTm_self (NS := NS) (ns := (nmTm ns l.left).2) hr.lo hr.hi hp
    refine ⟨?_, by rw [p2]; exact (fun _ h => by cases h), fun _ => ⟨v1, v2⟩⟩
    unfold rnLm rnAm
    simp only
    rw [e1, e2, p1, p2]; rfl
theorem nmLs_self {NS : List ByteArray} : ∀ (ls : List Lm) (ns : List ByteArray), (∀ l ∈ ls, mayLm l = 0) → (nmLs ns ls).2 <+: NS → (nmLs ns ls).1 = ls.map (rnLm (vf NS)) ∧ ∀ l ∈ ls, VarLm NS l
  | [], ns, _, _ => ⟨rfl, fun _ h => by cases h⟩
  | l :: ls, ns, ho, hp => by
    obtain ⟨e1, v1⟩ := nmLm_self (NS := NS) (ns := ns) (ho l (List.mem_cons_self ..)) ((nmLs_pre ls _).trans hp)
    obtain ⟨e2, v2⟩ := nmLs_self ls (nmLm ns l).2 (fun x hx => ho x (List.mem_cons_of_mem _ hx)) hp
    refine ⟨?_, fun x hx => ?_⟩
    · simp only [nmLs, List.map_cons]
      rw [e1, e2]
    · rcases List.mem_cons.1 hx with rfl | hx
      · exact v1
      · exact v2 x hx
/-- the names of a rule -/
def namesR (r : Rm) : List ByteArray := (nmLs (nmTs [] r.head.terms).2 r.body).2
/-- **the law**: a normal form is the rule with names of its own -/
theorem nmRm_self {r : Rm} (hm : mayRm r = 0) : nmRm r = rnRm (vf (namesR r)) r ∧ VarRm (namesR r) r := by
  obtain ⟨h1, _, h3⟩ := may_rule hm
  obtain ⟨e1, v1⟩ := nmTs_self (NS := namesR r) r.head.terms [] (okAm h1).all (nmLs_pre r.body _)
  obtain ⟨e2, v2⟩ := nmLs_self (NS := namesR r) r.body (nmTs [] r.head.terms).2 h3 (List.prefix_refl _)
  refine ⟨?_, v1, v2⟩
  unfold nmRm rnRm rnAm
  rw [e1, e2]
/-- may be, or a name has got too long -/
def Zb (B : Prop) (x : Int) : Prop := x = 0 ∨ (x = 84 ∧ ¬ B)
section
variable {f : ByteArray → ByteArray} {B : Prop}
theorem may_rnTm (hf : ∀ x, Word (f x) = 2 ∧ f x ≠ blankB) (hb : B → ∀ x, (f x).size ≤ 4096) {t : Tm} (h : mayTm t = 0) : Zb B (mayTm (rnG f t)) := by
  have ho := okTm h
  by_cases ha : asIs t.kind
  · rw [rnG_as (.inl ha)]; exact .inl h
  · rw [rnG_var ha ho.lo ho.hi]
    unfold asIs at ha
    have h1 := ho.lo
    have h7 := ho.hi
    unfold mayTm
    simp only
    rw [if_neg (by omega), if_neg (by omega), if_pos (by omega), if_neg (by rintro (h | h); exact (hf t.text).2 h; exact h (hf t.text).1)]
    by_cases hl : 4096 < (f t.text).size
    · rw [if_pos hl]
      exact .inr ⟨rfl, fun b => by have := hb b t.text; omega⟩
    · rw [if_neg hl]; exact .inl rfl
theorem may_rnTs (hf : ∀ x, Word (f x) = 2 ∧ f x ≠ blankB) (hb : B → ∀ x, (f x).size ≤ 4096) : ∀ {head : Bool} {ts : List Tm}, mayTs head ts = 0 → Zb B (mayTs head (ts.map (rnG f)))
  | _, [], _ => .inl rfl
  | head, t :: ts, h => by
    rw [List.map_cons]
    rw [mayTs] at h ⊢
    rw [rnG_kind]
    have key : ∀ hd : Bool, (if mayTm t ≠ 0 then mayTm t else mayTs hd ts) = 0 → Zb B (if mayTm (rnG f t) ≠ 0 then mayTm (rnG f t) else mayTs hd (ts.map (rnG f))) := fun hd h => by
      by_cases hm : mayTm t ≠ 0
      · rw [if_pos hm] at h; exact absurd h hm
      · rw [if_neg hm] at h
        have h1 := may_rnTm hf hb (t := t) (by simpa using hm)
        by_cases hz : mayTm (rnG f t) ≠ 0
        · rw [if_pos hz]; exact h1
        · rw [if_neg hz]; exact may_rnTs hf hb h
    by_cases hk : 4 ≤ t.kind ∧ t.kind ≤ 7
    · rw [if_pos hk] at h ⊢
      by_cases hh : head = true
      · rw [if_pos hh] at h ⊢
        exact key false h
      · rw [if_neg hh] at h; exact absurd h (by decide)
    · rw [if_neg hk] at h ⊢
      exact key head h
theorem may_rnAm (hf : ∀ x, Word (f x) = 2 ∧ f x ≠ blankB) (hb : B → ∀ x, (f x).size ≤ 4096) {head : Bool} {a : Am} (h : mayAm head a = 0) : Zb B (mayAm head (rnAm f a)) := by
  unfold mayAm at h ⊢
  show Zb B (if Word a.pred ≠ 1 then 80 else if 4096 < a.pred.size then 84 else if 64 < (a.terms.map (rnG f)).length then 83 else mayTs head (a.terms.map (rnG f)))
  rw [List.length_map]
  split at h
  · exact absurd h (by decide)
  rename_i c1
  rw [if_neg c1]
  split at h
  · exact absurd h (by decide)
  rename_i c2
  rw [if_neg c2]
  split at h
  · exact absurd h (by decide)
  rename_i c3
  rw [if_neg c3]
  exact may_rnTs hf hb h
theorem may_rnLm (hf : ∀ x, Word (f x) = 2 ∧ f x ≠ blankB) (hb : B → ∀ x, (f x).size ≤ 4096) {l : Lm} (h : mayLm l = 0) : Zb B (mayLm (rnLm f l)) := by
  rcases may_lit h with ⟨hk, ho, hl, hr, hk2, hbare, hma⟩ | ⟨hk, p1, p2, hl, hr⟩
  · have e1 : bareL (rnLm f l) := by
      unfold bareL rnLm at *
      simp only
      rw [rnG_as (.inr hl), rnG_as (.inr hr)]
      exact hbare
    unfold mayLm
    rw [if_pos ⟨hk2, e1⟩]
    exact may_rnAm hf hb hma
  · unfold mayLm at h
    rw [if_neg (by rintro ⟨h1 | h1, _⟩ <;> omega)] at h
    by_cases h2 : l.kind ≠ 3 ∨ ¬ noneL l ∨ l.op < 1 ∨ 4 < l.op
    · rw [if_pos h2] at h; exact absurd h (by decide)
    rw [if_neg h2] at h
    have hn : noneL (rnLm f l) := by
      unfold noneL rnLm rnAm
      exact ⟨p1, by rw [p2]; rfl⟩
    have hk' : (rnLm f l).kind = 3 := hk
    have ho' : ¬ (l.op < 1 ∨ 4 < l.op) := fun h => h2 (.inr (.inr h))
    unfold mayLm
    rw [if_neg (by rintro ⟨h1 | h1, _⟩ <;> omega), if_neg (by
      rintro (h1 | h1 | h1)
      · exact h1 hk'
      · exact h1 hn
      · exact ho' h1)]
    show Zb B (if 4 ≤ (rnG f l.left).kind then 80 else if mayTm (rnG f l.left) ≠ 0 then mayTm (rnG f l.left) else if 4 ≤ (rnG f l.right).kind then 80 else mayTm (rnG f l.right))
    rw [rnG_kind, rnG_kind]
    split at h
    · exact absurd h (by decide)
    rename_i c1
    rw [if_neg c1]
    split at h
    · rename_i c2; exact absurd h c2
    rename_i c2
    have z1 := may_rnTm hf hb (t := l.left) (by simpa using c2)
    split at h
    · exact absurd h (by decide)
    rename_i c3
    rw [if_neg c3]
    by_cases hz : mayTm (rnG f l.left) ≠ 0
    · rw [if_pos hz]; exact z1
    · rw [if_neg hz]; exact may_rnTm hf hb h
theorem may_rnLs (hf : ∀ x, Word (f x) = 2 ∧ f x ≠ blankB) (hb : B → ∀ x, (f x).size ≤ 4096) : ∀ {ls : List Lm}, (∀ l ∈ ls, mayLm l = 0) → Zb B (mayLs (ls.map (rnLm f)))
  | [], _ => .inl rfl
  | l :: ls, h => by
    rw [List.map_cons, mayLs]
    have h1 := may_rnLm hf hb (h l (List.mem_cons_self ..))
    by_cases hz : mayLm (rnLm f l) ≠ 0
    · rw [if_pos hz]; exact h1
    · rw [if_neg hz]; exact may_rnLs hf hb (fun x hx => h x (List.mem_cons_of_mem _ hx))
theorem may_rnRm (hf : ∀ x, Word (f x) = 2 ∧ f x ≠ blankB) (hb : B → ∀ x, (f x).size ≤ 4096) {r : Rm} (h : mayRm r = 0) : Zb B (mayRm (rnRm f r)) := by
  obtain ⟨h1, h2, h3⟩ := may_rule h
  unfold mayRm
  show Zb B (if mayAm true (rnAm f r.head) ≠ 0 then mayAm true (rnAm f r.head) else if 64 < (r.body.map (rnLm f)).length then 82 else mayLs (r.body.map (rnLm f)))
  rw [List.length_map]
  have z1 := may_rnAm hf hb h1
  by_cases hz : mayAm true (rnAm f r.head) ≠ 0
  · rw [if_pos hz]; exact z1
  · rw [if_neg hz, if_neg (by omega)]
    exact may_rnLs hf hb h3
end
theorem place_le (x : ByteArray) : ∀ l : List ByteArray, place x l ≤ l.length
  | [] => Nat.le_refl _
  | y :: l => by
    unfold place
    split
    · exact Nat.zero_le _
    · have := place_le x l; simp; omega
/-- names of one's own: alike, or too long -/
theorem renamed_law {r : Rm} (h : mayRm r = 0) : (mayRm (rnRm nameB r) = 0 ∨ mayRm (rnRm nameB r) = 84) ∧ nmRm (rnRm nameB r) = nmRm r := by
  refine ⟨?_, nmRm_ren (L := namesR r) (fun x _ y _ e => nameB_inj e) h (nmRm_self h).2⟩
  rcases may_rnRm (B := False) nameB_word (fun b => b.elim) h with h | h
  · exact .inl h
  · exact .inr h.1
/-- a normal form may be, and is its own -/
theorem normal_law {r : Rm} (h : mayRm r = 0) (hn : (namesR r).length < 90000) : mayRm (nmRm r) = 0 ∧ nmRm (nmRm r) = nmRm r := by
  obtain ⟨e, hv⟩ := nmRm_self h
  have h2 := nmRm_ren (f := vf (namesR r)) (vf_inj _) h hv
  have h1 := may_rnRm (B := True) (f := vf (namesR r)) (fun x => vN_word _) (fun _ x => vN_len _ (by have := place_le x (namesR r); omega)) h
  rw [← e] at h1 h2
  refine ⟨?_, h2⟩
  rcases h1 with h1 | h1
  · exact h1
  · exact absurd trivial h1.2
end Go.Proofs.YtphgglnkdfndiaaDoor
