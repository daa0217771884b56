/-
  What PrintOwn lays side by side: programs, their rules' lists; how they are told over in another order.
-/
import Derived.Test.YtphgglnkdfndiaaDoorApart
import Derived.Test.YtphgglnkdfndiaaDoorTidF
namespace Go.Proofs.YtphgglnkdfndiaaDoor
open Go Go.RowKit Go.Mine
set_option linter.unusedVariables false
set_option maxRecDepth 100000

structure PD where
  u : Sl
  ds : List RD
structure PD.Ok (p : PD) : Prop where
  ok : ∀ d ∈ p.ds, d.Ok
  len : p.ds.length = p.u.n
  few : p.u.n ≤ 1024
def uI (p : PD) : It := uE p.u p.ds
def pIts (p : PD) : List It := uI p :: p.ds.flatMap rIts
/-- a box of a program -/
def bxI (B : Nat) (v : Value) : It :=
  ⟨fun b => b = B, fun w => w.heap[B]? = some (.cells #[v] 24 (0, 0)), fun S w w' h m hs => m.at h (hs B rfl), fun w h b hb => by
    have hb : b = B := hb
    subst hb
    exact (Array.getElem?_eq_some_iff.1 h).1⟩
def bx3I (B : Nat) (s a b : Value) : It :=
  ⟨fun k => k = B, fun w => w.heap[B]? = some (.cells #[s, a, b] 38 (0, 0)), fun S w w' h m hs => m.at h (hs B rfl), fun w h b hb => by
    have hb : b = B := hb
    subst hb
    exact (Array.getElem?_eq_some_iff.1 h).1⟩
def alI (al : Option Addr) (ac : Nat) (ps : List PD) : It := ownI 24 1 al ps.length ac (ps.map fun p => p.u.val)
def bsI (ba : Option Addr) (bc : Nat) (ds : List RD) : It := ownI 36 1 ba ds.length bc (ds.map fun d => d.b.val)
def lsD (d : RD) : List Sl := d.s :: d.ats
def bI (d : RD) : It := bE d.b d.ats
theorem lsD_len {d : RD} (h : d.Ok) : (lsD d).length ≤ 65 := by
  have h1 := h.len
  have h2 := h.b
  show d.ats.length + 1 ≤ 65
  omega
theorem lsD_lens : ∀ {ds : List RD}, (∀ d ∈ ds, d.Ok) → (ds.flatMap lsD).length ≤ 65 * ds.length
  | [], _ => by simp
  | d :: ds, h => by
    have h1 := lsD_len (h d (List.mem_cons_self ..))
    have h2 := lsD_lens (ds := ds) fun x hx => h x (List.mem_cons_of_mem _ hx)
    rw [List.flatMap_cons, List.length_append, List.length_cons]
    omega
theorem lsD_few {ds : List RD} (h : ∀ d ∈ ds, d.Ok) : ∀ s ∈ ds.flatMap lsD, s.n ≤ 64 := fun s hs => by
  obtain ⟨d, hd, hs⟩ := List.mem_flatMap.1 hs
  rcases List.mem_cons.1 hs with rfl | hs
  · exact (h d hd).s
  · exact (h d hd).ats s hs
def DS (ps : List PD) : List RD := ps.flatMap PD.ds
theorem DS_ok {ps : List PD} (h : ∀ p ∈ ps, p.Ok) : ∀ d ∈ DS ps, d.Ok := fun d hd => by
  obtain ⟨p, hp, hd⟩ := List.mem_flatMap.1 hd
  exact (h p hp).ok d hd
/-- a slice's cells out of a family -/
theorem slI_cells {e : TypeId} {kk : Nat} {s : Sl} {Q : List Value → Prop} {w : World} (h : (slI e kk s Q).P w) (hn : s.n ≠ 0) : ∃ g xs, s.a = some ⟨g, 0, none⟩ ∧ Q xs ∧ xs.length = s.n * kk ∧ ∀ j u, xs[j]? = some u → w.cell? ⟨g, j, none⟩ = some u := by
  obtain ⟨xs, hO, hq⟩ := h
  obtain ⟨g, e⟩ := hO.atHead hn
  refine ⟨g, xs, e, hq, hO.1, fun j u hu => ?_⟩
  obtain ⟨b, o, e', hc⟩ := hO.rd j u hu
  rw [e] at e'
  cases e'
  rw [Nat.zero_add] at hc
  exact hc
theorem ownI_cell {e : TypeId} {α : Type} {f : α → Value} {a : Option Addr} {n c : Nat} {l : List α} {w : World} (h : (ownI e 1 a n c (l.map f)).P w) {i : Nat} (hi : i < l.length) : ∃ b, a = some ⟨b, 0, none⟩ ∧ w.cell? ⟨b, i, none⟩ = some (f l[i]) := by
  have hO : Mine.Own w e 1 a n c (l.map f) := h
  have hl := hO.1
  rw [List.length_map] at hl
  obtain ⟨b, rfl⟩ := hO.atHead (by omega)
  obtain ⟨b', o, e, hc⟩ := hO.rd i (f l[i]) (by rw [List.getElem?_map, List.getElem?_eq_getElem hi]; rfl)
  cases e
  rw [Nat.zero_add] at hc
  exact ⟨b, rfl, hc⟩
theorem DS_cut {ps : List PD} {i : Nat} (hi : i < ps.length) : DS ps = DS (ps.take i) ++ ps[i].ds ++ DS (ps.drop (i + 1)) := by
  unfold DS
  have h := congrArg (List.flatMap PD.ds) (get_mid hi)
  rw [h, List.flatMap_append, List.flatMap_cons, List.append_assoc]
theorem DS_pre {ps : List PD} {i k : Nat} (hi : i < ps.length) (hk : k ≤ ps[i].ds.length) : (DS (ps.take i) ++ ps[i].ds.take k).length ≤ (DS ps).length := by
  rw [DS_cut hi, List.length_append, List.length_append, List.length_append, List.length_take]
  omega
theorem DS_step {ps : List PD} {i : Nat} (hi : i < ps.length) : DS (ps.take (i + 1)) = DS (ps.take i) ++ ps[i].ds := by
  unfold DS
  rw [List.take_succ_eq_append_getElem hi, List.flatMap_append, List.flatMap_cons, List.flatMap_nil, List.append_nil]
theorem DS_mem {ps : List PD} {i k : Nat} (hi : i < ps.length) (hk : k < ps[i].ds.length) : ps[i].ds[k] ∈ DS ps := List.mem_flatMap.2 ⟨_, List.getElem_mem hi, List.getElem_mem hk⟩
theorem DS_two {qs : List PD} (h : ∀ q ∈ qs, q.Ok ∧ q.ds.length = 2) : (DS qs).length = 2 * qs.length := by
  induction qs with
  | nil => rfl
  | cons q qs ih =>
    unfold DS at ih ⊢
    rw [List.flatMap_cons, List.length_append, ih (fun x hx => h x (List.mem_cons_of_mem _ hx)), (h q (List.mem_cons_self ..)).2, List.length_cons]
    omega
theorem uI_cells {p : PD} {w : World} (h : (uI p).P w) (hp : p.Ok) {k : Nat} (hk : k < p.u.n) : ∃ g s, p.u.a = some ⟨g, 0, none⟩ ∧ w.cell? ⟨g, k * 3, none⟩ = some (.string s) ∧ w.cell? ⟨g, k * 3 + 1, none⟩ = some (p.ds[k]'(by rw [hp.len]; exact hk)).s.val ∧ w.cell? ⟨g, k * 3 + 2, none⟩ = some (p.ds[k]'(by rw [hp.len]; exact hk)).b.val := by
  obtain ⟨g, xs, e, hq, hl, hc⟩ := slI_cells h (by omega)
  obtain ⟨⟨s, h0⟩, h1, h2⟩ := hq k _ (List.getElem?_eq_getElem (by rw [hp.len]; exact hk))
  exact ⟨g, s, e, hc _ _ h0, hc _ _ h1, hc _ _ h2⟩
theorem bI_cell {d : RD} {w : World} (h : (bI d).P w) (hd : d.Ok) {n : Nat} (hn : n < d.b.n) : ∃ g, d.b.a = some ⟨g, 0, none⟩ ∧ w.cell? ⟨g, n * 8 + 2, none⟩ = some (d.ats[n]'(by rw [hd.len]; exact hn)).val := by
  obtain ⟨g, xs, e, hq, hl, hc⟩ := slI_cells h (by omega)
  exact ⟨g, e, hc _ _ (hq n _ (List.getElem?_eq_getElem (by rw [hd.len]; exact hn)))⟩
theorem rIts_perm : ∀ ds : List RD, List.Perm (ds.flatMap rIts) ((ds.flatMap lsD).map tE ++ ds.map bI)
  | [] => List.Perm.refl _
  | d :: ds => by
    rw [List.flatMap_cons, List.flatMap_cons, List.map_append, List.map_cons]
    have h := rIts_perm ds
    show List.Perm (tE d.s :: bI d :: (d.ats.map tE ++ ds.flatMap rIts)) (tE d.s :: (d.ats.map tE ++ (ds.flatMap lsD).map tE ++ bI d :: ds.map bI))
    refine List.Perm.cons _ ?_
    rw [List.append_assoc]
    have h2 : List.Perm (bI d :: (d.ats.map tE ++ ds.flatMap rIts)) (bI d :: (d.ats.map tE ++ ((ds.flatMap lsD).map tE ++ ds.map bI))) := List.Perm.cons _ (List.Perm.append_left _ h)
    refine h2.trans ?_
    rw [← List.append_assoc, ← List.append_assoc]
    exact List.perm_middle.symm
theorem pIts_perm : ∀ ps : List PD, List.Perm (ps.flatMap pIts) (ps.map uI ++ (DS ps).flatMap rIts)
  | [] => List.Perm.refl _
  | p :: ps => by
    rw [List.flatMap_cons]
    have h := pIts_perm ps
    unfold DS
    rw [List.flatMap_cons, List.flatMap_append]
    show List.Perm (uI p :: (p.ds.flatMap rIts ++ ps.flatMap pIts)) (uI p :: (ps.map uI ++ (p.ds.flatMap rIts ++ (DS ps).flatMap rIts)))
    refine List.Perm.cons _ ?_
    refine (List.Perm.append_left _ h).trans ?_
    rw [← List.append_assoc, ← List.append_assoc]
    exact List.Perm.append_right _ List.perm_append_comm
/-- all of it, the term lists ahead -/
theorem all_perm (ps : List PD) (x : It) (r : List It) : List.Perm (x :: (r ++ ps.flatMap pIts)) ((x :: ((DS ps).flatMap lsD).map tE) ++ (r ++ (DS ps).map bI ++ ps.map uI)) := by
  rw [List.cons_append]
  refine List.Perm.cons _ ?_
  have h1 := ((pIts_perm ps).trans (List.Perm.append_left _ (rIts_perm (DS ps))))
  refine (List.Perm.append_left r h1).trans ?_
  refine (List.Perm.append_left r (List.perm_append_comm)).trans ?_
  rw [List.append_assoc, ← List.append_assoc]
  refine (List.Perm.append_right _ List.perm_append_comm).trans ?_
  rw [List.append_assoc, List.append_assoc]
theorem PD.Ok.ofPr {w : World} {L : Nat} {u : Sl} {ds : List RD} (h : PrO w L u ds) : PD.Ok ⟨u, ds⟩ := ⟨h.ok, h.len, h.few⟩
theorem uI_mem {ps : List PD} {i : Nat} (hi : i < ps.length) : uI ps[i] ∈ ps.flatMap pIts := List.mem_flatMap.2 ⟨_, List.getElem_mem hi, List.mem_cons_self ..⟩
theorem bI_mem {ps : List PD} {i k : Nat} (hi : i < ps.length) (hk : k < ps[i].ds.length) : bI (ps[i].ds[k]) ∈ ps.flatMap pIts :=
  List.mem_flatMap.2 ⟨_, List.getElem_mem hi, List.mem_cons_of_mem _ (List.mem_flatMap.2 ⟨_, List.getElem_mem hk, List.mem_cons_of_mem _ (List.mem_cons_self ..)⟩)⟩
theorem PrO.pIts {w : World} {L : Nat} {u : Sl} {ds : List RD} (h : PrO w L u ds) : Fam L w (pIts ⟨u, ds⟩) := h.fam
/-- two normal forms as a program -/
theorem pair_fam {w w1 w2 w3 : World} {L : Nat} {its : List It} {d1 d2 : RD} {g : Nat} {p1 p2 : ByteArray} (h : Fam L w its) (m1 : Mod (fun _ => False) w w1) (h1 : RuO w1 w.heap.size d1) (m2 : Mod (fun _ => False) w1 w2) (h2 : RuO w2 w1.heap.size d2) (m3 : Mod (fun _ => False) w2 w3)
    (hg : w3.heap[g]? = some (.cells #[.string p1, d1.s.val, d1.b.val, .string p2, d2.s.val, d2.b.val] 38 (0, 0))) (hl : w2.heap.size ≤ g) : Fam L w3 (its ++ pIts ⟨⟨some ⟨g, 0, none⟩, 2, 2⟩, [d1, d2]⟩) ∧ PD.Ok ⟨⟨some ⟨g, 0, none⟩, 2, 2⟩, [d1, d2]⟩ := by
  have a1 := h.append m1 h1.2 (Nat.le_refl _)
  have a2 := a1.append m2 h2.2 (Nat.le_refl _)
  have hu : (uI ⟨⟨some ⟨g, 0, none⟩, 2, 2⟩, [d1, d2]⟩).P w3 := by
    refine ⟨[.string p1, d1.s.val, d1.b.val, .string p2, d2.s.val, d2.b.val], ⟨rfl, .inr ⟨g, _, rfl, hg, Nat.le_refl _, (by show 2 ≤ maxLen; unfold maxLen; omega), rfl, rfl⟩⟩, fun n d hd => ?_⟩
    match n with
    | 0 => cases hd; exact ⟨⟨_, rfl⟩, rfl, rfl⟩
    | 1 => cases hd; exact ⟨⟨_, rfl⟩, rfl, rfl⟩
    | n + 2 => simp at hd
  have a3 := a2.push m3 hu (fun b hb => by
    have hb : blk (some (⟨g, 0, none⟩ : Addr)) = some b := hb
    cases hb; exact hl)
  refine ⟨a3.perm ?_, fun d hd => ?_, rfl, by show 2 ≤ 1024; omega⟩
  · rw [List.append_assoc, List.append_assoc]
    refine List.Perm.append_left _ ?_
    show List.Perm (rIts d1 ++ (rIts d2 ++ [uI _])) (uI _ :: (rIts d1 ++ (rIts d2 ++ [])))
    rw [List.append_nil, ← List.append_assoc]
    exact List.perm_append_comm (l₂ := [uI _])
  · simp at hd
    rcases hd with rfl | rfl
    · exact h1.1
    · exact h2.1
end Go.Proofs.YtphgglnkdfndiaaDoor
