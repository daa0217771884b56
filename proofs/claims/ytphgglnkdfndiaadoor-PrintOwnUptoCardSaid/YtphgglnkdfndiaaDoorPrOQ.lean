/-
  What PrintOwn lays side by side, told over for its second half; literals as marks.
-/
import Derived.Test.YtphgglnkdfndiaaDoorPrOP
namespace Go.Mine
open Go Go.RowKit
set_option linter.unusedVariables false
section
variable {L : Nat} {w w' : World} {its l1 l2 : List It} {i j k : It}
/-- two things taken as one -/
theorem Fam.join (h : Fam L w (i :: j :: its)) (hk : k.P w) (hf : ∀ b, k.F b → i.F b ∨ j.F b) : Fam L w (k :: its) := by
  have h1 := List.pairwise_cons.1 h.dj
  have h2 := List.pairwise_cons.1 h1.2
  refine ⟨fun x hx => ?_, List.pairwise_cons.2 ⟨fun x hx b hb hb' => ?_, h2.2⟩, fun x hx b hb => ?_, h.sz⟩
  · rcases List.mem_cons.1 hx with rfl | hx
    · exact hk
    · exact h.at_ x (List.mem_cons_of_mem _ (List.mem_cons_of_mem _ hx))
  · rcases hf b hb with hb | hb
    · exact h1.1 x (List.mem_cons_of_mem _ hx) b hb hb'
    · exact h2.1 x hx b hb hb'
  · rcases List.mem_cons.1 hx with rfl | hx
    · rcases hf b hb with hb | hb
      · exact h.lo i (List.mem_cons_self ..) b hb
      · exact h.lo j (List.mem_cons_of_mem _ (List.mem_cons_self ..)) b hb
    · exact h.lo x (List.mem_cons_of_mem _ (List.mem_cons_of_mem _ hx)) b hb
/-- some have turned, the others not -/
theorem Fam.mods {S : Nat → Prop} (h : Fam L w (l1 ++ l2)) (m : Mod S w w') (hs : ∀ b, S b → ∃ i ∈ l1, i.F b) : Fam L w' l2 := by
  have hd := List.pairwise_append.1 h.dj
  exact (h.sub (List.sublist_append_right _ _)).mod m (fun x hx b hb hsb => by
    obtain ⟨y, hy, hyb⟩ := hs b hsb
    exact hd.2.2 y hy x hx b hyb hb)
end
/-- stores, one behind the other -/
def setN (w : World) (b j : Nat) : List Value → World
  | [] => w
  | u :: us => setN (w.setCell ⟨b, j, none⟩ u) b (j + 1) us
theorem putL_cons {xs : List Value} {j : Nat} {u : Value} {us : List Value} (h : j < xs.length) : putL (xs.set j u) (j + 1) us = putL xs j (u :: us) := by
  unfold putL
  have e1 : (xs.set j u).take (j + 1) = xs.take j ++ [u] := by
    rw [set_mid h, List.take_append, List.take_of_length_le (by simp; omega)]
    have : j + 1 - (xs.take j).length = 1 := by rw [List.length_take]; omega
    rw [this]
    rfl
  have e2 : (xs.set j u).drop (j + 1 + us.length) = xs.drop (j + (u :: us).length) := by
    rw [List.drop_set_of_lt (by omega), List.length_cons]
    congr 1
    omega
  rw [e1, e2]
  simp
theorem Own.setN {e : TypeId} {k n c b : Nat} : ∀ {us : List Value} {w : World} {xs : List Value} {j : Nat}, Own w e k (some ⟨b, 0, none⟩) n c xs → j + us.length ≤ xs.length → Own (setN w b j us) e k (some ⟨b, 0, none⟩) n c (putL xs j us)
  | [], w, xs, j, h, _ => by rw [putL_nil]; exact h
  | u :: us, w, xs, j, h, hl => by
    rw [List.length_cons] at hl
    have := Own.setN (us := us) (j := j + 1) (h.store j u) (by rw [List.length_set]; omega)
    rw [putL_cons (by omega)] at this
    exact this
theorem Mod.setN {S : Nat → Prop} {a : World} {b : Nat} (hs : S b) : ∀ {us : List Value} {w : World} {j : Nat}, Mod S a w → Mod S a (setN w b j us)
  | [], _, _, h => h
  | u :: us, w, j, h => Mod.setN hs (us := us) (h.setCell (p := ⟨b, j, none⟩) (fun _ => hs) u)
end Go.Mine
namespace Go.Proofs.YtphgglnkdfndiaaDoor
open Go Go.RowKit Go.Mine
set_option linter.unusedVariables false
set_option maxRecDepth 100000

def elL (i k : Nat) : List Value := [.int .i64 (-(i : Int) - 1), .string ⟨#[]⟩, .slice none 0 0, .int .i64 k, .int .i64 0, .string ⟨#[]⟩, .int .i64 0, .string ⟨#[]⟩]
def glL (i k : Nat) : List Value := [.int .i64 (1000 + (i : Int)), .string ⟨#[]⟩, .slice none 0 0, .int .i64 k, .int .i64 0, .string ⟨#[]⟩, .int .i64 0, .string ⟨#[]⟩]
def elR (s : ByteArray) (_ _ : Nat) : List Value := [.string s, .slice none 0 0, .slice none 0 0]
theorem elL_len (i k : Nat) : (elL i k).length = 8 := rfl
theorem glL_len (i k : Nat) : (glL i k).length = 8 := rfl
theorem elR_len (s : ByteArray) (i k : Nat) : (elR s i k).length = 3 := rfl
theorem mkLl_len (i n : Nat) : (mkL elL i n).length = n * 8 := mkL_len elL_len i n
theorem mgL_len (i n : Nat) : (mkL glL i n).length = n * 8 := mkL_len glL_len i n
theorem mkR_len (s : ByteArray) (i n : Nat) : (mkL (elR s) i n).length = n * 3 := mkL_len (elR_len s) i n
def lE (s : Sl) : It := slI 44 8 s (fun _ => True)
def blI (ba : Option Addr) (bc : Nat) (bs : List Sl) : It := ownI 36 1 ba bs.length bc (bs.map Sl.val)
abbrev lMk (k i : Nat) (s : Sl) : It := itM 44 8 elL k i s
abbrev lAk (i : Nat) (ss : List Sl) : List It := itA 44 8 elL i ss
theorem lMk_zero {i : Nat} {s : Sl} {w : World} (h : (lE s).P w) : (lMk 0 i s).P w := by
  obtain ⟨xs, h, _⟩ := h
  exact ⟨xs, h, by simp [mkL]⟩
theorem lMk_step {k i : Nat} {s : Sl} {w : World} {gb : Nat} (h : (lMk k i s).P w) (hk : k < s.n) (ha : s.a = some ⟨gb, 0, none⟩) : (lMk (k + 1) i s).P (setN w gb (k * 8) (elL i k)) := by
  obtain ⟨sa, sn, sc⟩ := s
  simp only at ha hk
  subst ha
  obtain ⟨xs, hO, hq⟩ := h
  have hO : Mine.Own w 44 8 (some ⟨gb, 0, none⟩) sn sc xs := hO
  have hl : xs.length = sn * 8 := hO.1
  refine ⟨_, hO.setN (us := elL i k) (j := k * 8) (by rw [elL_len]; omega), ?_⟩
  have e3 := putL_take (xs := xs) (j := k * 8) (us := elL i k) (by rw [elL_len]; omega)
  rw [elL_len, show k * 8 + 8 = (k + 1) * 8 by omega, hq, ← mkL_succ] at e3
  exact e3
theorem lMk_cells {k i : Nat} {s : Sl} {w : World} (h : (lMk k i s).P w) {j : Nat} (hj : j < s.n) : ∃ gb, s.a = some ⟨gb, 0, none⟩ ∧ (∀ o, o < 8 → ∃ u, w.cell? ⟨gb, j * 8 + o, none⟩ = some u) ∧ ∀ j, w.frozen? ⟨gb, j, none⟩ = false := by
  obtain ⟨xs, hO, hq⟩ := h
  have hl : xs.length = s.n * 8 := hO.1
  obtain ⟨gb, e⟩ := hO.atHead (by omega)
  refine ⟨gb, e, fun o ho => ?_, fun j => hO.frozen (by rw [e]; rfl)⟩
  obtain ⟨b', o', e', hc⟩ := hO.rd (j * 8 + o) xs[j * 8 + o] (List.getElem?_eq_getElem (by omega))
  rw [e] at e'
  cases e'
  rw [Nat.zero_add] at hc
  exact ⟨_, hc⟩
/-- a program in its box: rules that were added -/
def rlI (B : Nat) (g : Sl) (n m : Nat) (s : ByteArray) : It :=
  ⟨fun b => b = B ∨ blk g.a = some b,
    fun w => w.heap[B]? = some (.cells #[g.val] 24 (0, 0)) ∧ g.n = n + m ∧ blk g.a ≠ some B ∧ ∃ xs0 : List Value, xs0.length = n * 3 ∧ Mine.Own w 38 3 g.a g.n g.c (xs0 ++ mkL (elR s) 0 m),
    fun S w w' ⟨h1, h2, h3, xs0, h4, h5⟩ mm hs => ⟨mm.at h1 (hs B (.inl rfl)), h2, h3, xs0, h4, h5.mod mm (fun b hb => hs b (.inr hb))⟩,
    fun w ⟨h1, h2, h3, xs0, h4, h5⟩ b hb => by
      rcases hb with rfl | hb
      · exact (Array.getElem?_eq_some_iff.1 h1).1
      · exact h5.lt b hb⟩
theorem rlI_start {B : Nat} {p : PD} {s : ByteArray} {L : Nat} {w : World} {its : List It} (h : Fam L w (bxI B p.u.val :: uI p :: its)) : Fam L w (rlI B p.u p.u.n 0 s :: its) := by
  obtain ⟨xs, hO, _⟩ := h.at_ (uI p) (by simp)
  have hb : w.heap[B]? = some (.cells #[p.u.val] 24 (0, 0)) := h.at_ (bxI B p.u.val) (by simp)
  refine h.join ⟨hb, rfl, fun e => (List.pairwise_cons.1 h.dj).1 (uI p) (List.mem_cons_self ..) B rfl e, xs, hO.1, by
    show Mine.Own w _ 3 _ _ _ (xs ++ [])
    rw [List.append_nil]; exact hO⟩ (fun b hb => hb)
/-- one more -/
theorem rlI_step {B : Nat} {g : Sl} {n m : Nat} {s : ByteArray} {L : Nat} {u w' : World} {l1 l2 : List It} {a' : Option Addr} {c' : Nat} (h : Fam L u (l1 ++ rlI B g n m s :: l2))
    {xs0 : List Value} (h4 : xs0.length = n * 3) (hO : Mine.Own w' 38 3 a' (g.n + 1) c' ((xs0 ++ mkL (elR s) 0 m) ++ elR s 0 m)) (hG : Grow u g.a w' a') :
    Fam L (w'.setCell ⟨B, 0, none⟩ (.slice a' (g.n + 1) c')) (l1 ++ rlI B ⟨a', g.n + 1, c'⟩ n (m + 1) s :: l2) := by
  obtain ⟨h1, h2, h3, _⟩ := h.at_ (rlI B g n m s) (by simp)
  have hB : B < u.heap.size := (Array.getElem?_eq_some_iff.1 h1).1
  have hne := hG.ne hB h3
  have hm : Mod (fun b => b = B) w' (w'.setCell ⟨B, 0, none⟩ (.slice a' (g.n + 1) c')) := (Mod.refl (fun b => b = B) w').setCell (p := ⟨B, 0, none⟩) (fun _ => rfl) _
  refine h.upd ((hG.mod.mono (T := fun b => b = B ∨ blk g.a = some b) (fun _ _ e => .inr e)).step hm (fun _ _ e => .inl e)) ⟨?_, by show g.n + 1 = n + (m + 1); omega, hne, xs0, h4, ?_⟩ (fun b hb => ?_)
  · exact heap_setCell_at (j := 0) (.slice a' (g.n + 1) c') (hG.mod.at h1 h3)
  · have h6 := hO.mod hm (fun b hb e => by subst e; exact hne hb)
    rw [List.append_assoc, ← mkL_succ] at h6
    exact h6
  · rcases hb with rfl | hb
    · exact .inl (.inl rfl)
    · have hb : blk a' = some b := hb
      rcases hG.pos with e | ⟨x, e, hg⟩
      · rw [e] at hb; exact .inl (.inr hb)
      · rw [e] at hb; cases hb; exact .inr hg
/-- what its rules behind the first n are called -/
theorem rlI_cell {B : Nat} {g : Sl} {n m : Nat} {s : ByteArray} {w : World} (h : (rlI B g n m s).P w) {k : Nat} (hk : k < m) : ∃ b, g.a = some ⟨b, 0, none⟩ ∧ w.cell? ⟨b, (n + k) * 3, none⟩ = some (.string s) := by
  obtain ⟨h1, h2, h3, xs0, h4, h5⟩ := h
  obtain ⟨b, e⟩ := h5.atHead (by omega)
  have hx : (xs0 ++ mkL (elR s) 0 m)[(n + k) * 3]? = some (.string s) := by
    rw [List.getElem?_append_right (by omega), h4, show (n + k) * 3 - n * 3 = k * 3 + 0 by omega, mkL_get (elR_len s) 0 hk (by omega)]
    rfl
  obtain ⟨b', o, e', hc⟩ := h5.rd _ _ hx
  rw [e] at e'
  cases e'
  rw [Nat.zero_add] at hc
  exact ⟨b, e, hc⟩
theorem mid (A B : List It) (x : It) : List.Perm (A ++ x :: B) (x :: (A ++ B)) := List.perm_middle
/-- all that was collected, the programs in their boxes ahead -/
theorem stage {L : Nat} {w : World} {la ba al : Option Addr} {lc bc ac B1 B2 : Nat} {ps qs : List PD} {pA pB : PD} {s1 s2 : ByteArray} (h : Fam L w (lsI la lc ((DS ps).flatMap lsD) :: bsI ba bc (DS ps) :: ([alI al ac ps, bxI B1 pA.u.val, bxI B2 pB.u.val] ++ ps.flatMap pIts)))
    (hp : ps = pA :: pB :: qs) : Fam L w (rlI B1 pA.u pA.u.n 0 s1 :: rlI B2 pB.u pB.u.n 0 s2 :: ((lsI la lc ((DS ps).flatMap lsD) :: ((DS ps).flatMap lsD).map tE) ++ bsI ba bc (DS ps) :: (DS ps).map bI)) := by
  have h1 := h.perm (all_perm ps (lsI la lc ((DS ps).flatMap lsD)) [bsI ba bc (DS ps), alI al ac ps, bxI B1 pA.u.val, bxI B2 pB.u.val])
  obtain ⟨ls, hls⟩ : ∃ ls, ls = (DS ps).flatMap lsD := ⟨_, rfl⟩
  obtain ⟨dl, hdl⟩ : ∃ dl, dl = DS ps := ⟨_, rfl⟩
  obtain ⟨ai, hai⟩ : ∃ ai, ai = alI al ac ps := ⟨_, rfl⟩
  rw [← hls, ← hdl, ← hai] at h1
  rw [← hls, ← hdl]
  clear hls hdl hai h
  subst hp
  obtain ⟨A, hA⟩ : ∃ A, A = lsI la lc ls :: ls.map tE := ⟨_, rfl⟩
  rw [← hA] at h1 ⊢
  clear hA
  have h2 : Fam L w ((A ++ [bsI ba bc dl, ai]) ++ bxI B1 pA.u.val :: (bxI B2 pB.u.val :: (dl.map bI ++ (uI pA :: uI pB :: qs.map uI)))) := by
    rw [List.append_assoc]
    exact h1
  have h3 := h2.perm (mid _ _ _)
  have h4 := h3.perm (List.Perm.cons _ (mid _ _ _))
  rw [← List.append_assoc] at h4
  have h5 := h4.perm (List.Perm.cons _ (List.Perm.cons _ (mid _ _ _)))
  have h6 := h5.perm (List.Perm.cons _ (List.Perm.cons _ (List.Perm.cons _ (mid _ _ _))))
  have h7 := rlI_start (s := s1) (h6.perm (List.Perm.cons _ (List.Perm.swap _ _ _)))
  have h8 := rlI_start (s := s2) ((h7.perm (List.Perm.swap _ _ _)).perm (List.Perm.cons _ (List.Perm.swap _ _ _)))
  have h9 := h8.perm (List.Perm.swap _ _ _)
  refine h9.sub (List.Sublist.cons_cons _ (List.Sublist.cons_cons _ ?_))
  rw [List.append_assoc, List.append_assoc]
  refine List.Sublist.append_left ?_ A
  show List.Sublist (bsI ba bc dl :: dl.map bI) (bsI ba bc dl :: ai :: (dl.map bI ++ qs.map uI))
  exact List.Sublist.cons_cons _ (List.Sublist.cons _ (List.sublist_append_left _ _))
theorem bs_fam {L : Nat} {w : World} {ba : Option Addr} {bc : Nat} {dl : List RD} (h : Fam L w (bsI ba bc dl :: dl.map bI)) : Fam L w (blI ba bc (dl.map RD.b) :: (dl.map RD.b).map lE) := by
  have e : bsI ba bc dl = blI ba bc (dl.map RD.b) := by
    unfold bsI blI
    rw [List.length_map, List.map_map]
    rfl
  rw [e] at h
  have h1 : Fam L w ((blI ba bc (dl.map RD.b) :: dl.map bI).map (fun i => i)) := by rw [List.map_id']; exact h
  have hd := List.pairwise_cons.1 h.dj
  refine ⟨fun i hi => ?_, List.pairwise_cons.2 ⟨fun j hj b hb hb' => ?_, ?_⟩, fun i hi b hb => ?_, h.sz⟩
  · rcases List.mem_cons.1 hi with rfl | hi
    · exact h.at_ _ (List.mem_cons_self ..)
    · rw [List.map_map] at hi
      obtain ⟨d, hd, rfl⟩ := List.mem_map.1 hi
      obtain ⟨xs, hO, _⟩ := h.at_ (bI d) (List.mem_cons_of_mem _ (List.mem_map.2 ⟨d, hd, rfl⟩))
      exact ⟨xs, hO, trivial⟩
  · rw [List.map_map] at hj
    obtain ⟨d, hdm, rfl⟩ := List.mem_map.1 hj
    exact hd.1 (bI d) (List.mem_map.2 ⟨d, hdm, rfl⟩) b hb hb'
  · rw [List.map_map, List.pairwise_map]
    have h2 := hd.2
    rw [List.pairwise_map] at h2
    exact h2
  · rcases List.mem_cons.1 hi with rfl | hi
    · exact h.lo _ (List.mem_cons_self ..) b hb
    · rw [List.map_map] at hi
      obtain ⟨d, hd, rfl⟩ := List.mem_map.1 hi
      exact h.lo (bI d) (List.mem_cons_of_mem _ (List.mem_map.2 ⟨d, hd, rfl⟩)) b hb
theorem bl_cell {ba : Option Addr} {bc : Nat} {bs : List Sl} {w : World} (h : (blI ba bc bs).P w) {i : Nat} (hi : i < bs.length) : ∃ b, ba = some ⟨b, 0, none⟩ ∧ w.cell? ⟨b, i, none⟩ = some (.slice bs[i].a bs[i].n bs[i].c) := ownI_cell h hi
theorem sl_cells {s g : Sl} {i k : Nat} {w : World} (h : (itG 44 8 s g (mkL elL i s.n) (mkL glL i 20)).P w) (hk : k < s.n) :
    ∃ b o, s.a = some ⟨b, o, none⟩ ∧ w.cell? ⟨b, o + k * 8, none⟩ = some (.int .i64 (-(i : Int) - 1)) ∧ w.cell? ⟨b, o + k * 8 + 3, none⟩ = some (.int .i64 k) := by
  have g := fun j (hj : j < 8) => mkL_get elL_len i (j := j) hk hj
  obtain ⟨b, o, e, c0⟩ := h.2.1 _ _ (g 0 (by omega))
  obtain ⟨b', o', e', c3⟩ := h.2.1 _ _ (g 3 (by omega))
  rw [e] at e'
  cases e'
  exact ⟨b, o, e, c0, by rw [Nat.add_assoc]; exact c3⟩
theorem gl_cells {s g : Sl} {i k : Nat} {w : World} (h : (itG 44 8 s g (mkL elL i s.n) (mkL glL i 20)).P w) (hk : k < s.n + 20) :
    ∃ b kd op, g.a = some ⟨b, 0, none⟩ ∧ w.cell? ⟨b, k * 8, none⟩ = some (.int .i64 kd) ∧ w.cell? ⟨b, k * 8 + 1, none⟩ = some (.string ⟨#[]⟩) ∧ w.cell? ⟨b, k * 8 + 2, none⟩ = some (.slice none 0 0) ∧ w.cell? ⟨b, k * 8 + 3, none⟩ = some (.int .i64 op) ∧
      w.cell? ⟨b, k * 8 + 4, none⟩ = some (.int .i64 0) ∧ w.cell? ⟨b, k * 8 + 5, none⟩ = some (.string ⟨#[]⟩) ∧ w.cell? ⟨b, k * 8 + 6, none⟩ = some (.int .i64 0) ∧ w.cell? ⟨b, k * 8 + 7, none⟩ = some (.string ⟨#[]⟩) ∧
      (¬ k < s.n → kd = 1000 + (i : Int) ∧ op = (k : Int) - s.n) := by
  obtain ⟨hO, _⟩ := h
  have hl := hO.1
  rw [List.length_append, mkLl_len, mgL_len] at hl
  obtain ⟨b, e⟩ := hO.atHead (by omega)
  have hc : ∀ j u, (mkL elL i s.n ++ mkL glL i 20)[j]? = some u → w.cell? ⟨b, j, none⟩ = some u := fun j u hu => by
    obtain ⟨b', o, e', hc⟩ := hO.rd j u hu
    rw [e] at e'
    cases e'
    rw [Nat.zero_add] at hc
    exact hc
  have hlen := mkLl_len i s.n
  by_cases hlt : k < s.n
  · have g : ∀ j, j < 8 → (mkL elL i s.n ++ mkL glL i 20)[k * 8 + j]? = (elL i k)[j]? := fun j hj => by
      rw [List.getElem?_append_left (by omega)]
      exact mkL_get elL_len i hlt hj
    exact ⟨b, _, _, e, hc _ _ (g 0 (by omega)), hc _ _ (g 1 (by omega)), hc _ _ (g 2 (by omega)), hc _ _ (g 3 (by omega)), hc _ _ (g 4 (by omega)), hc _ _ (g 5 (by omega)), hc _ _ (g 6 (by omega)), hc _ _ (g 7 (by omega)), fun h => absurd hlt h⟩
  · have g : ∀ j, j < 8 → (mkL elL i s.n ++ mkL glL i 20)[k * 8 + j]? = (glL i (k - s.n))[j]? := fun j hj => by
      rw [List.getElem?_append_right (by omega), hlen, show k * 8 + j - s.n * 8 = (k - s.n) * 8 + j by omega]
      exact mkL_get glL_len i (by omega) hj
    exact ⟨b, _, _, e, hc _ _ (g 0 (by omega)), hc _ _ (g 1 (by omega)), hc _ _ (g 2 (by omega)), hc _ _ (g 3 (by omega)), hc _ _ (g 4 (by omega)), hc _ _ (g 5 (by omega)), hc _ _ (g 6 (by omega)), hc _ _ (g 7 (by omega)), fun _ => ⟨rfl, by omega⟩⟩
end Go.Proofs.YtphgglnkdfndiaaDoor
