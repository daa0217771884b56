/-
  apart, walked: lists that lie in blocks of their own share no memory.
-/
import Derived.Test.YtphgglnkdfndiaaDoorGrw
import Derived.Test.YtphgglnkdfndiaaDoorOwG
namespace Go.Proofs.YtphgglnkdfndiaaDoor
open Go Go.RowKit Go.Mine
set_option linter.unusedVariables false
set_option maxHeartbeats 8000000
set_option maxRecDepth 100000

theorem tiTs : TI Tryd.prog 31 33 1 24 := TI.mk' (z := .slice none 0 0) (by kernel_rfl) (by kernel_rfl) rfl (by omega)
theorem tiLs : TI Tryd.prog 32 36 1 24 := TI.mk' (z := .slice none 0 0) (by kernel_rfl) (by kernel_rfl) rfl (by omega)
def elT (i k : Nat) : List Value := [.int .i64 (-1000 * (i : Int) - k - 1), .string ⟨#[]⟩]
def glT (i k : Nat) : List Value := [.int .i64 (1000 * (i : Int) + k), .string ⟨#[]⟩]
theorem elT_len (i k : Nat) : (elT i k).length = 2 := rfl
theorem glT_len (i k : Nat) : (glT i k).length = 2 := rfl
theorem mkT_len (i n : Nat) : (mkL elT i n).length = n * 2 := mkL_len elT_len i n
theorem mgT_len (i n : Nat) : (mkL glT i n).length = n * 2 := mkL_len glT_len i n
def lsI (la : Option Addr) (lc : Nat) (ss : List Sl) : It := ownI 33 1 la ss.length lc (ss.map Sl.val)
abbrev tMk (k i : Nat) (s : Sl) : It := itM 42 2 elT k i s
abbrev tAk (i : Nat) (ss : List Sl) : List It := itA 42 2 elT i ss
theorem tMk_zero {i : Nat} {s : Sl} {w : World} (h : (tE s).P w) : (tMk 0 i s).P w := by
  obtain ⟨xs, h, _⟩ := h
  exact ⟨xs, h, by simp [mkL]⟩
theorem ls_cell {la : Option Addr} {lc : Nat} {ss : List Sl} {w : World} (h : (lsI la lc ss).P w) {i : Nat} (hi : i < ss.length) : ∃ b, la = some ⟨b, 0, none⟩ ∧ w.cell? ⟨b, i, none⟩ = some (.slice ss[i].a ss[i].n ss[i].c) := by
  have hO : Mine.Own w 33 1 la ss.length lc (ss.map Sl.val) := h
  obtain ⟨b, rfl⟩ := hO.atHead (by omega)
  obtain ⟨b', o, e, hc⟩ := hO.rd i ss[i].val (by rw [List.getElem?_map, List.getElem?_eq_getElem hi]; rfl)
  cases e
  rw [Nat.zero_add] at hc
  exact ⟨b, rfl, hc⟩
/-- one mark more -/
theorem tMk_step {k i : Nat} {s : Sl} {w : World} {gb : Nat} (h : (tMk k i s).P w) (hk : k < s.n) (ha : s.a = some ⟨gb, 0, none⟩) :
    (tMk (k + 1) i s).P ((w.setCell ⟨gb, k * 2, none⟩ (.int .i64 (-1000 * (i : Int) - k - 1))).setCell ⟨gb, k * 2 + 1, none⟩ (.string ⟨#[]⟩)) := by
  obtain ⟨sa, sn, sc⟩ := s
  simp only at ha hk
  subst ha
  obtain ⟨xs, hO, hq⟩ := h
  have hO : Mine.Own w 42 2 (some ⟨gb, 0, none⟩) sn sc xs := hO
  have hl : xs.length = sn * 2 := hO.1
  have hS := (hO.store (k * 2) (.int .i64 (-1000 * (i : Int) - k - 1))).store (k * 2 + 1) (.string ⟨#[]⟩)
  have e1 : xs.set (k * 2) (.int .i64 (-1000 * (i : Int) - k - 1)) = putL xs (k * 2) [.int .i64 (-1000 * (i : Int) - k - 1)] := by
    have := putL_snoc (xs := xs) (j := k * 2) (us := []) (u := .int .i64 (-1000 * (i : Int) - k - 1)) (by simp; omega)
    rw [putL_nil] at this
    exact this
  have e2 := putL_snoc (xs := xs) (j := k * 2) (us := [.int .i64 (-1000 * (i : Int) - k - 1)]) (u := .string ⟨#[]⟩) (by simp; omega)
  rw [e1] at hS
  refine ⟨_, hS, ?_⟩
  have e3 := putL_take (xs := xs) (j := k * 2) (us := elT i k) (by show _ + 2 ≤ _; omega)
  rw [show k * 2 + (elT i k).length = (k + 1) * 2 by show _ + 2 = _; omega, hq, ← mkL_succ] at e3
  have e2' : (putL xs (k * 2) [.int .i64 (-1000 * (i : Int) - k - 1)]).set (k * 2 + 1) (.string ⟨#[]⟩) = putL xs (k * 2) (elT i k) := e2
  rw [e2']
  exact e3
theorem tMk_cells {k i : Nat} {s : Sl} {w : World} (h : (tMk k i s).P w) {j : Nat} (hj : j < s.n) : ∃ gb, s.a = some ⟨gb, 0, none⟩ ∧ (∃ u, w.cell? ⟨gb, j * 2, none⟩ = some u) ∧ (∃ u, w.cell? ⟨gb, j * 2 + 1, none⟩ = some u) ∧ ∀ j, w.frozen? ⟨gb, j, none⟩ = false := by
  obtain ⟨xs, hO, hq⟩ := h
  have hl : xs.length = s.n * 2 := hO.1
  obtain ⟨gb, e⟩ := hO.atHead (by omega)
  have g : ∀ j, j < xs.length → ∃ u, w.cell? ⟨gb, j, none⟩ = some u := fun j hj => by
    obtain ⟨b', o, e', hc⟩ := hO.rd j xs[j] (List.getElem?_eq_getElem hj)
    rw [e] at e'
    cases e'
    rw [Nat.zero_add] at hc
    exact ⟨_, hc⟩
  exact ⟨gb, e, g _ (by omega), g _ (by omega), fun j => hO.frozen (by rw [e]; rfl)⟩

theorem apart_any (ss : List Sl) (la : Option Addr) (lc L : Nat) (w : World) (hF : Fam L w (lsI la lc ss :: ss.map tE)) (hn : ss.length < 2 ^ 40) (h64 : ∀ s ∈ ss, s.n ≤ 64) :
    Calls Tryd.prog 9 #[.slice la ss.length lc] w fun e w' => e = .returned (.bool true) ∧ Mod (fun b => ∃ s ∈ ss, blk s.a = some b) w w' := by
  have HF := Lib.hid hF; have H64 := Lib.hid h64
  clear hF h64
  go_enter Tryd.func9, Tryd.ntmps9
  go_wp2_with fail
  go_loopw [3, 4] (fun iv _ wr => ∃ i : Nat, iv = .int .i64 i ∧ i ≤ ss.length ∧ Hid (Fam L wr (lsI la lc ss :: (tAk 0 (ss.take i) ++ (ss.drop i).map tE))) ∧ Hid (Mod (fun b => ∃ s ∈ ss, blk s.a = some b) w wr)) (fun iv _ _ => ss.length - (intOf iv).toNat)
  case atStart => exact ⟨0, rfl, Nat.zero_le _, HF, Lib.hid (Mod.refl _ _)⟩
  case round =>
    obtain ⟨i, rfl, hi, hf, hM⟩ := hrel
    by_cases hlt : i < ss.length
    · obtain ⟨lb, rfl, c0⟩ := ls_cell (hf.out.at_ _ (List.mem_cons_self ..)) hlt
      have hs64 := H64.out _ (List.getElem_mem hlt)
      have hmem := List.getElem_mem hlt
      obtain ⟨s, hs⟩ : ∃ s, s = ss[i] := ⟨_, rfl⟩
      have hd : ss.drop i = s :: ss.drop (i + 1) := by rw [hs]; exact List.drop_eq_getElem_cons hlt
      have htk : ss.take (i + 1) = ss.take i ++ [s] := by rw [hs]; exact List.take_succ_eq_append_getElem hlt
      rw [← hs] at c0 hs64 hmem
      have HSI := Lib.hid hs
      have HD := Lib.hid hd; have HTK := Lib.hid htk; have HMEM := Lib.hid hmem
      have HF1 : Hid (Fam L wr ((lsI (some ⟨lb, 0, none⟩) lc ss :: tAk 0 (ss.take i)) ++ tMk 0 i s :: (ss.drop (i + 1)).map tE)) := by
        have h := hf.out
        rw [hd, List.map_cons] at h
        exact Lib.hid (Fam.upd (l1 := lsI (some ⟨lb, 0, none⟩) lc ss :: tAk 0 (ss.take i)) (l2 := (ss.drop (i + 1)).map tE) (i := tE s) (i' := tMk 0 i s) h (Mod.refl _ _) (tMk_zero (h.at_ (tE s) (by simp))) (fun b hb => .inl hb))
      clear hs hd htk hmem hf
      obtain ⟨sa, sn, sc⟩ := s
      simp only at c0 hs64
      go_wp2_with fail
      go_loopw [4] (fun iv wv => ∃ k : Nat, iv = .int .i64 k ∧ k ≤ sn ∧ Hid (Fam L wv ((lsI (some ⟨lb, 0, none⟩) lc ss :: tAk 0 (ss.take i)) ++ tMk k i ⟨sa, sn, sc⟩ :: (ss.drop (i + 1)).map tE)) ∧ Hid (Mod (fun b => ∃ s ∈ ss, blk s.a = some b) w wv)) (fun iv _ => sn - (intOf iv).toNat)
      case atStart => exact ⟨0, rfl, Nat.zero_le _, HF1, hM⟩
      case round =>
        obtain ⟨k, rfl, hk, hf, hM⟩ := hrel
        have c0 := (ls_cell (hf.out.at_ _ (List.mem_cons_self ..)) hlt)
        obtain ⟨lb', e, c0⟩ := c0
        cases e
        rw [← HSI.out] at c0
        by_cases hlk : k < sn
        · obtain ⟨gb, ha, ⟨u0, x0⟩, ⟨u1, x1⟩, hfz⟩ := tMk_cells (hf.out.at_ (tMk k i ⟨sa, sn, sc⟩) (by simp)) hlk
          simp only at ha
          subst ha
          have f0 := hfz (k * 2); have f1 := hfz (k * 2 + 1)
          clear hfz
          have hu := hf.out.upd (i' := tMk (k + 1) i ⟨some ⟨gb, 0, none⟩, sn, sc⟩) (((Mod.refl (fun b => blk (some (⟨gb, 0, none⟩ : Addr)) = some b) wr).setCell (p := ⟨gb, k * 2, none⟩) (fun _ => rfl) (.int .i64 (-1000 * (i : Int) - k - 1))).setCell (p := ⟨gb, k * 2 + 1, none⟩) (fun _ => rfl) (.string ⟨#[]⟩)) (tMk_step (hf.out.at_ (tMk k i ⟨some ⟨gb, 0, none⟩, sn, sc⟩) (by simp)) hlk rfl) (fun b hb => .inl hb)
          have hm2 : Mod (fun b => ∃ s ∈ ss, blk s.a = some b) w ((wr.setCell ⟨gb, k * 2, none⟩ (.int .i64 (-1000 * (i : Int) - k - 1))).setCell ⟨gb, k * 2 + 1, none⟩ (.string ⟨#[]⟩)) :=
            (hM.out.setCell (p := ⟨gb, k * 2, none⟩) (fun _ => ⟨_, HMEM.out, rfl⟩) _).setCell (p := ⟨gb, k * 2 + 1, none⟩) (fun _ => ⟨_, HMEM.out, rfl⟩) _
          have HU := Lib.hid hu; have HM2 := Lib.hid hm2
          clear hu hm2 hf hM
          go_wp2_with fail
          go_roundw
          case rel => exact ⟨k + 1, by go_num, hlk, HU, HM2⟩
          case measure => simp [intOf]; omega
        · obtain rfl : k = sn := by omega
          have HF2 : Hid (Fam L wr (lsI (some ⟨lb, 0, none⟩) lc ss :: (tAk 0 (ss.take (i + 1)) ++ (ss.drop (i + 1)).map tE))) := by
            have h := hf.out
            unfold tAk at h ⊢
            rw [HTK.out, itA_append, List.append_assoc]
            have e : (ss.take i).length = i := by rw [List.length_take]; omega
            rw [Nat.zero_add, e]
            exact Lib.hid h
          clear hf
          go_wp2_with fail
          go_roundw
          case rel => exact ⟨i + 1, by go_num, hlt, HF2, hM⟩
          case measure => simp [intOf]; omega
    · obtain rfl : i = ss.length := by omega
      have HF2 : Hid (Fam L wr (lsI la lc ss :: tAk 0 ss)) := by
        have h := hf.out
        rw [List.take_length, List.drop_length, List.map_nil, List.append_nil] at h
        exact Lib.hid h
      clear hf hi hlt HF
      have HF3 : Hid (Fam L wr (lsI la lc ss :: lsI none 0 [] :: (itGs 42 2 elT glT 70 0 [] [] ++ tAk 0 ss))) :=
        Lib.hid ((HF2.out.cons (i := lsI none 0 []) (Mod.refl _ _) (Mine.Own.nil _ _ _) (fun b hb => by cases hb)).perm (List.Perm.swap _ _ _))
      clear HF2
      go_wp2_with fail
      go_loopw [5, 6, 7, 8] (fun gv iv _ _ wv => ∃ (i : Nat) (gs : List Sl) (ga : Option Addr) (gc : Nat), iv = .int .i64 i ∧ gv = .slice ga gs.length gc ∧ gs.length = i ∧ i ≤ ss.length ∧
        Hid (Fam L wv (lsI la lc ss :: lsI ga gc gs :: (itGs 42 2 elT glT 70 0 (ss.take i) gs ++ tAk i (ss.drop i)))) ∧ Hid (Mod (fun b => ∃ s ∈ ss, blk s.a = some b) w wv) ∧ Hid (∀ b, blk ga = some b → w.heap.size ≤ b)) (fun _ iv _ _ _ => ss.length - (intOf iv).toNat)
      case atStart => exact ⟨0, [], none, 0, rfl, rfl, rfl, Nat.zero_le _, HF3, hM, Lib.hid (fun b hb => by cases hb)⟩
      case round =>
        obtain ⟨i, gs, ga, gc, rfl, rfl, hgl, hi, hf, hM, hga⟩ := hrel
        by_cases hlt : i < ss.length
        · obtain ⟨lb, rfl, c0⟩ := ls_cell (hf.out.at_ _ (List.mem_cons_self ..)) hlt
          have hs64 := H64.out _ (List.getElem_mem hlt)
          have hmem := List.getElem_mem hlt
          obtain ⟨s, hs⟩ : ∃ s, s = ss[i] := ⟨_, rfl⟩
          have hd : ss.drop i = s :: ss.drop (i + 1) := by rw [hs]; exact List.drop_eq_getElem_cons hlt
          have htk : ss.take (i + 1) = ss.take i ++ [s] := by rw [hs]; exact List.take_succ_eq_append_getElem hlt
          rw [← hs] at c0 hs64 hmem
          have HTK := Lib.hid htk; have HMEM := Lib.hid hmem; have HGL := Lib.hid hgl
          have HF1 : Hid (Fam L wr ((lsI (some ⟨lb, 0, none⟩) lc ss :: lsI ga gc gs :: itGs 42 2 elT glT 70 0 (ss.take i) gs) ++ itG 42 2 s s (mkL elT i s.n) (mkL glT i 0) :: tAk (i + 1) (ss.drop (i + 1)))) := by
            have h := hf.out
            rw [hd] at h
            exact Lib.hid (Fam.upd (l1 := lsI (some ⟨lb, 0, none⟩) lc ss :: lsI ga gc gs :: itGs 42 2 elT glT 70 0 (ss.take i) gs) (l2 := tAk (i + 1) (ss.drop (i + 1))) (i := tMk s.n i s) (i' := itG 42 2 s s (mkL elT i s.n) []) h (Mod.refl _ _) (itG_of (h.at_ (tMk s.n i s) (by simp [tAk, itA]))) (fun b hb => .inl (hb.elim id id)))
          clear hs hd htk hmem hf
          obtain ⟨sa, sn, sc⟩ := s
          simp only at c0 hs64
          go_wp2_with fail
          go_loopw [7, 8] (fun gv kv wv => ∃ (k : Nat) (ga' : Option Addr) (gc' : Nat), kv = .int .i64 k ∧ gv = .slice ga' (sn + k) gc' ∧ k ≤ 70 ∧
            Hid (Fam L wv ((lsI (some ⟨lb, 0, none⟩) lc ss :: lsI ga gc gs :: itGs 42 2 elT glT 70 0 (ss.take i) gs) ++ itG 42 2 ⟨sa, sn, sc⟩ ⟨ga', sn + k, gc'⟩ (mkL elT i sn) (mkL glT i k) :: tAk (i + 1) (ss.drop (i + 1)))) ∧
            Hid (Mod (fun b => ∃ s ∈ ss, blk s.a = some b) w wv) ∧ Hid (∀ b, blk ga' = some b → blk sa = some b ∨ w.heap.size ≤ b)) (fun _ kv _ => 70 - (intOf kv).toNat)
          case atStart => exact ⟨0, sa, sc, rfl, rfl, by omega, HF1, hM, Lib.hid (fun b hb => .inl hb)⟩
          case round =>
            obtain ⟨k, ga', gc', rfl, rfl, hk, hf, hM, hg⟩ := hrel
            by_cases hlk : k < 70
            · go_wp2_with (at_builtin; refine wpL_appendG (g := ⟨ga', sn + k, gc'⟩) (us := [.int .i64 (1000 * (i : Int) + k), .string ⟨#[]⟩]) rfl (.tmp 53) (.tmp 59) 33 rfl tiT hf.out rfl rfl rfl rfl (by show (sn + k + 1) * _ ≤ _; omega) (by show sn + k + 1 ≤ _; unfold maxLen; omega) ?_; intro a' c' w' hF' hM' hg'
                           have HFN : Hid (Fam L w' ((lsI (some ⟨lb, 0, none⟩) lc ss :: lsI ga gc gs :: itGs 42 2 elT glT 70 0 (ss.take i) gs) ++ itG 42 2 ⟨sa, sn, sc⟩ ⟨a', sn + k + 1, c'⟩ (mkL elT i sn) (mkL glT i (k + 1)) :: tAk (i + 1) (ss.drop (i + 1)))) := by rw [mkL_succ]; exact Lib.hid hF'
                           have HMN : Hid (Mod (fun b => ∃ s ∈ ss, blk s.a = some b) w w') := Lib.hid (hM.out.step hM' (fun b hb e => by
                             rcases e with e | e
                             · exact ⟨_, HMEM.out, e⟩
                             · rcases hg.out b e with e | e
                               · exact ⟨_, HMEM.out, e⟩
                               · omega))
                           have HGN : Hid (∀ b, blk a' = some b → blk sa = some b ∨ w.heap.size ≤ b) := Lib.hid (fun b hb => by
                             rcases hg' with e | e
                             · rw [e] at hb; exact hg.out b hb
                             · have := hM.out.size; have := e b hb; exact .inr (by omega))
                           clear hF' hM' hg' hf hM hg)
              go_roundw
              case rel => exact ⟨k + 1, a', c', by go_num, rfl, hlk, HFN, HMN, HGN⟩
              case measure => simp [intOf]; omega
            · obtain rfl : k = 70 := by omega
              have hG1 : Mine.Own wr 33 1 ga gs.length gc (gs.map Sl.val) := hf.out.at_ (lsI ga gc gs) (by simp)
              rw [hgl] at hG1
              have HG1 := Lib.hid hG1
              clear hG1
              go_wp2_with (at_builtin; refine wpL_appendN (us := [.slice ga' (sn + 70) gc']) rfl (.tmp 61) (.tmp 63) 31 rfl tiTs rfl HG1.out rfl rfl rfl (by show (i + 1) * _ ≤ _; omega) (by show i + 1 ≤ _; unfold maxLen; omega) ?_; intro a' c' w' hO' hG' _
                           have hO2 : (lsI a' c' (gs ++ [(⟨ga', sn + 70, gc'⟩ : Sl)])).P w' := by
                             show Mine.Own w' _ 1 a' (gs ++ [(⟨ga', sn + 70, gc'⟩ : Sl)]).length c' _
                             rw [List.length_append, List.map_append, HGL.out]; exact hO'
                           have HFN : Hid (Fam L w' (lsI (some ⟨lb, 0, none⟩) lc ss :: lsI a' c' (gs ++ [⟨ga', sn + 70, gc'⟩]) :: (itGs 42 2 elT glT 70 0 (ss.take (i + 1)) (gs ++ [⟨ga', sn + 70, gc'⟩]) ++ tAk (i + 1) (ss.drop (i + 1))))) := by
                             have h := Fam.upd (l1 := [lsI (some ⟨lb, 0, none⟩) lc ss]) (l2 := itGs 42 2 elT glT 70 0 (ss.take i) gs ++ itG 42 2 ⟨sa, sn, sc⟩ ⟨ga', sn + 70, gc'⟩ (mkL elT i sn) (mkL glT i 70) :: tAk (i + 1) (ss.drop (i + 1))) (i := lsI ga gc gs) hf.out hG'.mod hO2 (fun b hb => by
                               rcases hG'.pos with e | ⟨g, e, hg⟩
                               · exact .inl (by show blk ga = some b; rw [← e]; exact hb)
                               · have hb : blk a' = some b := hb
                                 rw [e] at hb; cases hb; exact .inr hg)
                             have e : (ss.take i).length = i := by rw [List.length_take]; omega
                             have e2 := itGs_snoc 42 2 elT glT 70 ⟨sa, sn, sc⟩ ⟨ga', sn + 70, gc'⟩ 0 (ss.take i) gs (HGL.out.trans e.symm)
                             rw [Nat.zero_add, e] at e2
                             rw [HTK.out, e2, List.append_assoc]
                             exact Lib.hid h
                           have HMN : Hid (Mod (fun b => ∃ s ∈ ss, blk s.a = some b) w w') := Lib.hid (hM.out.step hG'.mod (fun b hb e => by have := hga.out b e; omega))
                           have HGN : Hid (∀ b, blk a' = some b → w.heap.size ≤ b) := Lib.hid (fun b hb => by
                             rcases hG'.pos with e | ⟨g, e, hg'⟩
                             · rw [e] at hb; exact hga.out b hb
                             · have := hM.out.size; rw [e] at hb; cases hb; omega)
                           have HLN : Hid ((gs ++ [(⟨ga', sn + 70, gc'⟩ : Sl)]).length = i + 1) := by rw [List.length_append, HGL.out]; exact Lib.hid rfl
                           clear hO' hG' hO2 hf hM hg hga)
              go_roundw
              case rel => exact ⟨i + 1, _, a', c', by go_num, by rw [HLN.out], HLN.out, hlt, HFN, HMN, HGN⟩
              case measure => simp [intOf]; omega
        · obtain rfl : i = ss.length := by omega
          have HF4 : Hid (Fam L wr (lsI la lc ss :: lsI ga gc gs :: itGs 42 2 elT glT 70 0 ss gs)) := by
            have h := hf.out
            rw [List.take_length, List.drop_length] at h
            unfold tAk itA at h
            rw [List.append_nil] at h
            exact Lib.hid h
          have HGL := Lib.hid hgl
          obtain ⟨w5, hw5⟩ : ∃ v, v = wr := ⟨_, rfl⟩
          rw [← hw5] at HF4 hM ⊢
          clear hw5 hf hi hlt hga hgl
          go_wp2_with fail
          go_loopw [9, 10, 11] (fun iv _ _ wv => ∃ i : Nat, iv = .int .i64 i ∧ i ≤ ss.length ∧ wv = w5) (fun iv _ _ _ => ss.length - (intOf iv).toNat)
          case atStart => exact ⟨0, rfl, Nat.zero_le _, rfl⟩
          case round =>
            obtain ⟨i, rfl, hi, rfl⟩ := hrel
            by_cases hlt : i < ss.length
            · obtain ⟨lb, rfl, c0⟩ := ls_cell (HF4.out.at_ _ (List.mem_cons_self ..)) hlt
              have hlg : i < gs.length := by rw [HGL.out]; exact hlt
              obtain ⟨gb, rfl, c1⟩ := ls_cell (HF4.out.at_ (lsI ga gc gs) (by simp)) hlg
              have hP := HF4.out.at_ _ (List.mem_cons_of_mem _ (List.mem_cons_of_mem _ (itGs_mem (i := 0) (List.getElem?_eq_getElem hlt) (List.getElem?_eq_getElem hlg))))
              have hs64 := H64.out _ (List.getElem_mem hlt)
              rw [Nat.zero_add] at hP
              have hgn : gs[i].n = ss[i].n + 70 := by
                have h1 := hP.1.1
                rw [List.length_append, mkT_len, mgT_len] at h1
                omega
              have HP := Lib.hid hP
              rw [hgn] at c1
              clear hP
              generalize ss[i] = s at *
              generalize gs[i] = g at *
              obtain ⟨sa, sn, sc⟩ := s
              obtain ⟨ga2, gn2, gc2⟩ := g
              simp only at c0 c1 hs64 hgn
              subst hgn
              go_wp2_with fail
              go_loopw [11] (fun kv wv => ∃ k : Nat, kv = .int .i64 k ∧ k ≤ sn + 70 ∧ wv = wr) (fun kv _ => sn + 70 - (intOf kv).toNat)
              case atStart => exact ⟨0, rfl, Nat.zero_le _, rfl⟩
              case round =>
                obtain ⟨k, rfl, hk, rfl⟩ := hrel
                by_cases hlk : k < sn + 70
                · by_cases hls : k < sn
                  · obtain ⟨b, o, e, x0⟩ := HP.out.2.1 (k * 2) (.int .i64 (-1000 * (i : Int) - k - 1)) (mkL_get elT_len i (j := 0) hls (by omega))
                    simp only at e
                    subst e
                    go_wp2_with fail
                    go_roundw
                    case rel => exact ⟨k + 1, by go_num, hlk, trivial⟩
                    case measure => simp [intOf]; omega
                  · have h2 : (mkL elT i sn ++ mkL glT i 70)[k * 2]? = some (.int .i64 (1000 * (i : Int) + k - sn)) := by
                      have hl := mkT_len i sn
                      rw [List.getElem?_append_right (by omega), hl, show k * 2 - sn * 2 = (k - sn) * 2 by omega]
                      have := mkL_get glT_len i (n := 70) (k := k - sn) (j := 0) (by omega) (by omega)
                      rw [Nat.add_zero] at this
                      rw [this]
                      show some (Value.int .i64 (1000 * (i : Int) + ((k - sn : Nat) : Int))) = _
                      congr 2
                      omega
                    obtain ⟨b, o, e, x0⟩ := HP.out.1.rd (k * 2) _ h2
                    simp only at e
                    subst e
                    clear h2
                    go_wp2_with fail
                    go_roundw
                    case rel => exact ⟨k + 1, by go_num, hlk, trivial⟩
                    case measure => simp [intOf]; omega
                · obtain rfl : k = sn + 70 := by omega
                  go_wp2_with fail
                  go_roundw
                  case rel => exact ⟨i + 1, by go_num, hlt, trivial⟩
                  case measure => simp [intOf]; omega
            · obtain rfl : i = ss.length := by omega
              go_wp2_with fail
              go_ret
              exact ⟨rfl, hM.out⟩
end Go.Proofs.YtphgglnkdfndiaaDoor
