/-
  A writer's strings.Builder: as Build, in a block of the writer's type.
-/
import Derived.Test.YtphgglnkdfndiaaDoorBuQ
namespace Go.Proofs.YtphgglnkdfndiaaDoor
open Go Go.RowKit Go.Mine
set_option maxHeartbeats 400000
set_option maxRecDepth 100000
set_option linter.unusedVariables false

/-- a writer at block p has the bytes l -/
def BwAt (w : World) (p : Nat) (a : Option Addr) (l : List UInt8) : Prop :=
  blk a ≠ some p ∧ ∃ v c, (v = .pointer none ∨ v = .pointer (some ⟨p, 0, none⟩)) ∧ w.heap[p]? = some (.cells #[v, .slice a l.length c] 103 (0, 0)) ∧ Own w 5 1 a l.length c (bts l)
theorem BwAt.mod {S : Nat → Prop} {w w' : World} {p : Nat} {a : Option Addr} {l : List UInt8} (h : BwAt w p a l) (m : Mod S w w') (h1 : ¬ S p) (h2 : ∀ b, blk a = some b → ¬ S b) : BwAt w' p a l := by
  obtain ⟨h0, v, c, hv, h3, h4⟩ := h
  exact ⟨h0, v, c, hv, m.at h3 h1, h4.mod m h2⟩
theorem BwAt.mod0 {w w' : World} {p : Nat} {a : Option Addr} {l : List UInt8} (h : BwAt w p a l) (m : Mod (fun _ => False) w w') : BwAt w' p a l := h.mod m id (fun _ _ => id)
theorem BwAt.lt {w : World} {p : Nat} {a : Option Addr} {l : List UInt8} (h : BwAt w p a l) : p < w.heap.size := by
  obtain ⟨_, v, c, _, h3, _⟩ := h
  exact (Array.getElem?_eq_some_iff.1 h3).1
/-- 'var b strings.Builder' -/
theorem BwAt.fresh (w : World) : BwAt (w.alloc (.cells #[.pointer none, .slice none 0 0] 103)) w.heap.size none [] :=
  ⟨by simp, _, 0, .inl rfl, heap_alloc_new w _, Own.nil _ _ _⟩
/-- the bytes have grown, and are laid back -/
theorem BwAt.put {w w2 : World} {p : Nat} {a a2 : Option Addr} {c2 n : Nat} {v0 : Value} {l : List UInt8} (hne : blk a ≠ some p) (h : w.heap[p]? = some (.cells #[.pointer (some ⟨p, 0, none⟩), v0] 103 (0, 0)))
    (hO : Own w2 5 1 a2 l.length c2 (bts l)) (hG : Grow w a w2 a2) (hn : n = l.length) : BwAt (w2.setCell ⟨p, 1, none⟩ (.slice a2 n c2)) p a2 l ∧ BuGo w p a (w2.setCell ⟨p, 1, none⟩ (.slice a2 n c2)) a2 := by
  subst hn
  have hlt := (Array.getElem?_eq_some_iff.1 h).1
  have hne2 : blk a2 ≠ some p := hG.ne hlt hne
  have h2 := hG.mod.at h hne
  refine ⟨⟨hne2, _, c2, .inr rfl, heap_setCell_at _ h2, hO.mod ((Mod.refl (fun b => b = p) w2).setCell (fun _ => rfl) _) (fun b hb e => hne2 (by rw [hb, e]))⟩, (hG.mod.mono fun _ _ h => .inr h).setCell (fun _ => .inl rfl) _, hG.pos⟩

theorem copyCheckW_any (p : Nat) (a : Option Addr) (l : List UInt8) (w : World) (h : BwAt w p a l) :
    Calls Tryd.prog 79 #[.pointer (some ⟨p, 0, none⟩)] w fun e w' => e = .returned (.tuple #[]) ∧ (∃ c, w'.heap[p]? = some (.cells #[.pointer (some ⟨p, 0, none⟩), .slice a l.length c] 103 (0, 0)) ∧ Own w' 5 1 a l.length c (bts l)) ∧ Mod (fun b => b = p) w w' := by
  obtain ⟨hne, v, c, hv, hbk, hO⟩ := h
  have hm : (Tryd.prog.info? 101).map (·.size) = some 2 := by kernel_rfl
  obtain ⟨j, hj, hjs⟩ := Option.map_eq_some_iff.1 hm
  clear hm
  have ts : Tryd.prog.underlying 98 = some (.pointer 101) := by kernel_rfl
  have tu : Tryd.prog.underlying 144 = some .unsafePointer := by kernel_rfl
  have hc0 : w.cell? ⟨p, 0, none⟩ = some v := by rw [cell_of_row w p 0 _ _ (0,0) hbk]; rfl
  rcases hv with rfl | rfl
  · have hfz : w.frozen? ⟨p, 0, none⟩ = false := by simp [World.frozen?, hbk]
    have hsh : w.shape? p = some (103, 2) := by simp [World.shape?, hbk]
    have e1 := Lib.run_to_unsafe (P := Tryd.prog) w ⟨p, 0, none⟩ ts tu hj (by rw [hjs]; decide) hsh (Nat.zero_lt_succ 1)
    have e2 := Lib.run_from_unsafe (P := Tryd.prog) w ⟨p, 0, none⟩ tu ts hj hsh (by kernel_rfl)
    have HO := Lib.hid hO; have HB := Lib.hid hbk; have HN := Lib.hid hne; clear hO hbk hne
    go_enter Tryd.func79, Tryd.ntmps79
    go_wp2
    rw [run_callFunc_extern Tryd.func88 (by kernel_rfl) (by kernel_rfl) (by kernel_rfl) (e := Extern.AbiNoEscape.same) (by kernel_rfl)]
    rw [Lib.run_noEscape]
    simp only [Result.andThen]
    rw [Oper.upon_value]
    go_wp2
    go_end0
    refine ⟨rfl, ⟨c, heap_setCell_at _ HB.out, HO.out.mod ((Mod.refl (fun b => b = p) w).setCell (fun _ => rfl) _) (fun b hb e => HN.out (by rw [hb, e]))⟩, Mine.Mod.setCell (S := fun b => b = p) (p := ⟨p, 0, none⟩) (Mod.refl _ w) (fun _ => rfl) _⟩
  · have HO := Lib.hid hO; have HB := Lib.hid hbk; have HN := Lib.hid hne; clear hO hbk hne
    have e1 := Lib.run_neq_ptr_same (P := Tryd.prog) w ⟨p, 0, none⟩ ts hj
    go_enter Tryd.func79, Tryd.ntmps79
    go_wp2
    go_end0
    exact ⟨rfl, ⟨c, HB.out, HO.out⟩, Mod.refl _ _⟩

theorem writeByteW_any (p : Nat) (a : Option Addr) (l : List UInt8) (c : UInt8) (w : World) (h : BwAt w p a l) (hl : l.length < 2 ^ 40) :
    Calls Tryd.prog 87 #[.pointer (some ⟨p, 0, none⟩), .int .u8 c.toNat] w fun e w' => e = .returned .nilIface ∧ ∃ a', BwAt w' p a' (l ++ [c]) ∧ BuGo w p a w' a' := by
  have HC := Lib.hid (copyCheckW_any p a l w h)
  have hne := h.1
  have hlt := h.lt
  have HN := Lib.hid hne; clear h hne
  go_enter Tryd.func87, Tryd.ntmps87
  go_wp2_with (first
    | (go_at_call 79; refine HC.out.mono ?_; rintro e w1 ⟨rfl, ⟨c1, hb1, hO1⟩, hM1⟩
       have d1 : w1.cell? ⟨p, 1, none⟩ = some (.slice a l.length c1) := by rw [cell_of_row w1 p 1 _ _ (0,0) hb1]; rfl
       have HO1 := Lib.hid hO1; have HB1 := Lib.hid hb1; have HM1 := Lib.hid hM1; clear hO1 hb1 hM1)
    | (at_builtin; refine wpL_appendN (us := [_]) rfl (.tmp 11) (.tmp 13) 99 rfl ti24 rfl HO1.out rfl rfl rfl (by omega) (by unfold maxLen; omega) ?_; intro a2 c2 w2 hO2 hG2 _
       have f1 : w2.frozen? ⟨p, 1, none⟩ = false := frozen_at (hG2.mod.at HB1.out HN.out)
       have d2 := hG2.mod.cell d1 HN.out
       have HO2 := Lib.hid hO2; have HG2 := Lib.hid hG2; clear hO2 hG2))
  go_ret
  have hO2 : Own w2 5 1 a2 (l ++ [c]).length c2 (bts (l ++ [c])) := by rw [bts_append, List.length_append]; exact HO2.out
  have := BwAt.put HN.out HB1.out hO2 HG2.out (n := l.length + 1) (by simp)
  exact ⟨rfl, a2, this.1, BuGo.trans ⟨HM1.out.mono (fun _ _ h => .inl h), .inl rfl⟩ this.2⟩

theorem writeStringW_any (p : Nat) (a : Option Addr) (l : List UInt8) (s : ByteArray) (w : World) (h : BwAt w p a l) (hl : l.length + s.size < 2 ^ 40) :
    Calls Tryd.prog 70 #[.pointer (some ⟨p, 0, none⟩), .string s] w fun e w' => e = .returned (.tuple #[.int .i64 s.size, .nilIface]) ∧ ∃ a', BwAt w' p a' (l ++ s.data.toList) ∧ BuGo w p a w' a' := by
  have HC := Lib.hid (copyCheckW_any p a l w h)
  have hne := h.1
  have hlt := h.lt
  have HN := Lib.hid hne; clear h hne
  go_enter Tryd.func70, Tryd.ntmps70
  go_wp2_with (first
    | (go_at_call 79; refine HC.out.mono ?_; rintro e w1 ⟨rfl, ⟨c1, hb1, hO1⟩, hM1⟩
       have d1 : w1.cell? ⟨p, 1, none⟩ = some (.slice a l.length c1) := by rw [cell_of_row w1 p 1 _ _ (0,0) hb1]; rfl
       have HO1 := Lib.hid hO1; have HB1 := Lib.hid hb1; have HM1 := Lib.hid hM1; clear hO1 hb1 hM1)
    | (at_builtin; refine wpL_append rfl (.tmp 12) (.tmp 13) 99 9 rfl ti24 rfl HO1.out rfl (Src.ofString _ (by kernel_rfl) s) (by omega) (by unfold maxLen; omega) ?_; intro a2 c2 w2 hO2 hG2 _
       have f1 : w2.frozen? ⟨p, 1, none⟩ = false := frozen_at (hG2.mod.at HB1.out HN.out)
       have d2 := hG2.mod.cell d1 HN.out
       have HO2 := Lib.hid hO2; have HG2 := Lib.hid hG2; clear hO2 hG2))
  go_ret2
  have hsz : s.data.toList.length = s.size := (Lib.size_eq s).symm
  have hO2 : Own w2 5 1 a2 (l ++ s.data.toList).length c2 (bts (l ++ s.data.toList)) := by rw [bts_append, List.length_append, hsz, ← bts_byteCells]; exact HO2.out
  have := BwAt.put HN.out HB1.out hO2 HG2.out (n := l.length + s.size) (by rw [List.length_append, hsz])
  exact ⟨rfl, a2, this.1, BuGo.trans ⟨HM1.out.mono (fun _ _ h => .inl h), .inl rfl⟩ this.2⟩

theorem bStringW_any (p : Nat) (a : Option Addr) (l : List UInt8) (w : World) (h : BwAt w p a l) (hl : l.length < 2 ^ 40) (hz : l = [] → a = none) :
    Calls Tryd.prog 52 #[.pointer (some ⟨p, 0, none⟩)] w fun e w' => e = .returned (.string ⟨l.toArray⟩) ∧ Mod (fun b => b = p ∨ blk a = some b) w w' := by
  obtain ⟨hne, v, c, hv, hbk, hO⟩ := h
  have hc1 : w.cell? ⟨p, 1, none⟩ = some (.slice a l.length c) := by rw [cell_of_row w p 1 _ _ (0,0) hbk]; rfl
  by_cases h0 : l = []
  · obtain rfl := hz h0
    subst h0
    obtain rfl : c = 0 := by
      rcases hO.2 with ⟨_, _, h⟩ | ⟨_, _, h, _⟩
      · exact h
      · cases h
    clear hO hbk hne hv hz
    have hUS := fun (w : World) q => Lib.run_unsafeString_none (P := Tryd.prog) w 118 3 9 q
    have hSD : ∀ w : World, (Builtin.unsafeSliceData_ #[99] 118 #[.slice none 0 0]).run Tryd.prog w = .ok (.pointer none) w := fun w => rfl
    go_enter Tryd.func52, Tryd.ntmps52
    go_wp2
    refine wp_region_ord (fun w' => w'.cell? ⟨p, 1, none⟩ = some (.slice none 0 0)) [(0, 0), (0, 1), (0, 2), (1, 3), (0, 5), (0, 6), (0, 7), (1, 8), (0, 9), (2, 4), (3, 10), (0, 11)] (by kernel_rfl) (by kernel_rfl) ?_
    go_wp2_with (first
      | (refine ord_pure rfl rfl rfl (fun K hK => ?_); go_big_quiet_op; refine hK _ ?_; clear hK K)
                                                                | (refine ord_skip rfl rfl ?_; simp only [Act.put, List.setIfInBounds_toArray, List.set_cons_zero, List.set_cons_succ])
                                                                | (refine ord_held rfl rfl rfl (by simpa using hc1) (fun K hK => ?_); apply Exists.intro; refine ⟨fun w' hs => ?_, hK _ ?_⟩; (revert hs; dsimp only; (try simp only [and_imp]); intros; go_simp; rfl); clear hK K)
                                                                | (refine ord_keep rfl rfl (by simpa using hc1) (fun K hK => ?_))
                                                                | (refine ord_drop rfl rfl (fun K hK => ?_))
                                                                | (refine ord_nil ?_))
    refine hK _ _ (by simpa using hc1) ?_; clear hK K
    go_wp2_with (first
      | (refine ord_pure rfl rfl rfl (fun K hK => ?_); go_big_quiet_op; refine hK _ ?_; clear hK K)
                                                                | (refine ord_skip rfl rfl ?_; simp only [Act.put, List.setIfInBounds_toArray, List.set_cons_zero, List.set_cons_succ])
                                                                | (refine ord_held rfl rfl rfl (by simpa using hc1) (fun K hK => ?_); apply Exists.intro; refine ⟨fun w' hs => ?_, hK _ ?_⟩; (revert hs; dsimp only; (try simp only [and_imp]); intros; go_simp; rfl); clear hK K)
                                                                | (refine ord_keep rfl rfl (by simpa using hc1) (fun K hK => ?_))
                                                                | (refine ord_drop rfl rfl (fun K hK => ?_))
                                                                | (refine ord_nil ?_))
    go_ret
    exact ⟨rfl, (Mod.refl _ w).drew⟩
  · rcases hO.2 with ⟨rfl, h1, _⟩ | ⟨g, cur, rfl, hg, hlc, hcm, hcs, htk⟩
    · exact absurd (List.eq_nil_of_length_eq_zero h1) h0
    · have hlp : 0 < l.length := List.length_pos_iff.2 h0
      have hcne : c ≠ 0 := by omega
      have hsh : w.drew.shape? g = some (5, cur.size) := by
        have : w.drew.heap[g]? = some (.cells cur 5 (0, 0)) := hg
        simp [World.shape?, this]
      have hcell : ∀ j x, l[j]? = some x → w.drew.cell? ((⟨g, 0, none⟩ : Addr).add j) = some (.int .u8 x.toNat) := fun j x hx => by
        obtain ⟨b, o, e, hc⟩ := hO.rd j (.int .u8 x.toNat) (by simp [bts, hx])
        cases e
        have : (⟨g, 0, none⟩ : Addr).add j = ⟨g, 0 + j, none⟩ := by unfold Addr.add; split <;> simp_all
        rw [this]; exact hc
      have hUS := Lib.run_unsafeString_row (P := Tryd.prog) w.drew 118 3 9 5 (by kernel_rfl) (by kernel_rfl) g cur.size hsh l h0 (by rw [hcs]; omega) (by omega) hcell
      have hSD : ∀ w : World, (Builtin.unsafeSliceData_ #[99] 118 #[.slice (some ⟨g, 0, none⟩) l.length c]).run Tryd.prog w = .ok (.pointer (some ⟨g, 0, none⟩)) w := fun w => Lib.run_unsafeSliceData_row w _ _ _ _ _ hcne
      clear hO hbk hne hv hz hsh hcell hg hlc hcm hcs htk hcne hlp
      have H0 := Lib.hid h0; clear h0
      go_enter Tryd.func52, Tryd.ntmps52
      go_wp2
      refine wp_region_ord (fun w' => w'.cell? ⟨p, 1, none⟩ = some (.slice (some ⟨g, 0, none⟩) l.length c)) [(0, 0), (0, 1), (0, 2), (1, 3), (0, 5), (0, 6), (0, 7), (1, 8), (0, 9), (2, 4), (3, 10), (0, 11)] (by kernel_rfl) (by kernel_rfl) ?_
      go_wp2_with (first
        | (refine ord_pure rfl rfl rfl (fun K hK => ?_); go_big_quiet_op; refine hK _ ?_; clear hK K)
                                                                | (refine ord_skip rfl rfl ?_; simp only [Act.put, List.setIfInBounds_toArray, List.set_cons_zero, List.set_cons_succ])
                                                                | (refine ord_held rfl rfl rfl (by simpa using hc1) (fun K hK => ?_); apply Exists.intro; refine ⟨fun w' hs => ?_, hK _ ?_⟩; (revert hs; dsimp only; (try simp only [and_imp]); intros; go_simp; rfl); clear hK K)
                                                                | (refine ord_keep rfl rfl (by simpa using hc1) (fun K hK => ?_))
                                                                | (refine ord_drop rfl rfl (fun K hK => ?_))
                                                                | (refine ord_nil ?_))
      refine hK _ _ (by simpa using hc1) ?_; clear hK K
      go_wp2_with (first
        | (refine ord_pure rfl rfl rfl (fun K hK => ?_); go_big_quiet_op; refine hK _ ?_; clear hK K)
                                                                | (refine ord_skip rfl rfl ?_; simp only [Act.put, List.setIfInBounds_toArray, List.set_cons_zero, List.set_cons_succ])
                                                                | (refine ord_held rfl rfl rfl (by simpa using hc1) (fun K hK => ?_); apply Exists.intro; refine ⟨fun w' hs => ?_, hK _ ?_⟩; (revert hs; dsimp only; (try simp only [and_imp]); intros; go_simp; rfl); clear hK K)
                                                                | (refine ord_keep rfl rfl (by simpa using hc1) (fun K hK => ?_))
                                                                | (refine ord_drop rfl rfl (fun K hK => ?_))
                                                                | (refine ord_nil ?_))
      go_ret
      exact ⟨rfl, freeze_mod (Mod.refl _ w).drew (q := ⟨g, 0, none⟩) (.inr rfl) _⟩
end Go.Proofs.YtphgglnkdfndiaaDoor
