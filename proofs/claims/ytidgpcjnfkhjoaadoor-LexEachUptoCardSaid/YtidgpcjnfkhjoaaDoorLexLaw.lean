/-
  What the laws of lex use: lent, kept, num, same, tokens; sibylref06.Scan.
-/
import Derived.Test.YtidgpcjnfkhjoaaDoorFound
namespace Go.Proofs.YtidgpcjnfkhjoaaDoor
open Go Go.RowKit Go.Mine
set_option maxHeartbeats 4000000
set_option maxRecDepth 100000
set_option linter.unusedVariables false

theorem lentB_any (a : Option Addr) (c : Nat) (l : List UInt8) (w : World) (hr : Rd w a (bts l)) (hn : l.length < 2^40) :
    Calls Tryd.prog 13 #[.slice a l.length c] w fun e w' => ∃ g c', e = .returned (.slice (some ⟨g, 0, none⟩) l.length c') ∧ w.heap.size ≤ g ∧ l.length + 2 ≤ c' ∧
      Mine.Own w' 5 1 (some ⟨g, 0, none⟩) (l.length + 2) c' (bts (l ++ [201, 77])) ∧ Mod (fun _ => False) w w' := by
  have HR := Lib.hid hr; clear hr
  go_enter Tryd.func13, Tryd.ntmps13
  go_wp2_with (first
    | (at_builtin; refine wpL_append rfl (.tmp 4) (.tmp 5) 22 22 rfl ti24 rfl (Mine.Own.made w 5 1 #[] 0 0 (by omega) (by unfold maxLen; omega) rfl) rfl (Src.ofRd ti24.ht l.length c (HR.out.mod ((Mod.refl (fun _ => False) w).alloc _) (fun _ _ => id)) (by simp) (bts_one l)) (by omega) (by unfold maxLen; omega) ?_; intro a2 c2 w2 hO2 hG2 _
       simp only [Nat.zero_add, List.take_nil, List.nil_append, Nat.zero_mul] at hO2
       simp only [Nat.zero_add]
       have HO2 := Lib.hid hO2; have HG2 := Lib.hid hG2; clear hO2 hG2)
    | (at_builtin; refine wpL_appendN (us := [_, _]) rfl (.tmp 6) (.tmp 7) 22 rfl ti24 rfl HO2.out rfl rfl rfl (by omega) (by unfold maxLen; omega) ?_; intro a3 c3 w3 hO3 hG3 _
       obtain ⟨g3, rfl⟩ := hO3.atHead (by omega)
       have hc3 : l.length + 2 ≤ c3 := by
         obtain ⟨_, _, _, _, h, _⟩ := hO3.2.resolve_left (by simp)
         exact h
       have HO3 := Lib.hid hO3; have HG3 := Lib.hid hG3; clear hO3 hG3))
  go_ret
  have hG := HG2.out.trans HG3.out
  refine ⟨g3, c3, rfl, ?_, hc3, ?_, ?_⟩
  · rcases hG.pos with e | ⟨b, e, hb⟩
    · simp at e; omega
    · simp at e hb; omega
  · have := HO3.out
    rw [bts_append]; exact this
  · exact ((Mod.refl (fun _ => False) w).alloc _).step hG.mod (fun i hi hs => by simp at hs; omega)
theorem keptB_true (g c1 : Nat) (a2 : Option Addr) (c2 : Nat) (l : List UInt8) (w : World) (hO : Mine.Own w 5 1 (some ⟨g, 0, none⟩) (l.length + 2) c1 (bts (l ++ [201, 77]))) (hr : Rd w a2 (bts l)) (hn : l.length < 2^40) :
    Calls Tryd.prog 16 #[.slice (some ⟨g, 0, none⟩) l.length c1, .slice a2 l.length c2] w fun e w' => e = .returned (.bool true) ∧
      Mine.Own w' 5 1 (some ⟨g, 0, none⟩) (l.length + 2) c1 (bts (List.replicate l.length 122 ++ [201, 77])) ∧ Mod (fun k => k = g) w w' := by
  have h1 : Rd w (some ⟨g, 0, none⟩) (bts l) := by
    have := hO.rd.take l.length
    rw [bts_append, List.take_left' (by simp)] at this
    exact this
  have q1 := run_bytes_str (P := Tryd.prog) (w := w) (src := 22) (dst := 9) (e := 5) (by kernel_rfl) (by kernel_rfl) (by kernel_rfl) c1 h1
  have q2 := run_bytes_str (P := Tryd.prog) (w := w) (src := 22) (dst := 9) (e := 5) (by kernel_rfl) (by kernel_rfl) (by kernel_rfl) c2 hr
  have hcell : w.cell? ⟨g, l.length, none⟩ = some (.int .u8 201) := by
    obtain ⟨b, o, e, hc⟩ := hO.rd l.length (.int .u8 201) (by simp [bts])
    cases e
    simpa using hc
  have hcell2 : w.cell? ⟨g, l.length + 1, none⟩ = some (.int .u8 77) := by
    obtain ⟨b, o, e, hc⟩ := hO.rd (l.length + 1) (.int .u8 77) (by simp [bts])
    cases e
    simpa using hc
  have hc1 : l.length + 2 ≤ c1 := by
    obtain ⟨_, _, _, _, h, _⟩ := hO.2.resolve_left (by simp)
    exact h
  have hcm : c1 ≤ maxLen := by
    obtain ⟨_, _, _, _, _, h, _⟩ := hO.2.resolve_left (by simp)
    exact h
  unfold maxLen at hcm
  have HO := Lib.hid hO; clear hO hr h1
  go_enter Tryd.func16, Tryd.ntmps16
  go_wp2
  clear q1 q2 hcell hcell2
  go_loopw [7] (fun i wr => ∃ k : Nat, i = .int .i64 k ∧ k ≤ l.length ∧ Hid (Mine.Own wr 5 1 (some ⟨g, 0, none⟩) (l.length + 2) c1 (bts (List.replicate k 122 ++ l.drop k ++ [201, 77]))) ∧ Hid (Mod (fun k => k = g) w wr)) (fun i _ => l.length - (intOf i).toNat)
  case atStart => exact ⟨0, rfl, by omega, by simpa using HO, Lib.hid (Mod.refl _ w)⟩
  case round =>
    obtain ⟨k, rfl, hk, hO, hM⟩ := hrel
    by_cases hlt : k < l.length
    · have hcell : wr.cell? ⟨g, k, none⟩ = some (.int .u8 l[k].toNat) := by
        obtain ⟨b, o, e, hc⟩ := hO.out.rd k (.int .u8 l[k].toNat) (by
          rw [bts, List.getElem?_map, List.append_assoc, List.getElem?_append_right (by simp), List.length_replicate, Nat.sub_self, List.drop_eq_getElem_cons hlt]; rfl)
        cases e
        simpa using hc
      have hfz : wr.frozen? ⟨g, k, none⟩ = false := hO.out.frozen rfl
      have hset : (bts (List.replicate k 122 ++ l.drop k ++ [201, 77])).set k (.int .u8 122) = bts (List.replicate (k + 1) 122 ++ l.drop (k + 1) ++ [201, 77]) := by
        have e0 : (bts (List.replicate k 122)).length = k := by simp
        have e1 : bts (l[k] :: (l.drop (k + 1) ++ [201, 77])) = .int .u8 l[k].toNat :: bts (l.drop (k + 1) ++ [201, 77]) := rfl
        rw [List.drop_eq_getElem_cons hlt, List.append_assoc, bts_append, List.set_append_right _ _ (by omega), e0, Nat.sub_self, List.cons_append, e1, List.set_cons_zero, List.replicate_succ', List.append_assoc, List.append_assoc, bts_append (List.replicate k 122)]
        rfl
      have HST := Lib.hid hset; clear hset
      go_wp2
      go_roundw
      case rel => exact ⟨k + 1, by go_num, hlt, by unfold Hid; rw [← HST.out]; exact hO.out.store k _, Lib.hid (hM.out.setCell (fun _ => rfl) _)⟩
      case measure => simp [intOf]; omega
    · obtain rfl : k = l.length := by omega
      have hO2 := hO.out
      rw [List.drop_length, List.append_nil] at hO2
      have HO2 := Lib.hid hO2; clear hO2
      go_wp2
      go_ret
      exact ⟨rfl, HO2.out, hM.out⟩

theorem num_any (n : Int) (w : World) : Calls Tryd.prog 17 #[.int .i64 n] w fun e w' => e = .returned (.int .i64 n) ∧ w = w' := by
  go_enter Tryd.func17, Tryd.ntmps17
  go_wp2
  go_ret
  exact ⟨rfl, rfl⟩
theorem same_true (t : Tok) (w : World) : Calls Tryd.prog 18 #[encT t, encT t] w fun e w' => e = .returned (.bool true) ∧ Mod (fun _ => False) w w' := by
  obtain ⟨k, s, p⟩ := t
  unfold encT
  simp only
  go_enter Tryd.func18, Tryd.ntmps18
  go_wp2
  go_ret
  exact ⟨rfl, ((Mod.refl _ w).alloc _).alloc _⟩
theorem toksC_get {ts : List Tok} {k : Nat} {t : Tok} (h : ts[k]? = some t) : (toksC ts)[k * 3]? = some (.int .i64 t.kind) ∧ (toksC ts)[k * 3 + 1]? = some (.string t.text) ∧ (toksC ts)[k * 3 + 2]? = some (.int .i64 t.at_) := by
  induction ts generalizing k with
  | nil => simp at h
  | cons x ts ih =>
    have e : toksC (x :: ts) = tokC x ++ toksC ts := rfl
    have hl : (tokC x).length = 3 := rfl
    cases k with
    | zero => simp at h; subst h; rw [e]; exact ⟨rfl, rfl, rfl⟩
    | succ k =>
      have h' : ts[k]? = some t := by simpa using h
      obtain ⟨h1, h2, h3⟩ := ih h'
      rw [e]
      refine ⟨?_, ?_, ?_⟩
      · rw [List.getElem?_append_right (by rw [hl]; omega), hl, show (k + 1) * 3 - 3 = k * 3 by omega]; exact h1
      · rw [List.getElem?_append_right (by rw [hl]; omega), hl, show (k + 1) * 3 + 1 - 3 = k * 3 + 1 by omega]; exact h2
      · rw [List.getElem?_append_right (by rw [hl]; omega), hl, show (k + 1) * 3 + 2 - 3 = k * 3 + 2 by omega]; exact h3
theorem own_cell3 {w : World} {e : TypeId} {a : Option Addr} {c : Nat} {ts : List Tok} (h : Mine.Own w e 3 a ts.length c (toksC ts)) {k : Nat} (hk : k < ts.length) :
    ∃ b, a = some ⟨b, 0, none⟩ ∧ w.cell? ⟨b, k * 3, none⟩ = some (.int .i64 ts[k].kind) ∧ w.cell? ⟨b, k * 3 + 1, none⟩ = some (.string ts[k].text) ∧ w.cell? ⟨b, k * 3 + 2, none⟩ = some (.int .i64 ts[k].at_) := by
  obtain ⟨b, rfl⟩ := h.atHead (by omega)
  obtain ⟨h1, h2, h3⟩ := toksC_get (List.getElem?_eq_getElem hk)
  obtain ⟨b1, o1, e1, q1⟩ := h.rd _ _ h1
  cases e1
  obtain ⟨b1, o1, e1, q2⟩ := h.rd _ _ h2
  cases e1
  obtain ⟨b1, o1, e1, q3⟩ := h.rd _ _ h3
  cases e1
  rw [Nat.zero_add] at q1 q2 q3
  exact ⟨_, rfl, q1, q2, q3⟩
theorem Own.bytes {w : World} {g c : Nat} {l m : List UInt8} {n : Nat} (h : Mine.Own w 5 1 (some ⟨g, 0, none⟩) n c (bts (l ++ m))) : Rd w (some ⟨g, 0, none⟩) (bts l) := by
  have := h.rd.take l.length
  rw [bts_append, List.take_left' (by simp)] at this
  exact this
end Go.Proofs.YtidgpcjnfkhjoaaDoor
