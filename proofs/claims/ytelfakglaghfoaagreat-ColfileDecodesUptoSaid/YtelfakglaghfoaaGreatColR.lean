/-
  The document's four ways to lay a column: walked.
-/
import Derived.Test.YtelfakglaghfoaaGreatColA
import Derived.Test.YtelfakglaghfoaaGreatPut
import Derived.Test.YtelfakglaghfoaaGreatOrdA
namespace Go.Proofs.YtelfakglaghfoaaGreat
open Go Go.RowKit Go.Mine
set_option linter.unusedVariables false
set_option maxHeartbeats 4000000
set_option maxRecDepth 100000

/-- bytes of the call's own -/
structure BOwn (w0 w : World) (a : Option Addr) (c : Nat) (bs : List UInt8) : Prop where
  own : Mine.Own w 5 1 a bs.length c (bts bs)
  fr : ∀ b, blk a = some b → w0.heap.size ≤ b
  md : Mod (fun _ => False) w0 w
theorem BOwn.nil (w : World) : BOwn w w none 0 [] := ⟨Mine.Own.nil _ _ _, (fun b hb => by cases hb), Mod.refl _ _⟩
theorem BOwn.mod0 {w0 w w' : World} {a : Option Addr} {c : Nat} {bs : List UInt8} (h : BOwn w0 w a c bs) (m : Mod (fun _ => False) w w') : BOwn w0 w' a c bs := ⟨h.own.mod m (fun _ _ => id), h.fr, h.md.trans m⟩
theorem BOwn.app {w0 w w3 : World} {a a3 : Option Addr} {c c3 : Nat} {bs ys : List UInt8} {us : List Value} {n : Nat} (h : BOwn w0 w a c bs) (hG : Grow w a w3 a3) (hO : Mine.Own w3 5 1 a3 n c3 us) (hu : us = bts bs ++ bts ys) (hn : n = bs.length + ys.length) : BOwn w0 w3 a3 c3 (bs ++ ys) := by
  subst hu
  refine ⟨?_, fun b hb => ?_, h.md.step hG.mod (fun b hb e => by have := h.fr b e; omega)⟩
  · rw [bts_append, List.length_append, ← hn]; exact hO
  · rcases hG.pos with e | ⟨g, e, hg⟩
    · rw [e] at hb; exact h.fr b hb
    · have := h.md.size
      rw [e] at hb
      have : g = b := by simpa [blk] using hb
      omega
def BPost (w : World) (bs : List UInt8) (e : Ending) (w' : World) : Prop := ∃ a c, e = .returned (.slice a bs.length c) ∧ BOwn w w' a c bs
def u32s (c : List Nat) : List Value := c.map fun n => .int .u32 (n : Nat)
@[simp] theorem u32s_length (c : List Nat) : (u32s c).length = c.length := by simp [u32s]
theorem u32_cell {w : World} {a : Option Addr} {c : List Nat} (h : Rd w a (u32s c)) {i : Nat} (hi : i < c.length) : ∃ b o, a = some ⟨b, o, none⟩ ∧ w.cell? ⟨b, o + i, none⟩ = some (.int .u32 (c[i] : Nat)) := by
  obtain ⟨b, o, e, hc⟩ := h i (.int .u32 (c[i] : Nat)) (by unfold u32s; rw [List.getElem?_map, List.getElem?_eq_getElem hi]; rfl)
  exact ⟨b, o, e, hc⟩
theorem flat10 : ∀ ns : List Nat, (∀ n ∈ ns, n < 2 ^ 64) → (ns.flatMap lebl).length ≤ 10 * ns.length
  | [], _ => by simp
  | n :: ns, h => by
    have h1 := lebl_len64 n (h n (by simp))
    have h2 := flat10 ns (fun m hm => h m (by simp [hm]))
    simp only [List.flatMap_cons, List.length_append, List.length_cons]; omega
theorem plainR_any (a : Option Addr) (d : Nat) (c : List Nat) (w : World) (hr : Rd w a (u32s c)) (hu : U32 c) (hn : c.length < 2 ^ 32) :
    Calls Tryz.prog 74 #[.slice a c.length d] w (BPost w (layP c)) := by
  have HR := Lib.hid hr; have HU := Lib.hid hu
  clear hr hu
  go_enter Tryz.func74, Tryz.ntmps74
  go_wp2_with fail
  go_loopw [3, 4] (fun bv iv wr => ∃ (k : Nat) (a' : Option Addr) (c' : Nat) (bs : List UInt8), iv = .int .i64 k ∧ k ≤ c.length ∧ bv = .slice a' bs.length c' ∧ Hid (bs = layP (c.take k)) ∧ bs.length ≤ 10 * k ∧ Hid (BOwn w wr a' c' bs)) (fun _ iv _ => c.length - (intOf iv).toNat)
  case atStart => exact ⟨0, none, 0, [], rfl, by omega, rfl, Lib.hid rfl, by simp, Lib.hid (BOwn.nil w)⟩
  case round =>
    obtain ⟨k, a', c', bs, rfl, hk, rfl, hB, hbl, hO⟩ := hrel
    by_cases hlt : k < c.length
    · obtain ⟨b, o, rfl, x0⟩ := u32_cell (HR.out.mod hO.out.md (fun _ _ => id)) hlt
      have hx := HU.out _ (List.getElem_mem hlt)
      have htk : c.take (k + 1) = c.take k ++ [c[k]] := List.take_succ_eq_append_getElem hlt
      have HTK : Hid (layP (c.take (k + 1)) = layP (c.take k) ++ lebl c[k]) := Lib.hid (by unfold layP; rw [htk, List.flatMap_append, List.flatMap_singleton])
      have hl10 := lebl_len64 c[k] (by omega)
      clear htk
      generalize c[k] = x at *
      go_wp2_with (first
        | (go_at_call 28; refine (put_any x _ (by omega)).mono ?_; rintro e w2 ⟨g2, c2, rfl, hO2, hg2, hM2⟩; have HO2 := Lib.hid hO2; have HM2 := Lib.hid hM2; clear hO2 hM2)
        | (at_builtin; refine wpL_append rfl (.tmp 11) (.tmp 17) 22 22 rfl ti24 rfl (hO.out.own.mod HM2.out (fun _ _ => id)) rfl (Src.ofRd ti24.ht _ _ HO2.out.rd (by simp) (bts_one _)) (by omega) (by unfold maxLen; omega) ?_; intro a3 c3 w3 hO3 hG3 _
           have HO3 := Lib.hid ((hO.out.mod0 HM2.out).app hG3 hO3 rfl rfl); clear hO3 hG3))
      go_roundw
      case rel => exact ⟨k + 1, a3, c3, bs ++ lebl x, by go_num, hlt, by rw [List.length_append], by rw [HTK.out, hB.out]; exact Lib.hid rfl, by rw [List.length_append]; omega, HO3⟩
      case measure => simp [intOf]; omega
    · obtain rfl : k = c.length := by omega
      rw [List.take_length] at hB
      go_wp2_with fail
      go_ret
      exact ⟨a', c', by rw [← hB.out]; rfl, by rw [← hB.out]; exact hO.out⟩
theorem dlt_take : ∀ (c : List Nat) (p : Option Nat) (k : Nat), dlt p (c.take k) = (dlt p c).take k
  | [], p, k => by cases p <;> simp [dlt]
  | x :: r, p, 0 => by cases p <;> simp [dlt]
  | x :: r, p, k + 1 => by cases p <;> simp [dlt, dlt_take r]
def stepL (c : List Nat) (i : Nat) : Nat := if i = 0 then c.getD 0 0 else turnN ((c.getD i 0 : Nat) - (c.getD (i - 1) 0 : Nat) : Int)
theorem dlt_get : ∀ (c : List Nat) (p : Option Nat) (k : Nat), k < c.length → (dlt p c)[k]? = some (match k with | 0 => (match p with | none => c.getD 0 0 | some q => turnN ((c.getD 0 0 : Nat) - (q : Int))) | j + 1 => stepL c (j + 1))
  | [], p, k, h => by simp at h
  | x :: r, p, 0, h => by cases p <;> rfl
  | x :: r, p, k + 1, h => by
    have e : (dlt p (x :: r))[k + 1]? = (dlt (some x) r)[k]? := by cases p <;> rfl
    rw [e, dlt_get r (some x) k (by simpa using h)]
    cases k with
    | zero => rfl
    | succ j => rfl
theorem dlt_len : ∀ (c : List Nat) (p : Option Nat), (dlt p c).length = c.length
  | [], p => by cases p <;> rfl
  | x :: r, p => by cases p <;> simp [dlt, dlt_len r]
theorem layD_snoc (c : List Nat) (k : Nat) (h : k < c.length) : layD (c.take (k + 1)) = layD (c.take k) ++ lebl (stepL c k) := by
  unfold layD
  rw [dlt_take, dlt_take]
  have hk : k < (dlt none c).length := by rw [dlt_len]; exact h
  rw [List.take_succ_eq_append_getElem hk, List.flatMap_append]
  have e := dlt_get c none k h
  rw [List.getElem?_eq_getElem hk] at e
  have e2 : (dlt none c)[k] = stepL c k := by
    rw [Option.some.inj e]
    cases k with
    | zero => rfl
    | succ j => rfl
  rw [e2]
  simp
theorem stepL_lt {c : List Nat} (hu : U32 c) {k : Nat} (h : k < c.length) : stepL c k < 2 ^ 33 := by
  unfold stepL
  have g : ∀ i, i < c.length → c.getD i 0 < 2 ^ 32 := fun i hi => by
    rw [List.getD_eq_getElem?_getD, List.getElem?_eq_getElem hi]; exact hu _ (List.getElem_mem hi)
  split
  · have := g 0 (by omega); omega
  · have h1 := g k h
    have h2 := g (k - 1) (by omega)
    exact turnN_lt (by omega) (by omega)
theorem deltaR_any (a : Option Addr) (d : Nat) (c : List Nat) (w : World) (hr : Rd w a (u32s c)) (hu : U32 c) (hn : c.length < 2 ^ 32) :
    Calls Tryz.prog 75 #[.slice a c.length d] w (BPost w (layD c)) := by
  have HR := Lib.hid hr; have HU := Lib.hid hu
  clear hr hu
  go_enter Tryz.func75, Tryz.ntmps75
  go_wp2_with fail
  go_loopw [3, 4, 5] (fun bv iv _ wr => ∃ (k : Nat) (a' : Option Addr) (c' : Nat) (bs : List UInt8), iv = .int .i64 k ∧ k ≤ c.length ∧ bv = .slice a' bs.length c' ∧ Hid (bs = layD (c.take k)) ∧ bs.length ≤ 10 * k ∧ Hid (BOwn w wr a' c' bs)) (fun _ iv _ _ => c.length - (intOf iv).toNat)
  case atStart => exact ⟨0, none, 0, [], rfl, by omega, rfl, Lib.hid rfl, by simp, Lib.hid (BOwn.nil w)⟩
  case round =>
    obtain ⟨k, a', c', bs, rfl, hk, rfl, hB, hbl, hO⟩ := hrel
    by_cases hlt : k < c.length
    · have hrd := HR.out.mod hO.out.md (fun _ _ => id)
      obtain ⟨b, o, rfl, x0⟩ := u32_cell hrd hlt
      have hx := HU.out _ (List.getElem_mem hlt)
      have HTK := Lib.hid (layD_snoc c k hlt)
      have hsl := stepL_lt HU.out hlt
      have hl10 := lebl_len64 (stepL c k) (by omega)
      by_cases hk0 : k = 0
      · have HST : Hid (stepL c k = c[k]) := Lib.hid (by unfold stepL; rw [if_pos hk0, List.getD_eq_getElem?_getD, List.getElem?_eq_getElem (by omega)]; subst hk0; rfl)
        rw [HST.out] at HTK hl10 hsl
        have hkz : decide (0 < k) = false := by simp; omega
        clear hrd hk0
        generalize stepL c k = n at *
        generalize c[k] = x at *
        go_wp2_with (first
          | (go_at_call 28; refine (put_any x _ (by omega)).mono ?_; rintro e w2 ⟨g2, c2, rfl, hO2, hg2, hM2⟩; have HO2 := Lib.hid hO2; have HM2 := Lib.hid hM2; clear hO2 hM2)
          | (at_builtin; refine wpL_append rfl (.tmp 32) (.tmp 34) 22 22 rfl ti24 rfl (hO.out.own.mod HM2.out (fun _ _ => id)) rfl (Src.ofRd ti24.ht _ _ HO2.out.rd (by simp) (bts_one _)) (by omega) (by unfold maxLen; omega) ?_; intro a3 c3 w3 hO3 hG3 _
             have HO3 := Lib.hid ((hO.out.mod0 HM2.out).app hG3 hO3 rfl rfl); clear hO3 hG3))
        go_roundw
        case rel => exact ⟨k + 1, a3, c3, bs ++ lebl x, by go_num, hlt, by rw [List.length_append], by rw [HTK.out, hB.out]; exact Lib.hid rfl, by rw [List.length_append]; omega, HO3⟩
        case measure => simp [intOf]; omega
      · obtain ⟨b', o', e', y0⟩ := u32_cell hrd (i := k - 1) (by omega)
        cases e'
        have hy := HU.out _ (List.getElem_mem (show k - 1 < c.length by omega))
        have HST : Hid (stepL c k = turnN ((c[k] : Int) - c[k - 1])) := Lib.hid (by unfold stepL; rw [if_neg hk0, List.getD_eq_getElem?_getD, List.getD_eq_getElem?_getD, List.getElem?_eq_getElem (by omega), List.getElem?_eq_getElem (by omega)]; rfl)
        clear hrd
        generalize stepL c k = n at *
        generalize c[k] = x at *
        generalize c[k - 1] = y at *
        have hkn : ((k : Int) - 1).toNat = k - 1 := by omega
        have hk1 : 0 < k := by omega
        go_wp2_with fail
        refine wp_region_ord (fun w' => w'.cell? ⟨b, o + k, none⟩ = some (.int .u32 (x : Nat)) ∧ w'.cell? ⟨b, o + (k - 1), none⟩ = some (.int .u32 (y : Nat))) [(0, 0), (0, 1), (0, 2), (1, 3), (0, 4), (0, 5), (0, 6), (0, 7), (0, 8), (1, 9), (0, 10), (0, 11), (3, 12), (0, 13)] (by kernel_rfl) (by kernel_rfl) ?_
        go_wp2_with (first
          | (refine ord_pure rfl rfl rfl (fun K hK => ?_); go_big_quiet_op; refine hK _ ?_; clear hK K)
                                                                | (refine ord_skip rfl rfl ?_; simp only [Act.put, List.setIfInBounds_toArray, List.set_cons_zero, List.set_cons_succ])
                                                                | (refine ord_held rfl rfl rfl (⟨x0, y0⟩) (fun K hK => ?_); apply Exists.intro; refine ⟨fun w' hs => ?_, hK _ ?_⟩; (revert hs; dsimp only; (try simp only [and_imp]); intros; go_simp; rfl); clear hK K)
                                                                | (refine ord_keep rfl rfl (⟨x0, y0⟩) (fun K hK => ?_))
                                                                | (refine ord_drop rfl rfl (fun K hK => ?_))
                                                                | (refine ord_nil ?_))
        refine (turnR_any ((x : Int) - y) (by omega) (by omega) _).mono ?_
        rintro e w2 ⟨rfl, hw2⟩
        have HO4 : Hid (BOwn w w2 a' c' bs) := Lib.hid (hO.out.mod0 (by rw [← hw2]; exact (Mod.refl _ wr).drew))
        rw [← HST.out]
        clear hw2 x0 y0 hO
        go_wp2_with (first
          | (refine ord_pure rfl rfl rfl (fun K hK => ?_); go_big_quiet_op; refine hK _ ?_; clear hK K)
                                                                | (refine ord_skip rfl rfl ?_; simp only [Act.put, List.setIfInBounds_toArray, List.set_cons_zero, List.set_cons_succ])
                                                                | (refine ord_held rfl rfl rfl (trivial) (fun K hK => ?_); apply Exists.intro; refine ⟨fun w' hs => ?_, hK _ ?_⟩; (revert hs; dsimp only; (try simp only [and_imp]); intros; go_simp; rfl); clear hK K)
                                                                | (refine ord_keep rfl rfl (trivial) (fun K hK => ?_))
                                                                | (refine ord_drop rfl rfl (fun K hK => ?_))
                                                                | (refine ord_nil ?_)
          | (go_at_call 28; refine (put_any n _ (by omega)).mono ?_; rintro e w2 ⟨g2, c2, rfl, hO2, hg2, hM2⟩; have HO2 := Lib.hid hO2; have HM2 := Lib.hid hM2; clear hO2 hM2)
          | (at_builtin; refine wpL_append rfl (.tmp 32) (.tmp 34) 22 22 rfl ti24 rfl (HO4.out.own.mod HM2.out (fun _ _ => id)) rfl (Src.ofRd ti24.ht _ _ HO2.out.rd (by simp) (bts_one _)) (by omega) (by unfold maxLen; omega) ?_; intro a3 c3 w3 hO3 hG3 _
             have HO3 := Lib.hid ((HO4.out.mod0 HM2.out).app hG3 hO3 rfl rfl); clear hO3 hG3))
        go_roundw
        case rel => exact ⟨k + 1, a3, c3, bs ++ lebl n, by go_num, hlt, by rw [List.length_append], by rw [HTK.out, hB.out]; exact Lib.hid rfl, by rw [List.length_append]; omega, HO3⟩
        case measure => simp [intOf]; omega
    · obtain rfl : k = c.length := by omega
      rw [List.take_length] at hB
      go_wp2_with fail
      go_ret
      exact ⟨a', c', by rw [← hB.out]; rfl, by rw [← hB.out]; exact hO.out⟩
end Go.Proofs.YtelfakglaghfoaaGreat
