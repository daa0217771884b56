/-
  The program's columns: a writer of the call's own; two of the ways laid: walked.
-/
import Derived.Test.YtelfakglaghfoaaGreatColM
import Derived.Test.YtelfakglaghfoaaGreatWriter
namespace Go.Proofs.YtelfakglaghfoaaGreat
open Go Go.RowKit Go.Mine
set_option linter.unusedVariables false
set_option maxHeartbeats 4000000
set_option maxRecDepth 100000

/-- Writer.Raw -/
theorem raw_any (p : Nat) (a : Option Addr) (l ys : List UInt8) (av : Option Addr) (cv : Nat) (w : World) (hW : WrAt w p a l) (hr : Rd w av (bts ys)) (hl : l.length < 2 ^ 39) (hy : ys.length < 2 ^ 39) :
    Calls Tryz.prog 105 #[.pointer (some ⟨p, 0, none⟩), .slice av ys.length cv] w fun e w' => e = .returned (.tuple #[]) ∧ ∃ a', WrAt w' p a' (l ++ ys) ∧ WrGo w p a w' a' := by
  obtain ⟨hne, c1, hh, hO⟩ := hW
  have hc1 : w.cell? ⟨p, 0, none⟩ = some (.slice a l.length c1) := cell_at hh rfl
  have HH := Lib.hid hh; have HO := Lib.hid hO; have HNE := Lib.hid hne; have HR := Lib.hid hr
  clear hh hO hne hr
  go_enter Tryz.func105, Tryz.ntmps105
  go_wp2_with (first
    | (go_at_call 123; refine (wnone_any p _ _ _ HH.out).mono ?_; rintro e w' ⟨rfl, rfl⟩)
    | (at_builtin; refine wpL_append rfl (.tmp 11) (.tmp 12) 22 22 rfl ti24 rfl HO.out rfl (Src.ofRd ti24.ht _ _ HR.out (by simp) (bts_one _)) (by omega) (by unfold maxLen; omega) ?_; intro a2 c2 w2 hO2 hG2 _
       have hh2 := hG2.mod.at (p := p) HH.out (fun e => HNE.out e)
       have hc2 : w2.cell? ⟨p, 0, none⟩ = some (.slice a l.length c1) := cell_at hh2 rfl
       have hf2 : w2.frozen? ⟨p, 0, none⟩ = false := frozen_at hh2
       have HO2 := Lib.hid hO2; have HG2 := Lib.hid hG2; clear hO2 hG2 hh2))
  go_end0
  have hO2 := HO2.out
  rw [← bts_append, ← List.length_append] at hO2
  have hp := WrAt.put HNE.out HH.out hO2 HG2.out (n := l.length + ys.length) (by simp)
  exact ⟨rfl, a2, hp.1, hp.2⟩
/-- a writer of the call's own -/
def WrS (w0 w : World) (p : Nat) (l : List UInt8) : Prop := ∃ a, WrAt w p a l ∧ w0.heap.size ≤ p ∧ (∀ b, blk a = some b → w0.heap.size ≤ b) ∧ Mod (fun _ => False) w0 w
theorem WrS.md {w0 w : World} {p : Nat} {l : List UInt8} (h : WrS w0 w p l) : Mod (fun _ => False) w0 w := h.choose_spec.2.2.2
theorem WrS.mod0 {w0 w w' : World} {p : Nat} {l : List UInt8} (h : WrS w0 w p l) (m : Mod (fun _ => False) w w') : WrS w0 w' p l := by
  obtain ⟨a, h1, h2, h3, h4⟩ := h
  exact ⟨a, h1.mod m id (fun _ _ => id), h2, h3, h4.trans m⟩
theorem WrS.go {w0 w w' : World} {p : Nat} {a a' : Option Addr} {l' : List UInt8} (h2 : w0.heap.size ≤ p) (h3 : ∀ b, blk a = some b → w0.heap.size ≤ b) (h4 : Mod (fun _ => False) w0 w) (hA : WrAt w' p a' l') (hG : WrGo w p a w' a') : WrS w0 w' p l' := by
  refine ⟨a', hA, h2, fun b hb => ?_, h4.step hG.mod (fun b hb e => ?_)⟩
  · rcases hG.pos with e | ⟨g, e, hg⟩
    · rw [e] at hb; exact h3 b hb
    · have := h4.size
      rw [e] at hb; cases hb; omega
  · rcases e with rfl | e
    · omega
    · have := h3 b e; omega
theorem numS_any {w0 w : World} {p : Nat} {l : List UInt8} (h : WrS w0 w p l) (ns : List Nat) (hns : ∀ n ∈ ns, n < 2 ^ 64) (cv : Nat) (hl : l.length + 10 * ns.length < 2 ^ 40) :
    Calls Tryz.prog 88 #[.pointer (some ⟨p, 0, none⟩), .slice (some ⟨w.heap.size, 0, none⟩) ns.length cv] (w.alloc (.cells (u64s ns).toArray 63)) fun e w' => e = .returned (.tuple #[]) ∧ WrS w0 w' p (l ++ ns.flatMap lebl) := by
  obtain ⟨a, h1, h2, h3, h4⟩ := h
  have hlt : p < w.heap.size := (Array.getElem?_eq_some_iff.1 h1.2.choose_spec.1).1
  have hlta : ∀ b, blk a = some b → b < w.heap.size := h1.2.choose_spec.2.lt
  have m1 : Mod (fun _ => False) w (w.alloc (.cells (u64s ns).toArray 63)) := (Mod.refl _ w).alloc _
  refine (num_any p a l ns _ cv _ (h1.mod m1 id (fun _ _ => id)) (Rd.news w (u64s ns) 63) (fun e => by simp [blk] at e; omega) (fun b hb hh => by simp [blk] at hb; have := hlta b hh; omega) hns hl).mono ?_
  rintro e w' ⟨rfl, a', g1, g2⟩
  exact ⟨rfl, WrS.go h2 h3 (h4.trans m1) g1 g2⟩
theorem rawS_any {w0 w : World} {p : Nat} {l : List UInt8} (h : WrS w0 w p l) (ys : List UInt8) (av : Option Addr) (cv : Nat) (hr : Rd w av (bts ys)) (hl : l.length < 2 ^ 39) (hy : ys.length < 2 ^ 39) :
    Calls Tryz.prog 105 #[.pointer (some ⟨p, 0, none⟩), .slice av ys.length cv] w fun e w' => e = .returned (.tuple #[]) ∧ WrS w0 w' p (l ++ ys) := by
  obtain ⟨a, h1, h2, h3, h4⟩ := h
  refine (raw_any p a l ys av cv w h1 hr hl hy).mono ?_
  rintro e w' ⟨rfl, a', g1, g2⟩
  exact ⟨rfl, WrS.go h2 h3 h4 g1 g2⟩
theorem lay1_any {w0 w : World} {p : Nat} {l : List UInt8} (h : WrS w0 w p l) (a : Option Addr) (d : Nat) (c : List Nat) (hr : Rd w0 a (u32s c)) (hu : U32 c) (hn : c.length ≤ 65536) (hl : l.length < 100) :
    Calls Tryz.prog 87 #[.pointer (some ⟨p, 0, none⟩), .slice a c.length d] w fun e w' => e = .returned (.tuple #[]) ∧ WrS w0 w' p (l ++ layP c) := by
  have H := Lib.hid h; have HR := Lib.hid hr; have HU := Lib.hid hu
  clear h hr hu
  go_enter Tryz.func87, Tryz.ntmps87
  go_wp2_with fail
  go_loopw [5, 8] (fun _ iv wr => ∃ k : Nat, iv = .int .i64 k ∧ k ≤ c.length ∧ Hid (WrS w0 wr p (l ++ layP (c.take k)))) (fun _ iv _ => c.length - (intOf iv).toNat)
  case atStart => exact ⟨0, rfl, Nat.zero_le _, Lib.hid (by simpa [layP] using H.out)⟩
  case round =>
    obtain ⟨k, rfl, hk, hW⟩ := hrel
    by_cases hlt : k < c.length
    · obtain ⟨b, o, rfl, x0⟩ := u32_cell (HR.out.mod hW.out.md (fun _ _ => id)) hlt
      have hx := HU.out _ (List.getElem_mem hlt)
      have htk : c.take (k + 1) = c.take k ++ [c[k]] := List.take_succ_eq_append_getElem hlt
      have HTK : Hid (layP (c.take (k + 1)) = layP (c.take k) ++ lebl c[k]) := Lib.hid (by unfold layP; rw [htk, List.flatMap_append, List.flatMap_singleton])
      have hll : (layP (c.take k)).length ≤ 10 * c.length := by
        have := flat10 (c.take k) (fun n hn => by have := HU.out n (List.mem_of_mem_take hn); omega)
        unfold layP
        rw [List.length_take] at this
        omega
      clear htk
      generalize c[k] = x at *
      have HN := Lib.hid (numS_any hW.out [x] (fun n hn => by simp at hn; omega) 1 (by simp only [List.length_append, List.length_cons, List.length_nil]; omega))
      go_wp2_with fail
      refine HN.out.mono ?_
      rintro e w2 ⟨rfl, h2⟩
      have H2 : Hid (WrS w0 w2 p (l ++ layP (c.take (k + 1)))) := Lib.hid (by
        rw [HTK.out, ← List.append_assoc]
        simpa using h2)
      clear h2 HN
      go_wp2_with fail
      go_roundw
      case rel => exact ⟨k + 1, by go_num, hlt, H2⟩
      case measure => simp [intOf]; omega
    · obtain rfl : k = c.length := by omega
      rw [List.take_length] at hW
      go_wp2_with fail
      go_end0
      exact ⟨rfl, hW.out⟩
theorem lay2_any {w0 w : World} {p : Nat} {l : List UInt8} (h : WrS w0 w p l) (a : Option Addr) (d : Nat) (c : List Nat) (hr : Rd w0 a (u32s c)) (hu : U32 c) (hn : c.length ≤ 65536) (hl : l.length < 100) :
    Calls Tryz.prog 93 #[.pointer (some ⟨p, 0, none⟩), .slice a c.length d] w fun e w' => e = .returned (.tuple #[]) ∧ WrS w0 w' p (l ++ layD c) := by
  have H := Lib.hid h; have HR := Lib.hid hr; have HU := Lib.hid hu
  clear h hr hu
  go_enter Tryz.func93, Tryz.ntmps93
  go_wp2_with fail
  go_loopw [4, 7] (fun _ iv wr => ∃ k : Nat, iv = .int .i64 k ∧ k ≤ c.length ∧ Hid (WrS w0 wr p (l ++ layD (c.take k)))) (fun _ iv _ => c.length - (intOf iv).toNat)
  case atStart => exact ⟨0, rfl, Nat.zero_le _, Lib.hid (by simpa [layD, dlt] using H.out)⟩
  case round =>
    obtain ⟨k, rfl, hk, hW⟩ := hrel
    by_cases hlt : k < c.length
    · have HST := Lib.hid (stepC_any a d c k wr (HR.out.mod hW.out.md (fun _ _ => id)) HU.out hlt (by omega))
      have HTK := Lib.hid (layD_snoc c k hlt)
      have hx := stepL_lt HU.out hlt
      have hll : (layD (c.take k)).length ≤ 10 * c.length := by
        have := flat10 (dlt none (c.take k)) (fun n hn => by have := dlt_lt (c.take k) none (fun y hy => HU.out y (List.mem_of_mem_take hy)) (fun q e => by cases e) n hn; omega)
        unfold layD
        rw [dlt_len, List.length_take] at this
        omega
      generalize stepL c k = x at *
      go_wp2_with fail
      refine HST.out.mono ?_
      rintro e w1 ⟨rfl, hm⟩
      have HN := Lib.hid (numS_any (hW.out.mod0 hm) [x] (fun n hn => by simp at hn; omega) 1 (by simp only [List.length_append, List.length_cons, List.length_nil]; omega))
      clear hm HST
      go_wp2_with fail
      refine HN.out.mono ?_
      rintro e w2 ⟨rfl, h2⟩
      have H2 : Hid (WrS w0 w2 p (l ++ layD (c.take (k + 1)))) := Lib.hid (by
        rw [HTK.out, ← List.append_assoc]
        simpa using h2)
      clear h2 HN
      go_wp2_with fail
      go_roundw
      case rel => exact ⟨k + 1, by go_num, hlt, H2⟩
      case measure => simp [intOf]; omega
    · obtain rfl : k = c.length := by omega
      rw [List.take_length] at hW
      go_wp2_with fail
      go_end0
      exact ⟨rfl, hW.out⟩
end Go.Proofs.YtelfakglaghfoaaGreat
