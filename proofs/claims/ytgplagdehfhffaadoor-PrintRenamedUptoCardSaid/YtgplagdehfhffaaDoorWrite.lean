/-
  print's writer: put, term.
-/
import Derived.Test.YtgplagdehfhffaaDoorMayL
import Derived.Test.YtgplagdehfhffaaDoorBuildW
import Derived.WalkLawsBesides
namespace Go.Proofs.YtgplagdehfhffaaDoor
open Go Go.RowKit Go.Mine
set_option linter.unusedVariables false
set_option maxHeartbeats 4000000
set_option maxRecDepth 100000

/-- what a text that gets too long is given up with -/
def longE : List PanicEntry := [{ v := .iface 202 (.agg #[]), recovered := false }]
/-- a writer made behind w0 -/
structure Wr (w0 w : World) (p : Nat) (a : Option Addr) (l : List UInt8) : Prop where
  at_ : BwAt w p a l
  mod : Mod (fun _ => False) w0 w
  hp : w0.heap.size ≤ p
  ha : ∀ b, blk a = some b → w0.heap.size ≤ b
  few : l.length ≤ 65536
  nil : l = [] → a = none
theorem Wr.mod0 {w0 w w' : World} {p : Nat} {a : Option Addr} {l : List UInt8} (h : Wr w0 w p a l) (m : Mod (fun _ => False) w w') : Wr w0 w' p a l :=
  ⟨h.at_.mod0 m, h.mod.trans m, h.hp, h.ha, h.few, h.nil⟩
theorem Wr.go {w0 w w' : World} {p : Nat} {a a' : Option Addr} {l l' : List UInt8} (h : Wr w0 w p a l) (hb : BwAt w' p a' l') (hg : BuGo w p a w' a') (hl : l'.length ≤ 65536) (hn : l' ≠ []) : Wr w0 w' p a' l' := by
  have h1 := h.hp
  have h2 := h.mod.size
  refine ⟨hb, h.mod.step hg.mod (fun i hi hs => ?_), h1, fun b hb => ?_, hl, fun e => absurd e hn⟩
  · rcases hs with rfl | hs
    · omega
    · have := h.ha i hs; omega
  · rcases hg.pos with e | ⟨g, e, hg⟩
    · rw [e] at hb; exact h.ha b hb
    · rw [e] at hb; cases hb; omega
/-- what writing on leaves: all of it is written; or it was too long -/
def WrPost (w0 w : World) (p : Nat) (a : Option Addr) (out : List UInt8) (e : Ending) (w' : World) : Prop :=
  (e = .returned (.tuple #[]) ∧ ∃ a', Wr w0 w' p a' out ∧ BuGo w p a w' a') ∨ (65536 < out.length ∧ e = .panicked longE ∧ Mod (fun _ => False) w0 w')
def flatS (ss : List ByteArray) : List UInt8 := ss.flatMap fun s => s.data.toList
theorem Len_any (p : Nat) (a : Option Addr) (l : List UInt8) (w : World) (h : BwAt w p a l) (hl : l.length < 2 ^ 40) :
    Calls Tryd.prog 163 #[.pointer (some ⟨p, 0, none⟩)] w fun e w' => e = .returned (.int .i64 l.length) ∧ w = w' := by
  obtain ⟨_, v, c, _, hb, _⟩ := h
  have c1 : w.cell? ⟨p, 1, none⟩ = some (.slice a l.length c) := cell_at hb rfl
  clear hb
  go_enter Tryd.func163, Tryd.ntmps163
  go_wp2
  go_ret
  exact ⟨rfl, rfl⟩
theorem put_any (ss : List ByteArray) (sa : Option Addr) (sc : Nat) (w0 w : World) (p : Nat) (a : Option Addr) (l : List UInt8) (h : Wr w0 w p a l) (hs : Rd w sa (sts ss))
    (hd : ∀ b, blk sa = some b → b ≠ p ∧ blk a ≠ some b) (hn : ∀ s ∈ ss, 0 < s.size ∧ s.size < 2 ^ 30) (hm : ss.length < 2 ^ 30) :
    Calls Tryd.prog 152 #[.pointer (some ⟨p, 0, none⟩), .slice sa ss.length sc] w (WrPost w0 w p a (l ++ flatS ss)) := by
  have H := Lib.hid h; have HS := Lib.hid hs; have HN := Lib.hid hn; have HD := Lib.hid hd
  clear h hs hn hd
  go_enter Tryd.func152, Tryd.ntmps152
  go_wp2_with fail
  go_loopw [8] (fun iv wr => ∃ (k : Nat) (a' : Option Addr), iv = .int .i64 k ∧ k ≤ ss.length ∧ Hid (Wr w0 wr p a' (l ++ flatS (ss.take k))) ∧ Hid (Rd wr sa (sts ss)) ∧ Hid (∀ b, blk sa = some b → b ≠ p ∧ blk a' ≠ some b) ∧ Hid (BuGo w p a wr a')) (fun iv _ => ss.length - (intOf iv).toNat)
  case atStart => exact ⟨0, a, rfl, Nat.zero_le _, by simpa [flatS] using H, HS, HD, Lib.hid (BuGo.refl w p a)⟩
  case round =>
    obtain ⟨k, a', rfl, hk, hW, hR, hD, hGo⟩ := hrel
    clear H HS HD
    by_cases hlt : k < ss.length
    · obtain ⟨b, o, rfl, x0⟩ := hR.out k (.string ss[k]) (by simp [sts, hlt])
      obtain ⟨hpos, hsz⟩ := HN.out _ (List.getElem_mem hlt)
      have hstep : l ++ flatS (ss.take (k + 1)) = l ++ flatS (ss.take k) ++ ss[k].data.toList := by
        unfold flatS
        rw [List.take_succ_eq_append_getElem hlt, List.flatMap_append, List.append_assoc]
        simp
      have hmore : (l ++ flatS (ss.take (k + 1))).length ≤ (l ++ flatS ss).length := by
        have e : ss.flatMap (fun s => s.data.toList) = (ss.take (k + 1)).flatMap (fun s => s.data.toList) ++ (ss.drop (k + 1)).flatMap (fun s => s.data.toList) := by
          rw [← List.flatMap_append, List.take_append_drop]
        unfold flatS
        rw [e]
        simp only [List.length_append]
        omega
      have hfew := hW.out.few
      have HT := Lib.hid hstep
      have hlen : (l ++ flatS (ss.take (k + 1))).length = (l ++ flatS (ss.take k)).length + ss[k].size := by
        have h2 : ∀ x y : List UInt8, (x ++ y).length = x.length + y.length := fun _ _ => List.length_append
        rw [hstep, h2 (l ++ flatS (ss.take k)), ← Lib.size_eq]
      clear hstep
      generalize flatS (ss.take k) = fk at *
      obtain ⟨fk1, hfk1⟩ : ∃ fk1, fk1 = flatS (ss.take (k + 1)) := ⟨_, rfl⟩
      rw [← hfk1] at HT hmore hlen
      have HF := Lib.hid hfk1
      clear hfk1
      generalize ss[k] = s at *
      have HMore := Lib.hid hmore; have HLen := Lib.hid hlen
      clear hmore hlen
      have HL := Lib.hid (Len_any p a' (l ++ fk) wr hW.out.at_ (by omega))
      by_cases hov : 65536 < (l ++ fk).length + s.size
      · generalize (l ++ fk).length = n at *
        go_wp2_with fail
        refine HL.out.mono ?_
        rintro e w1 ⟨rfl, rfl⟩
        go_wp2_with fail
        exact ⟨rfl, .inr ⟨by have := HMore.out; have := HLen.out; omega, rfl, hW.out.mod⟩⟩
      · have HWS := Lib.hid (writeStringW_any p a' (l ++ fk) s wr hW.out.at_ (by omega))
        generalize hnn : (l ++ fk).length = n at *
        have HNN := Lib.hid hnn
        clear hnn
        go_wp2_with fail
        refine HL.out.mono ?_
        rintro e w1 ⟨rfl, rfl⟩
        go_wp2_with fail
        refine HWS.out.mono ?_
        rintro e w2 ⟨rfl, a2, hB2, hG2⟩
        have HW2 : Hid (Wr w0 w2 p a2 (l ++ fk1)) := by
          unfold Hid
          rw [HT.out]
          refine hW.out.go hB2 hG2 (by rw [List.length_append, ← Lib.size_eq, HNN.out]; omega) (fun e => ?_)
          have := congrArg List.length e
          rw [List.length_append, ← Lib.size_eq, List.length_nil] at this
          omega
        have hd := hD.out b rfl
        have HR2 := Lib.hid (hR.out.mod hG2.mod (fun b' hb' => by cases hb'; rintro (e | e); exact hd.1 e; exact hd.2 e))
        have HD2 : Hid (∀ b', blk (some (⟨b, o, none⟩ : Addr)) = some b' → b' ≠ p ∧ blk a2 ≠ some b') := fun b' hb' => by
          cases hb'
          refine ⟨hd.1, fun e => ?_⟩
          have hlt : b < wr.heap.size := World.block_lt_of_cell? _ _ x0
          rcases hG2.pos with e' | ⟨g, e', hg⟩
          · rw [e'] at e; exact hd.2 e
          · have e2 : some g = some b := e'.symm.trans e
            cases e2; omega
        have HGo := Lib.hid (hGo.out.trans hG2)
        clear hB2 hG2 hd
        go_wp2_with fail
        go_roundw
        case rel => exact ⟨k + 1, a2, by go_num, hlt, by rw [← HF.out]; exact HW2, HR2, HD2, HGo⟩
        case measure => simp [intOf]; omega
    · obtain rfl : k = ss.length := by omega
      have HW2 := hW.out
      rw [List.take_length] at HW2
      have HW3 := Lib.hid HW2; clear HW2
      go_wp2_with fail
      go_end0
      exact .inl ⟨rfl, a', HW3.out, hGo.out⟩
theorem WrPost.pre0 {w0 w W w' : World} {p : Nat} {a : Option Addr} {out : List UInt8} {e : Ending} (h : WrPost w0 W p a out e w') (m : Mod (fun _ => False) w W) : WrPost w0 w p a out e w' := by
  rcases h with ⟨h1, a', h2, h3⟩ | h
  · exact .inl ⟨h1, a', h2, BuGo.pre0 m h3⟩
  · exact .inr h
theorem Wr.lt {w0 w : World} {p : Nat} {a : Option Addr} {l : List UInt8} (h : Wr w0 w p a l) : p < w.heap.size ∧ ∀ b, blk a = some b → b < w.heap.size := by
  refine ⟨h.at_.lt, fun b hb => ?_⟩
  obtain ⟨_, v, c, _, _, hO⟩ := h.at_
  exact hO.lt _ hb
/-- what was laid behind the writer stays -/
theorem Wr.keep {w0 w W w' : World} {p : Nat} {a a' : Option Addr} {l : List UInt8} (h : Wr w0 w p a l) (hg : BuGo W p a w' a') {g j : Nat} {v : Value} (hc : W.cell? ⟨g, j, none⟩ = some v) (hge : w.heap.size ≤ g) : w'.cell? ⟨g, j, none⟩ = some v := by
  refine hg.mod.cell hc ?_
  have h1 := h.lt.1
  rintro (e | e)
  · simp at e; omega
  · have := h.lt.2 _ e; simp at this; omega
/-- what is written next was just laid -/
theorem put_new (ss : List ByteArray) (w0 w : World) (p : Nat) (a : Option Addr) (l : List UInt8) (h : Wr w0 w p a l) (hn : ∀ s ∈ ss, 0 < s.size ∧ s.size < 2 ^ 30) (hm : ss.length < 2 ^ 30) (g : Nat) (hg : g = w.heap.size) (out : List UInt8) (ho : l ++ flatS ss = out) :
    Calls Tryd.prog 152 #[.pointer (some ⟨p, 0, none⟩), .slice (some ⟨g, 0, none⟩) ss.length ss.length] (w.alloc (.cells (sts ss).toArray 9)) (WrPost w0 w p a out) := by
  subst hg ho
  refine (put_any ss _ _ w0 _ p a l (h.mod0 ((Mod.refl _ w).alloc _)) (Rd.news w (sts ss) _) (fun b hb => ?_) hn hm).mono fun e w' hh => hh.pre0 ((Mod.refl _ w).alloc _)
  cases hb
  have hp := h.lt
  refine ⟨fun e => by simp at e; omega, fun e => ?_⟩
  have := hp.2 _ e
  simp at this
/-- one text written next -/
theorem put_one (s : ByteArray) (w0 w : World) (p : Nat) (a : Option Addr) (l : List UInt8) (h : Wr w0 w p a l) (hn : 0 < s.size ∧ s.size < 2 ^ 30) (g : Nat) (hg : g = w.heap.size) (out : List UInt8) (ho : l ++ s.data.toList = out) :
    Calls Tryd.prog 152 #[.pointer (some ⟨p, 0, none⟩), .slice (some ⟨g, 0, none⟩) 1 1] (w.alloc (.cells #[.string s] 9)) (WrPost w0 w p a out) :=
  put_new [s] w0 w p a l h (fun x hx => by simp at hx; subst hx; exact hn) (by simp) g hg out (by rw [← ho]; simp [flatS])
end Go.Proofs.YtgplagdehfhffaaDoor
