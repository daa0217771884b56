/-
  The document's archive with one file more.
-/
import Derived.Test.YtjoiaejbahdjkaaGreatAgE
import Derived.Test.YtjoiaejbahdjkaaGreatOrdA
import Derived.Test.YtjoiaejbahdjkaaGreatFgA
import Derived.Deep.CutRange
namespace Go.Proofs.YtjoiaejbahdjkaaGreat
open Go Go.RowKit Go.Mine
set_option linter.unusedVariables false
set_option maxHeartbeats 8000000
set_option maxRecDepth 100000
theorem tiStr6 : TI Tryz.prog 81 9 1 16 := TI.mk' (z := .string ByteArray.empty) (by kernel_rfl) (by kernel_rfl) rfl (by omega)
theorem tiBB6 : TI Tryz.prog 22 23 1 24 := TI.mk' (z := .slice none 0 0) (by kernel_rfl) (by kernel_rfl) rfl (by omega)
theorem newR26_any (w : World) : Calls Tryz.prog 17 #[] w fun e w' => e = .returned (.pointer (some ⟨w.heap.size, 0, none⟩)) ∧ w' = w.alloc (.cells #[.slice none 0 0, .slice none 0 0] 83) := by
 go_enter Tryz.func17, Tryz.ntmps17
 go_wp2
 go_ret
 exact ⟨rfl, rfl⟩
structure WAt (w0 w : World) (X : Nat) (na : Option Addr) (nc : Nat) (fa : Option Addr) (fc : Nat) (ns : List ByteArray) (vs : List Value) : Prop where
 box : w.heap[X]? = some (.cells #[.slice na ns.length nc, .slice fa vs.length fc] 83 (0, 0))
 on : Mine.Own w 9 1 na ns.length nc (sts ns)
 of : Mine.Own w 23 1 fa vs.length fc vs
 d1 : ∀ b, blk na = some b → b ≠ X
 d2 : ∀ b, blk fa = some b → b ≠ X
 d3 : ∀ b, blk na = some b → blk fa ≠ some b
 lX : w0.heap.size ≤ X
 ln : ∀ b, blk na = some b → w0.heap.size ≤ b
 lf : ∀ b, blk fa = some b → w0.heap.size ≤ b
 md : Mod (fun _ => False) w0 w
section
variable {w0 w w1 : World} {X : Nat} {na fa na' fa' : Option Addr} {nc fc nc' fc' n : Nat} {ns : List ByteArray} {vs : List Value}
theorem WAt.new (w : World) : WAt w (w.alloc (.cells #[.slice none 0 0, .slice none 0 0] 83)) w.heap.size none 0 none 0 [] [] :=
 ⟨heap_alloc_new w _, Mine.Own.nil _ _ _, Mine.Own.nil _ _ _, (fun b h => by cases h), (fun b h => by cases h), (fun b h => by cases h), Nat.le_refl _, (fun b h => by cases h), (fun b h => by cases h), (Mod.refl _ w).alloc _⟩
theorem WAt.Xlt (h : WAt w0 w X na nc fa fc ns vs) : X < w.heap.size := (Array.getElem?_eq_some_iff.1 h.box).1
theorem WAt.mod0 (h : WAt w0 w X na nc fa fc ns vs) (m : Mod (fun _ => False) w w1) : WAt w0 w1 X na nc fa fc ns vs :=
 ⟨m.at h.box id, h.on.mod m fun _ _ => id, h.of.mod m fun _ _ => id, h.d1, h.d2, h.d3, h.lX, h.ln, h.lf, h.md.step m fun _ _ e => e⟩
theorem grow_in {L : Nat} {a a' : Option Addr} (G : Grow w a w1 a') (h : ∀ b, blk a = some b → L ≤ b) (hL : L ≤ w.heap.size) : ∀ b, blk a' = some b → L ≤ b := fun b hb => by
 rcases G.pos with e | ⟨b2, e, h2⟩
 ·rw [e] at hb; exact h b hb
 ·rw [e] at hb
  have hb' : b2 = b := by simpa [blk] using hb
  omega
theorem grow_ne {a a' : Option Addr} {x : Nat} (G : Grow w a w1 a') (h : ∀ b, blk a = some b → b ≠ x) (hx : x < w.heap.size) : ∀ b, blk a' = some b → b ≠ x := fun b hb => by
 rcases G.pos with e | ⟨b2, e, h2⟩
 ·rw [e] at hb; exact h b hb
 ·rw [e] at hb
  have hb' : b2 = b := by simpa [blk] using hb
  omega
theorem WAt.nm (h : WAt w0 w X na nc fa fc ns vs) (G : Grow w na w1 na') {s : ByteArray} (O : Mine.Own w1 9 1 na' (n + 1) nc' (sts ns ++ [.string s])) (hn : n = ns.length) :
 WAt w0 (w1.setCell ⟨X, 0, none⟩ (.slice na' (n + 1) nc')) X na' nc' fa fc (ns ++ [s]) vs := by
 subst hn
 have hX1 := G.mod.at h.box (fun e => h.d1 X e rfl)
 have hne := grow_ne G h.d1 h.Xlt
 have hs : Mod (fun b => b = X) w1 (w1.setCell ⟨X, 0, none⟩ (.slice na' (ns.length + 1) nc')) := (Mod.refl (fun b => b = X) w1).setCell (p := ⟨X, 0, none⟩) (fun _ => rfl) _
 have hln := grow_in G h.ln h.md.size
 refine ⟨by rw [List.length_append]; exact heap_setCell_at _ hX1, ?_, ?_, hne, h.d2, fun b hb => ?_, h.lX, hln, h.lf, ?_⟩
 ·rw [List.length_append, sts_append]; exact O.mod hs fun b hb e => hne b hb e
 ·exact (h.of.mod G.mod fun b hb e => h.d3 b e hb).mod hs fun b hb e => h.d2 b hb e
 ·intro hf
  rcases G.pos with e | ⟨b2, e, h2⟩
  ·rw [e] at hb; exact h.d3 b hb hf
  ·rw [e] at hb
   have hb' : b2 = b := by simpa [blk] using hb
   have := h.of.lt b hf
   omega
 ·exact (h.md.step G.mod fun b hb e => by have := h.ln b e; omega).step hs fun b hb e => by have := h.lX; have h3 : b = X := e; omega
theorem WAt.fl (h : WAt w0 w X na nc fa fc ns vs) (G : Grow w fa w1 fa') {v : Value} (O : Mine.Own w1 23 1 fa' (n + 1) fc' (vs ++ [v])) (hn : n = vs.length) :
 WAt w0 (w1.setCell ⟨X, 1, none⟩ (.slice fa' (n + 1) fc')) X na nc fa' fc' ns (vs ++ [v]) := by
 subst hn
 have hX1 := G.mod.at h.box (fun e => h.d2 X e rfl)
 have hne := grow_ne G h.d2 h.Xlt
 have hs : Mod (fun b => b = X) w1 (w1.setCell ⟨X, 1, none⟩ (.slice fa' (vs.length + 1) fc')) := (Mod.refl (fun b => b = X) w1).setCell (p := ⟨X, 1, none⟩) (fun _ => rfl) _
 have hlf := grow_in G h.lf h.md.size
 refine ⟨by rw [List.length_append]; exact heap_setCell_at _ hX1, ?_, ?_, h.d1, hne, fun b hb => ?_, h.lX, h.ln, hlf, ?_⟩
 ·exact (h.on.mod G.mod fun b hb e => h.d3 b hb e).mod hs fun b hb e => h.d1 b hb e
 ·rw [List.length_append]; exact O.mod hs fun b hb e => hne b hb e
 ·intro hf
  rcases G.pos with e | ⟨b2, e, h2⟩
  ·rw [e] at hf; exact h.d3 b hb hf
  ·rw [e] at hf
   have hb' : b2 = b := by simpa [blk] using hf
   have := h.on.lt b hb
   omega
 ·exact (h.md.step G.mod fun b hb e => by have := h.lf b e; omega).step hs fun b hb e => by have := h.lX; have h3 : b = X := e; omega
end
end Go.Proofs.YtjoiaejbahdjkaaGreat
/-
  The document's archive with one file more: the walk.
-/
namespace Go.Proofs.YtjoiaejbahdjkaaGreat
open Go Go.RowKit Go.Mine
set_option linter.unusedVariables false
set_option maxHeartbeats 8000000
set_option maxRecDepth 100000
theorem withGo_len {β : Type} (x : ByteArray) (f : β) : ∀ (l : List (ByteArray × β)) (put : Bool), (withGo x f put l).length ≤ l.length + (if put = true then 0 else 1)
 | [], put => by cases put <;> simp [withGo]
 |(y, g) :: r, put => by
   rw [withGo, List.length_append, List.length_append, List.length_cons]
   have ih := withGo_len x f r (put || !blt y x)
   have h2 : (if y = x then ([] : List (ByteArray × β)) else [(y, g)]).length ≤ 1 := by split <;> simp
   cases put
   ·cases hb : blt y x
    ·rw [hb] at ih; simp at ih ⊢; omega
    ·rw [hb] at ih; simp at ih ⊢; omega
   ·simp at ih ⊢; omega
theorem withGo_cons {β : Type} (x : ByteArray) (f : β) (put : Bool) (p : ByteArray × β) (r : List (ByteArray × β)) : withGo x f put (p :: r) = (if put = false ∧ blt p.1 x = false then [(x, f)] else []) ++ (if p.1 = x then [] else [p]) ++ withGo x f (put || !blt p.1 x) r := rfl
def WithP (l : Ens) (x : ByteArray) (e : En) (w : World) (r : Ending) (w' : World) : Prop :=
 ∃ X na nc fa fc, r = .returned (.pointer (some ⟨X, 0, none⟩)) ∧ WAt w w' X na nc fa fc ((withGo x e false l).map (·.1)) (hvals (withGo x e false l))
theorem with26_any (p : Nat) (na0 fa0 : Option Addr) (nc0 fc0 : Nat) (l : Ens) (x : ByteArray) (en : En) (w : World) (h : RAt w p na0 nc0 fa0 fc0 l) (hb : l.length < 2 ^ 37) :
 Calls Tryz.prog 45 #[.pointer (some ⟨p, 0, none⟩), .string x, en.val] w (WithP l x en w) := by
 have H := Hi h
 obtain ⟨n, hnn⟩ : ∃ n, n = l.length := ⟨_, rfl⟩
 have HN := Hi hnn
 have HBX : Hid (w.heap[p]? = some (.cells #[.slice na0 n nc0, .slice fa0 n fc0] 83 (0, 0))) := Hi (by rw [hnn]; exact h.box)
 rw [← hnn] at hb
 clear h hnn
 go_enter Tryz.func45, Tryz.ntmps45
 go_wp2_with fail
 refine (newR26_any w).mono ?_
 rintro e w1 ⟨rfl, hw1⟩
 have HW1 : Hid (WAt w w1 w.heap.size none 0 none 0 [] []) := Hi (by rw [hw1]; exact WAt.new w)
 obtain ⟨X, hX⟩ : ∃ X, X = w.heap.size := ⟨_, rfl⟩
 rw [← hX] at HW1 ⊢
 clear hw1 hX
 simp only [En.val]
 go_wp2_with fail
 go_loopw [9, 8] (fun iv bv wr => ∃ (k : Nat) (put : Bool) (na : Option Addr) (nc : Nat) (fa : Option Addr) (fc : Nat) (out : Ens), k ≤ n ∧ iv = .int .i64 k ∧ bv = .bool put ∧ Hid (out ++ withGo x en put (l.drop k) = withGo x en false l) ∧ Hid (WAt w wr X na nc fa fc (out.map (·.1)) (hvals out))) (fun iv _ _ => n - (intOf iv).toNat)
 case atStart => exact ⟨0, false, none, 0, none, 0, [], Nat.zero_le _, rfl, rfl, Hi (by simp), HW1⟩
 case round =>
  obtain ⟨k, put, na, nc, fa, fc, out, hk, rfl, rfl, hE, hW⟩ := hrel
  have hbx := hW.out.md.at HBX.out id
  have p0 := cell_at (j := 0) hbx rfl
  have p1 := cell_at (j := 1) hbx rfl
  clear hbx
  by_cases hlt : k < n
  ·have hkl : k < l.length := by rw [← HN.out]; exact hlt
   obtain ⟨b1, o1, rfl, n00⟩ := H.out.name hkl
   obtain ⟨b2, o2, rfl, f00⟩ := H.out.file hkl
   have HN0 := Hi n00; have HF0 := Hi f00
   have n0 := hW.out.md.cell n00 id
   have hd : l.drop k = l[k] :: l.drop (k + 1) := (List.getElem_cons_drop hkl).symm
   have hE2 := hE.out
   rw [hd, withGo_cons] at hE2
   have HE := Hi hE2
   obtain ⟨y, hy⟩ : ∃ y, y = l[k].1 := ⟨_, rfl⟩
   have HY := Hi hy
   have hol : out.length ≤ n + 1 := by
    have h1 := congrArg List.length hE.out
    have h2 := withGo_len x en l false
    rw [List.length_append] at h1
    have h3 := HN.out
    simp at h2
    omega
   clear n00 f00 hd hE2 hE
   rw [← hy] at n0
   clear hy
   go_upto_region 6 with fail
   go_cut [32] from 20 to 93 (fun v wx => v = .bool (!put && !blt y x) ∧ wx = wr)
   case first =>
    cases put with
    | true =>
      go_wp2_with fail
      go_meet
      case rel => exact ⟨rfl, rfl⟩
    | false =>
      cases hb2 : Op.bytesLess y.toList x.toList with
      | true =>
        go_wp2_with fail
        go_meet
        case rel => exact ⟨by unfold blt; rw [hb2]; rfl, rfl⟩
      | false =>
        go_wp2_with fail
        go_meet
        case rel => exact ⟨by unfold blt; rw [hb2]; rfl, rfl⟩
   case rest =>
   obtain ⟨hv, hwc⟩ := hcut
   subst hv
   obtain rfl : wr = wc := hwc.symm
   go_upto_if 32 with fail
   go_cut [8] from 11 to 93 (fun bv wx => ∃ (put' : Bool) (na : Option Addr) (nc : Nat) (fa : Option Addr) (fc : Nat) (out' : Ens), bv = .bool put' ∧ Hid (WAt w wx X na nc fa fc (out'.map (·.1)) (hvals out')) ∧ Hid (out' ++ ((if y = x then [] else [l[k]]) ++ withGo x en put' (l.drop (k + 1))) = withGo x en false l) ∧ out'.length ≤ n + 2)
   case first =>
    by_cases hq : put = false ∧ blt y x = false
    ·obtain ⟨rfl, hb2⟩ := hq
     rw [show (!false && !blt y x) = true by rw [hb2]; rfl]
     have hc := hW.out.box
     have x0 := cell_at (j := 0) hc rfl
     rw [List.length_map] at x0
     have HOn : Hid (Mine.Own wr 9 1 na out.length nc (sts (out.map (·.1)))) := Hi (by have h := hW.out.on; rw [List.length_map] at h; exact h)
     obtain ⟨m, hm⟩ : ∃ m, m = out.length := ⟨_, rfl⟩
     have HM := Hi hm
     rw [← hm] at x0 HOn hol
     clear hc hm
     go_wp2_with (first
      |(at_builtin; refine wpL_appendN (us := [_]) rfl (.tmp 37) (.tmp 39) 81 rfl tiStr6 rfl HOn.out rfl rfl rfl (by omega) (by unfold maxLen; omega) ?_; intro a3 c3 w3 hO3 hG3 _
        have hb3 := hG3.mod.at hW.out.box (fun e => hW.out.d1 X e rfl)
        have x3 := cell_at (j := 0) hb3 rfl
        have q3 : w3.frozen? ⟨X, 0, none⟩ = false := frozen_at hb3
        have HW3 : Hid (WAt w (w3.setCell ⟨X, 0, none⟩ (.slice a3 (m + 1) c3)) X a3 c3 fa fc (out.map (·.1) ++ [x]) (hvals out)) := Hi (hW.out.nm hG3 hO3 (by rw [List.length_map, HM.out]))
        have x1 := cell_at (j := 1) HW3.out.box rfl
        have HOf : Hid (Mine.Own (w3.setCell ⟨X, 0, none⟩ (.slice a3 (m + 1) c3)) 23 1 fa m fc (hvals out)) := Hi (by have h := HW3.out.of; unfold hvals at h ⊢; rw [List.length_map, ← HM.out] at h; exact h)
        unfold hvals at x1
        rw [List.length_map, ← HM.out] at x1
        clear hO3 hG3 hb3)
      |(at_builtin; refine wpL_appendN (us := [_]) rfl (.tmp 47) (.tmp 49) 22 rfl tiBB6 rfl HOf.out rfl rfl rfl (by omega) (by unfold maxLen; omega) ?_; intro a5 c5 w5 hO5 hG5 _
        have hb5 := hG5.mod.at HW3.out.box (fun e => HW3.out.d2 X e rfl)
        have x5 := cell_at (j := 1) hb5 rfl
        have q5 : w5.frozen? ⟨X, 1, none⟩ = false := frozen_at hb5
        have HO5 := Hi hO5; have HG5 := Hi hG5; clear hO5 hG5 hb5))
     go_meet
     case rel =>
      refine ⟨true, a3, c3, a5, c5, out ++ [(x, en)], rfl, Hi ?_, Hi ?_, ?_⟩
      ·have h := HW3.out.fl HG5.out HO5.out (by unfold hvals; rw [List.length_map, HM.out])
       rw [List.map_append, show hvals (out ++ [(x, en)]) = hvals out ++ [en.val] by simp [hvals]]
       exact h
      ·have h1 := HE.out
       have h2 : blt y x = false := hb2
       rw [← HY.out, h2, if_pos (by simp)] at h1
       simpa using h1
      ·rw [List.length_append, ← HM.out]; simp; omega
    ·have hf : (!put && !blt y x) = false := by
      cases put
      ·cases hb3 : blt y x
       ·exact absurd ⟨rfl, hb3⟩ hq
       ·rfl
      ·rfl
     rw [hf]
     go_wp2_with fail
     go_meet
     case rel =>
      refine ⟨put, na, nc, fa, fc, out, rfl, hW, Hi ?_, by omega⟩
      have h1 := HE.out
      rw [← HY.out, if_neg hq] at h1
      have h2 : (put || !blt y x) = put := by
       cases put
       ·simpa using hf
       ·rfl
      rw [h2, List.nil_append] at h1
      exact h1
   case rest =>
    clear hW hol HE
    obtain ⟨put2, na2, nc2, fa2, fc2, out2, hv, hW2, hE2, hol2⟩ := hcut
    subst hv
    have hbx := hW2.out.md.at HBX.out id
    have p0 := cell_at (j := 0) hbx rfl
    have p1 := cell_at (j := 1) hbx rfl
    clear hbx
    have n0 := hW2.out.md.cell HN0.out id
    rw [← HY.out] at n0
    by_cases hyx : y = x
    ·have e1 : (!(y.toList == x.toList)) = false := by rw [baEq, decide_eq_true hyx]; rfl
     go_wp2_with fail
     go_roundw
     case rel =>
      refine ⟨k + 1, put2, na2, nc2, fa2, fc2, out2, hlt, by go_num, rfl, Hi ?_, hW2⟩
      have h1 := hE2.out
      rw [if_pos hyx] at h1
      exact h1
     case measure => simp [intOf]; omega
    ·have e1 : (!(y.toList == x.toList)) = true := by rw [baEq, decide_eq_false hyx]; rfl
     go_wp2_with fail
     clear e1
     obtain ⟨m, hm⟩ : ∃ m, m = out2.length := ⟨_, rfl⟩
     have HM := Hi hm
     have x0 := cell_at (j := 0) hW2.out.box rfl
     rw [List.length_map, ← hm] at x0
     rw [← hm] at hol2
     clear hm
     have hwcW : Hid (Mod (fun _ => False) wc (wc.alloc (.cells #[.string y] 9)).drew) := Hi ((Mod.refl _ wc).alloc _).drew
     have HWd := Hi (hW2.out.mod0 hwcW.out)
     have HOn : Hid (Mine.Own (wc.alloc (.cells #[.string y] 9)).drew 9 1 na2 m nc2 (sts (out2.map (·.1)))) := Hi (by have h := HWd.out.on; rw [List.length_map, ← HM.out] at h; exact h)
     refine wp_region_ord (fun w' => w'.cell? ⟨X, 0, none⟩ = some (.slice na2 m nc2) ∧ w'.cell? ⟨p, 0, none⟩ = some (.slice (some ⟨b1, o1, none⟩) n nc0) ∧ w'.cell? ⟨b1, o1 + k, none⟩ = some (.string y)) [(0, 0), (0, 1), (0, 2), (0, 3), (1, 4), (0, 5), (0, 6), (0, 7), (1, 8), (0, 9), (0, 10), (1, 11), (2, 12), (3, 13), (0, 14), (0, 15), (3, 16)] (by kernel_rfl) (by kernel_rfl) ?_
     go_wp2_with (first
      |(refine ord_pure rfl rfl rfl (fun K hK => ?_); go_big_quiet_op; refine hK _ ?_; clear hK K)
      |(refine ord_held rfl rfl rfl (⟨x0, p0, n0⟩) (fun K hK => ?_); apply Exists.intro; refine ⟨fun w' hs => ?_, hK _ ?_⟩; (revert hs; dsimp only; (try simp only [and_imp]); intros; go_simp; rfl); clear hK K)
      |(refine ord_keep rfl rfl (⟨x0, p0, n0⟩) (fun K hK => ?_))
      |(refine ord_drop rfl rfl (fun K hK => ?_))
      |(refine ord_nil ?_))
     refine hK _ _ ⟨hwcW.out.cell x0 id, hwcW.out.cell p0 id, hwcW.out.cell n0 id⟩ ?_; clear hK K
     go_wp2_with (first
      |(refine ord_drop rfl rfl (fun K hK => ?_); refine wpO_append (.tmp 66) (.tmp 74) 81 81 rfl tiStr6 rfl HOn.out rfl (Src.ofRd tiStr6.ht 1 1 (Rd.dr (Rd.news wc [_] 9)) (by simp) (by simp [Value.oneCell'])) (by omega) (by unfold maxLen; omega) ?_; intro a5 c5 w5 hO5 hG5 _
        have hb5 := hG5.mod.at HWd.out.box (fun e => HWd.out.d1 X e rfl)
        have x5 := cell_at (j := 0) hb5 rfl
        have q5 : w5.frozen? ⟨X, 0, none⟩ = false := frozen_at hb5
        have HW5 : Hid (WAt w (w5.setCell ⟨X, 0, none⟩ (.slice a5 (m + 1) c5)) X a5 c5 fa2 fc2 (out2.map (·.1) ++ [y]) (hvals out2)) := Hi (HWd.out.nm hG5 hO5 (by rw [List.length_map, HM.out]))
        clear hO5 hG5 hb5
        refine hK _ _ ?_; clear hK K)
      |(refine ord_pure rfl rfl rfl (fun K hK => ?_); go_big_quiet_op; refine hK _ ?_; clear hK K)
      |(refine ord_held rfl rfl rfl (trivial) (fun K hK => ?_); apply Exists.intro; refine ⟨fun w' hs => ?_, hK _ ?_⟩; (revert hs; dsimp only; (try simp only [and_imp]); intros; go_simp; rfl); clear hK K)
      |(refine ord_keep rfl rfl (trivial) (fun K hK => ?_))
      |(refine ord_drop rfl rfl (fun K hK => ?_))
      |(refine ord_nil ?_))
     clear x5 q5 hwcW HWd HOn x0 p0 p1 n0
     generalize w5.setCell ⟨X, 0, none⟩ (.slice a5 (m + 1) c5) = w6 at *
     have hbx := HW5.out.md.at HBX.out id
     have p1 := cell_at (j := 1) hbx rfl
     clear hbx
     have f0 := HW5.out.md.cell HF0.out id
     have x1 := cell_at (j := 1) HW5.out.box rfl
     unfold hvals at x1
     rw [List.length_map, ← HM.out] at x1
     obtain ⟨t, ht⟩ : ∃ t, t = l[k].2.f.length := ⟨_, rfl⟩
     obtain ⟨g, hg⟩ : ∃ g, g = l[k].2.g := ⟨_, rfl⟩
     obtain ⟨c, hc⟩ : ∃ c, c = l[k].2.c := ⟨_, rfl⟩
     have HV : Hid (l[k].2.val = .slice (some ⟨g, 0, none⟩) t c) := Hi (by rw [ht, hg, hc]; rfl)
     rw [← ht, ← hg, ← hc] at f0
     clear ht hg hc
     have hwcW : Hid (Mod (fun _ => False) w6 (w6.alloc (.cells #[.slice (some ⟨g, 0, none⟩) t c] 23)).drew) := Hi ((Mod.refl _ w6).alloc _).drew
     have HWd := Hi (HW5.out.mod0 hwcW.out)
     have HOf : Hid (Mine.Own (w6.alloc (.cells #[.slice (some ⟨g, 0, none⟩) t c] 23)).drew 23 1 fa2 m fc2 (hvals out2)) := Hi (by have h := HWd.out.of; unfold hvals at h ⊢; rw [List.length_map, ← HM.out] at h; exact h)
     refine wp_region_ord (fun w' => w'.cell? ⟨X, 1, none⟩ = some (.slice fa2 m fc2) ∧ w'.cell? ⟨p, 1, none⟩ = some (.slice (some ⟨b2, o2, none⟩) n fc0) ∧ w'.cell? ⟨b2, o2 + k, none⟩ = some (.slice (some ⟨g, 0, none⟩) t c)) [(0, 0), (0, 1), (0, 2), (0, 3), (1, 4), (0, 5), (0, 6), (0, 7), (1, 8), (0, 9), (0, 10), (1, 11), (2, 12), (3, 13), (0, 14), (0, 15), (3, 16)] (by kernel_rfl) (by kernel_rfl) ?_
     go_wp2_with (first
      |(refine ord_pure rfl rfl rfl (fun K hK => ?_); go_big_quiet_op; refine hK _ ?_; clear hK K)
      |(refine ord_held rfl rfl rfl (⟨x1, p1, f0⟩) (fun K hK => ?_); apply Exists.intro; refine ⟨fun w' hs => ?_, hK _ ?_⟩; (revert hs; dsimp only; (try simp only [and_imp]); intros; go_simp; rfl); clear hK K)
      |(refine ord_keep rfl rfl (⟨x1, p1, f0⟩) (fun K hK => ?_))
      |(refine ord_drop rfl rfl (fun K hK => ?_))
      |(refine ord_nil ?_))
     refine hK _ _ ⟨hwcW.out.cell x1 id, hwcW.out.cell p1 id, hwcW.out.cell f0 id⟩ ?_; clear hK K
     go_wp2_with (first
      |(refine ord_drop rfl rfl (fun K hK => ?_); refine wpO_append (.tmp 82) (.tmp 90) 22 22 rfl tiBB6 rfl HOf.out rfl (Src.ofRd tiBB6.ht 1 1 (Rd.dr (Rd.news w6 [_] 23)) (by simp) (by simp [Value.oneCell'])) (by omega) (by unfold maxLen; omega) ?_; intro a7 c7 w7 hO7 hG7 _
        have hb7 := hG7.mod.at HWd.out.box (fun e => HWd.out.d2 X e rfl)
        have x7 := cell_at (j := 1) hb7 rfl
        have q7 : w7.frozen? ⟨X, 1, none⟩ = false := frozen_at hb7
        have HW7 : Hid (WAt w (w7.setCell ⟨X, 1, none⟩ (.slice a7 (m + 1) c7)) X a5 c5 a7 c7 (out2.map (·.1) ++ [y]) (hvals out2 ++ [.slice (some ⟨g, 0, none⟩) t c])) := Hi (HWd.out.fl hG7 hO7 (by unfold hvals; rw [List.length_map, HM.out]))
        clear hO7 hG7 hb7
        refine hK _ _ ?_; clear hK K)
      |(refine ord_pure rfl rfl rfl (fun K hK => ?_); go_big_quiet_op; refine hK _ ?_; clear hK K)
      |(refine ord_held rfl rfl rfl (trivial) (fun K hK => ?_); apply Exists.intro; refine ⟨fun w' hs => ?_, hK _ ?_⟩; (revert hs; dsimp only; (try simp only [and_imp]); intros; go_simp; rfl); clear hK K)
      |(refine ord_keep rfl rfl (trivial) (fun K hK => ?_))
      |(refine ord_drop rfl rfl (fun K hK => ?_))
      |(refine ord_nil ?_))
     go_roundw
     case rel =>
      refine ⟨k + 1, put2, a5, c5, a7, c7, out2 ++ [l[k]], hlt, by go_num, rfl, Hi ?_, Hi ?_⟩
      ·have h1 := hE2.out
       rw [if_neg hyx] at h1
       rw [List.append_assoc]
       exact h1
      ·have h := HW7.out
       rw [← HV.out] at h
       rw [List.map_append, show hvals (out2 ++ [l[k]]) = hvals out2 ++ [l[k].2.val] by simp [hvals]]
       simp only [List.map_cons, List.map_nil]
       rw [← HY.out]
       exact h
     case measure => simp [intOf]; omega
  ·obtain rfl : n = k := by omega
   have hE2 := hE.out
   rw [List.drop_of_length_le (by rw [← HN.out]; exact Nat.le_refl _), withGo] at hE2
   cases put with
   | true =>
     rw [if_pos rfl, List.append_nil] at hE2
     subst hE2
     clear hE
     have HQ := hW
     clear hW
     go_wp2_with fail
     go_ret
     exact ⟨X, na, nc, fa, fc, rfl, HQ.out⟩
   | false =>
     rw [if_neg (by simp)] at hE2
     have HE2 := Hi hE2
     have hol : out.length ≤ n + 1 := by
      have h1 := congrArg List.length hE2
      have h2 := withGo_len x en l false
      rw [List.length_append] at h1
      have h3 := HN.out
      simp at h1 h2
      omega
     clear hE2 hE
     have x0 := cell_at (j := 0) hW.out.box rfl
     rw [List.length_map] at x0
     have HOn : Hid (Mine.Own wr 9 1 na out.length nc (sts (out.map (·.1)))) := Hi (by have h := hW.out.on; rw [List.length_map] at h; exact h)
     obtain ⟨m, hm⟩ : ∃ m, m = out.length := ⟨_, rfl⟩
     have HM := Hi hm
     rw [← hm] at x0 HOn hol
     clear hm
     go_wp2_with (first
      |(at_builtin; refine wpL_appendN (us := [_]) rfl (.tmp 100) (.tmp 102) 81 rfl tiStr6 rfl HOn.out rfl rfl rfl (by omega) (by unfold maxLen; omega) ?_; intro a3 c3 w3 hO3 hG3 _
        have hb3 := hG3.mod.at hW.out.box (fun e => hW.out.d1 X e rfl)
        have x3 := cell_at (j := 0) hb3 rfl
        have q3 : w3.frozen? ⟨X, 0, none⟩ = false := frozen_at hb3
        have HW3 : Hid (WAt w (w3.setCell ⟨X, 0, none⟩ (.slice a3 (m + 1) c3)) X a3 c3 fa fc (out.map (·.1) ++ [x]) (hvals out)) := Hi (hW.out.nm hG3 hO3 (by rw [List.length_map, HM.out]))
        have x1 := cell_at (j := 1) HW3.out.box rfl
        have HOf : Hid (Mine.Own (w3.setCell ⟨X, 0, none⟩ (.slice a3 (m + 1) c3)) 23 1 fa m fc (hvals out)) := Hi (by have h := HW3.out.of; unfold hvals at h ⊢; rw [List.length_map, ← HM.out] at h; exact h)
        unfold hvals at x1
        rw [List.length_map, ← HM.out] at x1
        clear hO3 hG3 hb3)
      |(at_builtin; refine wpL_appendN (us := [_]) rfl (.tmp 110) (.tmp 112) 22 rfl tiBB6 rfl HOf.out rfl rfl rfl (by omega) (by unfold maxLen; omega) ?_; intro a5 c5 w5 hO5 hG5 _
        have hb5 := hG5.mod.at HW3.out.box (fun e => HW3.out.d2 X e rfl)
        have x5 := cell_at (j := 1) hb5 rfl
        have q5 : w5.frozen? ⟨X, 1, none⟩ = false := frozen_at hb5
        have HO5 := Hi hO5; have HG5 := Hi hG5; clear hO5 hG5 hb5))
     go_ret
     refine ⟨X, a3, c3, a5, c5, rfl, ?_⟩
     have h := HW3.out.fl HG5.out HO5.out (by unfold hvals; rw [List.length_map, HM.out])
     rw [← HE2.out, List.map_append, show hvals (out ++ [(x, en)]) = hvals out ++ [en.val] by simp [hvals]]
     exact h
end Go.Proofs.YtjoiaejbahdjkaaGreat
