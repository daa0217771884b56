/-
  ArchivePacks: the walk.
-/
import Derived.Test.YtjoiaejbahdjkaaGreatAgG
import Derived.Test.YtjoiaejbahdjkaaGreatAgC
namespace Go.Proofs.YtjoiaejbahdjkaaGreat
open Go Go.RowKit Go.Mine
set_option linter.unusedVariables false
set_option maxHeartbeats 8000000
set_option maxRecDepth 100000

/-- bytes lent; bytes that may be written over; bytes done with -/
def lentI (q : Nat × Nat × List UInt8) : It := ⟨fun b => b = q.1, fun w => LentA w q.1 q.2.1 q.2.2, fun S w w' h m hs => h.mod m (hs q.1 rfl), fun w h b e => by subst e; exact h.1.lt q.1 rfl⟩
def wrI (a : Option Addr) (c : Nat) (l : List UInt8) : It := ⟨fun b => blk a = some b, fun w => WrOk w a c l, fun S w w' h m hs => h.mod m hs, fun w h => h.lt⟩
def goneI (a : Option Addr) : It := ⟨fun b => blk a = some b, fun w => ∀ b, blk a = some b → b < w.heap.size, fun S w w' h m hs b hb => Nat.lt_of_lt_of_le (h b hb) m.size, fun w h => h⟩
section
variable {w0 w w' : World} {pre post : List It} {i' : It}
theorem RS.pushp (h : RS w0 w (pre ++ post)) (m : Mod (fun _ => False) w w') (hi : i'.P w') (hl : ∀ b, i'.F b → w.heap.size ≤ b) : RS w0 w' (pre ++ [i'] ++ post) := by
  have h1 := h.push m hi hl
  refine ⟨h1.fam.perm ?_, h1.md⟩
  rw [List.append_assoc, List.append_assoc]
  exact List.Perm.append_left pre List.perm_append_comm
theorem pre_get {k : Nat} (hk : k < pre.length) : ∃ h : k < (pre ++ post).length, (pre ++ post)[k] = pre[k] :=
  ⟨by rw [List.length_append]; omega, List.getElem_append_left hk⟩
theorem RS.setp (h : RS w0 w (pre ++ post)) {k : Nat} (hk : k < pre.length) (m : Mod (pre[k]).F w w') (hi : i'.P w') (hf : ∀ b, i'.F b → (pre[k]).F b ∨ w.heap.size ≤ b) : RS w0 w' (pre.set k i' ++ post) := by
  obtain ⟨h1, h2⟩ := pre_get (post := post) hk
  have h3 := h.set h1 (i' := i') (by rw [h2]; exact m) hi (by rw [h2]; exact hf)
  rw [List.set_append_left _ _ hk] at h3
  exact h3
theorem RS.getp (h : RS w0 w (pre ++ post)) {k : Nat} (hk : k < pre.length) : (pre[k]).P w := by
  obtain ⟨h1, h2⟩ := pre_get (post := post) hk
  rw [← h2]; exact h.get h1
theorem RS.postI (h : RS w0 w (pre ++ post)) {i : It} (hi : i ∈ post) : i.P w := h.fam.at_ i (List.mem_append_right _ hi)
end
def lhd (q : Nat × Nat × List UInt8) : Value := .slice (some ⟨q.1, 0, none⟩) q.2.2.length q.2.1
def lsl (q : Nat × Nat × List UInt8) : Sl × List UInt8 := (⟨some ⟨q.1, 0, none⟩, q.2.2.length, q.2.1⟩, q.2.2)
theorem lent_fls {w0 w : World} {pre : List It} {gs : List (Nat × Nat × List UInt8)} {a : Option Addr} (h : RS w0 w (pre ++ gs.map lentI)) (hr : Rd w a (gs.map lhd)) (hl : ∀ q ∈ gs, q.2.2.length < 2 ^ 39) : FlsB w a (gs.map lsl) := by
  refine ⟨⟨by rw [List.map_map]; exact hr, fun q hq => ?_⟩, fun q hq => ?_⟩
  · obtain ⟨p, hp, rfl⟩ := List.mem_map.1 hq
    have h1 : LentA w p.1 p.2.1 p.2.2 := h.postI (List.mem_map.2 ⟨p, hp, rfl⟩)
    exact ⟨rfl, h1.rd⟩
  · obtain ⟨p, hp, rfl⟩ := List.mem_map.1 hq
    have h1 : LentA w p.1 p.2.1 p.2.2 := h.postI (List.mem_map.2 ⟨p, hp, rfl⟩)
    have h2 := h1.2
    have h3 := hl p hp
    show p.2.2.length ≤ p.2.1 ∧ p.2.2.length < 2 ^ 40
    omega
theorem num26_any (k : Int) (w : World) : Calls Tryz.prog 9 #[.int .i64 k] w fun e w' => e = .returned (.int .i64 k) ∧ w = w' := by
  go_enter Tryz.func9, Tryz.ntmps9
  go_wp2
  go_ret
  exact ⟨rfl, rfl⟩
theorem packs_walk (a : Option Addr) (c : Nat) (qs : List (Sl × List UInt8)) (w : World) (h : FlsB w a qs) (hn : qs.length < 2 ^ 30) (hl : ∀ q ∈ qs, q.2.length < 2 ^ 30) :
    Calls Tryz.prog 3 #[.slice a qs.length c] w fun e w' => e = .returned (.bool true) ∧ Mod (fun _ => False) w w' := by
  have H := Lib.hid h
  have HL := Lib.hid hl
  clear h hl
  obtain ⟨n, hnn⟩ : ∃ n, n = qs.length := ⟨_, rfl⟩
  have HN := Lib.hid hnn
  rw [← hnn] at hn ⊢
  clear hnn
  go_enter Tryz.func3, Tryz.ntmps3
  go_wp2_with fail
  go_loopw [4, 3] (fun iv bv wr => ∃ (k : Nat) (ia : Option Addr) (ic : Nat) (gs : List (Nat × Nat × List UInt8)), k ≤ n ∧ iv = .int .i64 k ∧ bv = .slice ia k ic ∧ Hid (k = gs.length) ∧ Hid (gs.map (·.2.2) = (filesOf qs).take k) ∧ Hid (RS w wr ([ownI 23 1 ia k ic (gs.map lhd)] ++ gs.map lentI))) (fun iv _ _ => n - (intOf iv).toNat)
  case atStart =>
    refine ⟨0, none, 0, [], Nat.zero_le _, rfl, rfl, Lib.hid rfl, Lib.hid (by simp), Lib.hid ?_⟩
    exact ⟨Fam.one (Mine.Own.nil _ _ _) (fun b hb => by cases hb) (Nat.le_refl _), Mod.refl _ _⟩
  case round =>
    obtain ⟨k, ia, ic, gs, hk, rfl, rfl, hgl, hgs, hS⟩ := hrel
    by_cases hlt : k < n
    · have hkq : k < qs.length := by rw [← HN.out]; exact hlt
      obtain ⟨b, o, rfl, hc⟩ := (H.out.hd.mod0 hS.out.md).get hkq
      have hly := HL.out _ (List.getElem_mem hkq)
      have HR : Hid (Rd wr qs[k].1.a (bts qs[k].2)) := Lib.hid ((H.out.hd.mod0 hS.out.md).row _ (List.getElem_mem hkq)).2
      have hG2 : (filesOf qs).take (k + 1) = (filesOf qs).take k ++ [qs[k].2] := by
        have hkf : k < (filesOf qs).length := by simpa [filesOf] using hkq
        rw [List.take_succ_eq_append_getElem hkf]
        simp [filesOf]
      rw [← hgs.out] at hG2
      have HG2 := Lib.hid hG2
      generalize qs[k].2 = y at *
      generalize qs[k].1.a = ra at *
      generalize qs[k].1.c = rc at *
      have HLE := Lib.hid (lent26_any ra rc y wr HR.out (by omega))
      obtain ⟨m, hm⟩ : ∃ m, m = y.length := ⟨_, rfl⟩
      have HM := Lib.hid hm
      rw [← hm] at hc HLE hly
      clear hG2 hm hgs
      go_wp2_with fail
      refine HLE.out.mono ?_
      clear HLE
      rintro e w2 ⟨g, gc, rfl, hL, hm2, hg⟩
      have HS2 : Hid (RS w w2 ([ownI 23 1 ia k ic (gs.map lhd)] ++ (gs ++ [(g, gc, y)]).map lentI)) := Lib.hid (by
        have h1 := hS.out.push (i' := lentI (g, gc, y)) hm2 hL (fun b hb => by rw [show b = g from hb]; exact hg)
        rw [List.map_append, ← List.append_assoc]
        exact h1)
      have HO2 : Hid (Mine.Own w2 23 1 ia k ic (gs.map lhd)) := Lib.hid (HS2.out.getp (k := 0) (by simp))
      clear hL hm2 hg hS
      go_wp2_with (first
        | (at_builtin; refine wpL_appendN (us := [_]) rfl (.tmp 19) (.tmp 25) 22 rfl tiBB6 rfl HO2.out rfl rfl rfl (by omega) (by unfold maxLen; omega) ?_; intro a3 c3 w3 hO3 hG3 _
           have HO3 := Lib.hid hO3; have HG3 := Lib.hid hG3; clear hO3 hG3))
      go_roundw
      case rel =>
        refine ⟨k + 1, a3, c3, gs ++ [(g, gc, y)], hlt, by go_num, rfl, Lib.hid (by rw [List.length_append, ← hgl.out]; rfl), Lib.hid (by rw [HG2.out]; simp), Lib.hid ?_⟩
        have hO3 := HO3.out
        have h1 := HS2.out.setp (k := 0) (i' := ownI 23 1 a3 (k + 1) c3 ((gs ++ [(g, gc, y)]).map lhd)) (by simp) HG3.out.mod (by
          rw [List.map_append]
          show Mine.Own w3 23 1 a3 (k + 1) c3 (gs.map lhd ++ [.slice (some ⟨g, 0, none⟩) y.length gc])
          rw [← HM.out]
          exact hO3) (fun b hb => by
          rcases HG3.out.pos with e | ⟨b2, e, h2⟩
          · left
            show blk ia = some b
            rw [← e]; exact hb
          · right
            have hb2 : blk a3 = some b := hb
            rw [e] at hb2
            have hb' : b2 = b := by simpa [blk] using hb2
            omega)
        exact h1
      case measure => simp [intOf]; omega
    · obtain rfl : n = k := by omega
      have hfq : gs.map (·.2.2) = filesOf qs := by rw [hgs.out, List.take_of_length_le (by unfold filesOf; rw [List.length_map, ← HN.out]; exact Nat.le_refl _)]
      have HFQ := Lib.hid hfq
      clear hfq hgs
      have HS4 : Hid (RS w (wr.alloc (.cells #[.int .u8 1] 5)) ([ownI 23 1 ia n ic (gs.map lhd), boxI wr.heap.size #[.int .u8 1] 5] ++ gs.map lentI)) := Lib.hid (hS.out.pushp (i' := boxI wr.heap.size #[.int .u8 1] 5) ((Mod.refl _ wr).alloc _) (heap_alloc_new wr _) (fun b hb => Nat.le_of_eq (Eq.symm hb)))
      have HO4 : Hid (Mine.Own (wr.alloc (.cells #[.int .u8 1] 5)) 23 1 ia n ic (gs.map lhd)) := Lib.hid (HS4.out.getp (k := 0) (by simp))
      clear hS
      go_wp2_with (first
        | (at_builtin; refine wpL_appendN (us := [_]) rfl (.tmp 28) (.tmp 30) 22 rfl tiBB6 rfl HO4.out rfl rfl rfl (by omega) (by unfold maxLen; omega) ?_; intro a5 c5 w5 hO5 hG5 _
           have HO5 := Lib.hid hO5; have HG5 := Lib.hid hG5; clear hO5 hG5))
      obtain ⟨mk, hmk⟩ : ∃ mk, mk = wr.heap.size := ⟨_, rfl⟩
      rw [← hmk] at HS4 HO5 ⊢
      clear hmk HO4
      generalize wr.alloc (.cells #[.int .u8 1] 5) = w4 at *
      have HS5 : Hid (RS w w5 ([ownI 23 1 a5 (n + 1) c5 (gs.map lhd ++ [Value.slice (some ⟨mk, 0, none⟩) 1 1]), boxI mk #[.int .u8 1] 5] ++ gs.map lentI)) := Lib.hid (by
        have h1 := HS4.out.setp (k := 0) (i' := ownI 23 1 a5 (n + 1) c5 (gs.map lhd ++ [Value.slice (some ⟨mk, 0, none⟩) 1 1])) (by simp) HG5.out.mod HO5.out (fun b hb => by
          rcases HG5.out.pos with e | ⟨b2, e, h2⟩
          · left
            show blk ia = some b
            rw [← e]; exact hb
          · right
            have hb2 : blk a5 = some b := hb
            rw [e] at hb2
            have hb' : b2 = b := by simpa [blk] using hb2
            omega)
        exact h1)
      clear HS4 HO5 HG5
      have HPR := Lib.hid (packR26_any a c qs w5 (H.out.mod0 HS5.out.md) (by rw [← HN.out]; omega))
      rw [← HN.out] at HPR
      refine HPR.out.mono ?_
      clear HPR
      rintro e w6 ⟨a6, c6, rfl, hW6, hF6, hm6⟩
      obtain ⟨B, hB⟩ : ∃ B, B = (packS (filesOf qs)).1 := ⟨_, rfl⟩
      obtain ⟨ek, hek⟩ : ∃ ek, ek = (packS (filesOf qs)).2 := ⟨_, rfl⟩
      rw [← hB] at hW6 ⊢
      rw [← hek]
      have HB := Lib.hid hB; have HEK := Lib.hid hek
      have HS6 : Hid (RS w w6 ([ownI 23 1 a5 (n + 1) c5 (gs.map lhd ++ [Value.slice (some ⟨mk, 0, none⟩) 1 1]), boxI mk #[.int .u8 1] 5, wrI a6 c6 B] ++ gs.map lentI)) := Lib.hid (HS5.out.pushp hm6 hW6 hF6)
      clear hW6 hF6 hm6 hB hek HS5
      have hBl : B.length ≤ 16777216 := by rw [HB.out]; exact packS_len _
      obtain ⟨bn, hbn⟩ : ∃ bn, bn = B.length := ⟨_, rfl⟩
      rw [← hbn] at hBl ⊢
      have HBN := Lib.hid hbn
      clear hbn
      have hOi : Mine.Own w6 23 1 a5 (n + 1) c5 (gs.map lhd ++ [Value.slice (some ⟨mk, 0, none⟩) 1 1]) := HS6.out.getp (k := 0) (by simp)
      obtain ⟨gi, rfl⟩ := hOi.atHead (by omega)
      have hic : n + 1 ≤ c5 := by
        obtain ⟨_, _, _, _, h, _⟩ := hOi.2.resolve_left (by simp)
        exact h
      clear hOi
      go_wp2_with fail
      have hfl : filesOf (gs.map lsl) = filesOf qs := by rw [← HFQ.out]; unfold filesOf; rw [List.map_map]; rfl
      have hgn : (gs.map lsl).length = n := by rw [List.length_map, ← hgl.out]
      have HPP : Hid (∀ W, Mod (fun _ => False) w6 W → Calls Tryz.prog 8 #[.slice (some ⟨gi, 0, none⟩) n c5] W (PackP (filesOf qs) W)) := Lib.hid fun W hW => by
        have hrd : Rd w6 (some ⟨gi, 0, none⟩) (gs.map lhd) := by
          have h1 := (HS6.out.getp (k := 0) (by simp) : Mine.Own w6 23 1 (some ⟨gi, 0, none⟩) (n + 1) c5 (gs.map lhd ++ [Value.slice (some ⟨mk, 0, none⟩) 1 1])).rd.take gs.length
          rw [List.take_left' (by simp)] at h1
          exact h1
        have hfs := lent_fls HS6.out hrd (fun q hq => by
          have h1 : q.2.2 ∈ filesOf qs := by rw [← HFQ.out]; exact List.mem_map.2 ⟨q, hq, rfl⟩
          obtain ⟨p, hp, e⟩ := List.mem_map.1 h1
          have h2 := HL.out p hp
          rw [e] at h2
          omega)
        have h2 := packP_any (some ⟨gi, 0, none⟩) c5 (gs.map lsl) W (hfs.mod0 hW) (by rw [hgn]; omega)
        rw [hgn, hfl] at h2
        exact h2
      clear hfl hgn
      refine (HPP.out w6 (Mod.refl _ _)).mono ?_
      rintro e w7 ⟨a7, c7, rfl, hW7, hF7, hm7⟩
      rw [← HB.out] at hW7 ⊢
      rw [← HBN.out, ← HEK.out]
      have HS7 : Hid (RS w w7 ([ownI 23 1 (some ⟨gi, 0, none⟩) (n + 1) c5 (gs.map lhd ++ [Value.slice (some ⟨mk, 0, none⟩) 1 1]), boxI mk #[.int .u8 1] 5, wrI a6 c6 B, wrI a7 c7 B] ++ gs.map lentI)) := Lib.hid (HS6.out.pushp hm7 hW7 hF7)
      have HM67 := Lib.hid hm7
      clear hW7 hF7 hm7 HS6
      go_wp2_with fail
      refine (HPP.out w7 HM67.out).mono ?_
      clear HPP
      rintro e w8 ⟨a8, c8, rfl, hW8, hF8, hm8⟩
      rw [← HB.out] at hW8 ⊢
      rw [← HBN.out, ← HEK.out]
      have HS8 : Hid (RS w w8 ([ownI 23 1 (some ⟨gi, 0, none⟩) (n + 1) c5 (gs.map lhd ++ [Value.slice (some ⟨mk, 0, none⟩) 1 1]), boxI mk #[.int .u8 1] 5, wrI a6 c6 B, wrI a7 c7 B, wrI a8 c8 B] ++ gs.map lentI)) := Lib.hid (HS7.out.pushp hm8 hW8 hF8)
      clear hW8 hF8 hm8 HS7 HM67
      go_wp2_with fail
      refine (num26_any ek w8).mono ?_
      rintro e w9 ⟨rfl, hw9⟩
      obtain rfl : w8 = w9 := hw9
      have e1 : ((ek : Int) != (ek : Int)) = false := by simp
      have HSM : Hid (∀ (W : World) (x y : Option Addr) (cx cy : Nat), WrOk W x cx B → WrOk W y cy B → Calls Tryz.prog 10 #[.slice x bn cx, .slice y bn cy] W fun e w' => e = .returned (.bool true) ∧ Mod (fun _ => False) W w') := Lib.hid fun W x y cx cy h1 h2 => by
        have h := same26_any x y cx cy B B W h1.rd h2.rd (by rw [← HBN.out]; omega) (by rw [← HBN.out]; omega)
        rw [← HBN.out] at h
        refine h.mono ?_
        rintro e w' ⟨rfl, hm⟩
        exact ⟨ret_boolA (by simp), hm⟩
      go_wp2_with fail
      refine (HSM.out w8 a7 a6 c7 c6 (HS8.out.getp (k := 3) (by simp)) (HS8.out.getp (k := 2) (by simp))).mono ?_
      rintro e w9 ⟨rfl, hm9⟩
      have HS9 := Lib.hid (HS8.out.mod0 hm9)
      clear hm9 HS8
      go_wp2_with fail
      refine (HSM.out w9 a8 a6 c8 c6 (HS9.out.getp (k := 4) (by simp)) (HS9.out.getp (k := 2) (by simp))).mono ?_
      rintro e w10 ⟨rfl, hm10⟩
      have HS10 := Lib.hid (HS9.out.mod0 hm10)
      clear hm10 HS9
      go_wp2_with fail
      have HOV := Lib.hid (over26_any a7 c7 B w10 (HS10.out.getp (k := 3) (by simp)) (by rw [← HBN.out]; omega))
      rw [← HBN.out] at HOV
      refine HOV.out.mono ?_
      clear HOV
      rintro e w11 ⟨rfl, hm11⟩
      have HS11 : Hid (RS w w11 ([ownI 23 1 (some ⟨gi, 0, none⟩) (n + 1) c5 (gs.map lhd ++ [Value.slice (some ⟨mk, 0, none⟩) 1 1]), boxI mk #[.int .u8 1] 5, wrI a6 c6 B, goneI a7, wrI a8 c8 B] ++ gs.map lentI)) := Lib.hid (by
        have hlt7 : ∀ b, blk a7 = some b → b < w10.heap.size := (HS10.out.getp (k := 3) (by simp) : WrOk w10 a7 c7 B).lt
        exact HS10.out.setp (k := 3) (i' := goneI a7) (by simp) hm11 (fun b hb => Nat.lt_of_lt_of_le (hlt7 b hb) hm11.size) (fun b hb => .inl hb))
      clear hm11 HS10
      go_wp2_with fail
      go_loopw [12] (fun iv wr => ∃ k : Nat, k ≤ n ∧ iv = .int .i64 k ∧ Hid (RS w wr ([ownI 23 1 (some ⟨gi, 0, none⟩) (n + 1) c5 (gs.map lhd ++ [Value.slice (some ⟨mk, 0, none⟩) 1 1]), boxI mk #[.int .u8 1] 5, wrI a6 c6 B, goneI a7, wrI a8 c8 B] ++ gs.map lentI))) (fun iv _ => n - (intOf iv).toNat)
      case atStart => exact ⟨0, Nat.zero_le _, rfl, HS11⟩
      case round =>
        obtain ⟨k, hk, rfl, hS⟩ := hrel
        by_cases hlt : k < n
        · have hkq : k < qs.length := by rw [← HN.out]; exact hlt
          have hkg : k < gs.length := by rw [← hgl.out]; exact hlt
          obtain ⟨b, o, rfl, y0⟩ := (H.out.hd.mod0 hS.out.md).get hkq
          have hLk : LentA wr gs[k].1 gs[k].2.1 gs[k].2.2 := hS.out.postI (i := lentI gs[k]) (List.mem_map.2 ⟨gs[k], List.getElem_mem hkg, rfl⟩)
          have hyg : gs[k].2.2 = qs[k].2 := by
            have h1 := congrArg (fun l => l[k]?) HFQ.out
            simp only [filesOf, List.getElem?_map] at h1
            rw [List.getElem?_eq_getElem hkg, List.getElem?_eq_getElem hkq] at h1
            simpa using h1
          rw [hyg] at hLk
          have x0 : wr.cell? ⟨gi, k, none⟩ = some (.slice (some ⟨gs[k].1, 0, none⟩) qs[k].2.length gs[k].2.1) := by
            have h1 := (hS.out.getp (k := 0) (by simp) : Mine.Own wr 23 1 (some ⟨gi, 0, none⟩) (n + 1) c5 (gs.map lhd ++ [Value.slice (some ⟨mk, 0, none⟩) 1 1])).rd k (lhd gs[k]) (by rw [List.getElem?_append_left (by simpa using hkg)]; simp [hkg])
            obtain ⟨b1, o1, e1, h2⟩ := h1
            cases e1
            rw [Nat.zero_add] at h2
            rw [h2, ← hyg]
            rfl
          have hR : Rd wr qs[k].1.a (bts qs[k].2) := ((H.out.hd.mod0 hS.out.md).row _ (List.getElem_mem hkq)).2
          have hly := HL.out _ (List.getElem_mem hkq)
          have HKE := Lib.hid (fun (W : World) (hW : Mod (fun _ => False) wr W) => kept26_any gs[k].1 gs[k].2.1 qs[k].1.a qs[k].1.c qs[k].2 W (hLk.mod hW id) (hR.mod hW fun _ _ => id) (by omega))
          generalize gs[k].1 = g at *
          generalize gs[k].2.1 = gc at *
          generalize qs[k].1.a = ra at *
          generalize qs[k].1.c = rc at *
          obtain ⟨m, hm⟩ : ∃ m, m = qs[k].2.length := ⟨_, rfl⟩
          rw [← hm] at x0 y0 HKE
          clear hLk hyg hR hly hm
          go_wp2_with fail
          refine wp_region_ord (fun w' => w'.cell? ⟨gi, k, none⟩ = some (.slice (some ⟨g, 0, none⟩) m gc) ∧ w'.cell? ⟨b, o + k, none⟩ = some (.slice ra m rc)) [(0, 0), (0, 1), (0, 2), (1, 3), (0, 4), (0, 5), (0, 6), (1, 7), (3, 8), (0, 9)] (by kernel_rfl) (by kernel_rfl) ?_
          go_wp2_with (first
            | (refine ord_pure rfl rfl rfl (fun K hK => ?_); go_big_quiet_op; refine hK _ ?_; clear hK K)
                                                                | (refine ord_skip rfl rfl ?_; simp only [Act.put, List.setIfInBounds_toArray, List.set_cons_zero, List.set_cons_succ])
                                                                | (refine ord_held rfl rfl rfl (⟨x0, y0⟩) (fun K hK => ?_); apply Exists.intro; refine ⟨fun w' hs => ?_, hK _ ?_⟩; (revert hs; dsimp only; (try simp only [and_imp]); intros; go_simp; rfl); clear hK K)
                                                                | (refine ord_keep rfl rfl (⟨x0, y0⟩) (fun K hK => ?_))
                                                                | (refine ord_drop rfl rfl (fun K hK => ?_))
                                                                | (refine ord_nil ?_))
          refine (HKE.out _ (Mod.refl _ wr).drew).mono ?_
          clear HKE
          rintro e w13 ⟨rfl, hm13⟩
          have HS13 := Lib.hid ((hS.out.mod0 (Mod.refl _ wr).drew).mod0 hm13)
          clear hm13 hS
          go_wp2_with (first
            | (refine ord_pure rfl rfl rfl (fun K hK => ?_); go_big_quiet_op; refine hK _ ?_; clear hK K)
                                                                | (refine ord_skip rfl rfl ?_; simp only [Act.put, List.setIfInBounds_toArray, List.set_cons_zero, List.set_cons_succ])
                                                                | (refine ord_held rfl rfl rfl (trivial) (fun K hK => ?_); apply Exists.intro; refine ⟨fun w' hs => ?_, hK _ ?_⟩; (revert hs; dsimp only; (try simp only [and_imp]); intros; go_simp; rfl); clear hK K)
                                                                | (refine ord_keep rfl rfl (trivial) (fun K hK => ?_))
                                                                | (refine ord_drop rfl rfl (fun K hK => ?_))
                                                                | (refine ord_nil ?_))
          go_roundw
          case rel => exact ⟨k + 1, hlt, by go_num, HS13⟩
          case measure => simp [intOf]; omega
        · obtain rfl : n = k := by omega
          go_wp2_with fail
          refine (HSM.out wr a8 a6 c8 c6 (hS.out.getp (k := 4) (by simp)) (hS.out.getp (k := 2) (by simp))).mono ?_
          rintro e w13 ⟨rfl, hm13⟩
          have HS13 := Lib.hid (hS.out.mod0 hm13)
          clear hm13 hS
          have hmk : w13.heap[mk]? = some (.cells #[.int .u8 1] 5 (0, 0)) := HS13.out.getp (k := 1) (by simp)
          have x0 : w13.cell? ⟨gi, n, none⟩ = some (.slice (some ⟨mk, 0, none⟩) 1 1) := by
            have h1 := (HS13.out.getp (k := 0) (by simp) : Mine.Own w13 23 1 (some ⟨gi, 0, none⟩) (n + 1) c5 (gs.map lhd ++ [Value.slice (some ⟨mk, 0, none⟩) 1 1])).rd n (Value.slice (some ⟨mk, 0, none⟩) 1 1) (by rw [List.getElem?_append_right (by rw [List.length_map, ← hgl.out]; exact Nat.le_refl _), List.length_map, ← hgl.out, Nat.sub_self]; rfl)
            obtain ⟨b1, o1, e1, h2⟩ := h1
            cases e1
            rw [Nat.zero_add] at h2
            exact h2
          have hrm : Rd w13 (some ⟨mk, 0, none⟩) (bts [1]) := fun i u hu => by
            match i with
            | 0 =>
              have hu' : Value.int .u8 1 = u := by simpa [bts] using hu
              exact ⟨mk, 0, rfl, by rw [← hu']; exact cell_at (j := 0) hmk rfl⟩
            | i + 1 => simp [bts] at hu
          have HSK : Hid (Calls Tryz.prog 10 #[.slice (some ⟨mk, 0, none⟩) 1 1, .slice (some ⟨mk, 0, none⟩) 1 1] w13 fun e w' => e = .returned (.bool true) ∧ Mod (fun _ => False) w13 w') := Lib.hid (by
            refine (same26_any (some ⟨mk, 0, none⟩) (some ⟨mk, 0, none⟩) 1 1 [1] [1] w13 hrm hrm (by simp) (by simp)).mono ?_
            rintro e w' ⟨rfl, hm⟩
            exact ⟨ret_boolA (by simp), hm⟩)
          have HMD := Lib.hid HS13.out.md
          clear hmk hrm HS13 HSM
          go_wp2_with fail
          refine HSK.out.mono ?_
          rintro e w14 ⟨rfl, hm14⟩
          have HM14 := Lib.hid (HMD.out.step hm14 fun _ _ e => e)
          clear hm14
          go_wp2_with fail
          go_ret
          exact ⟨rfl, HM14.out⟩
end Go.Proofs.YtjoiaejbahdjkaaGreat
