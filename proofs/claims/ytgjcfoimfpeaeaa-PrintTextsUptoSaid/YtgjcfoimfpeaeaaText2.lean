/-
  print.Program, Rule, Atom.
-/
import Derived.Test.YtgjcfoimfpeaeaaText
namespace Go.Proofs.Ytgjcfoimfpeaeaa
open Go Go.RowKit Go.Mine
set_option linter.unusedVariables false
set_option maxHeartbeats 4000000
set_option maxRecDepth 100000

theorem pmT_take (rs : List Rm) {k : Nat} (hk : k < rs.length) : pmT (rs.take (k + 1)) = pmT (rs.take k) ++ rmT rs[k] ++ [10] := by
  rw [List.take_succ_eq_append_getElem hk]
  unfold pmT
  rw [List.flatMap_append, List.append_assoc]
  simp
theorem pmT_le (rs : List Rm) (k : Nat) : (pmT (rs.take k)).length ≤ (pmT rs).length := by
  have e : pmT rs = pmT (rs.take k) ++ pmT (rs.drop k) := by
    unfold pmT
    rw [← List.flatMap_append, List.take_append_drop]
  rw [e, List.length_append]
  omega
theorem progC_any (rs : List Rm) (ok : ∀ r ∈ rs, OkRm r) (hn : rs.length ≤ 1024) (v0 : Value) (w0 w1 w : World) (g p : Nat) (hb : w.heap[g]? = some (.cells #[v0] 24 (0, 0))) (hr : RsAt w v0 rs) (hm : Mod (fun _ => False) w w0) (h : Wr w0 w1 p none []) :
    Calls Try.prog 20 #[.pointer (some ⟨p, 0, none⟩), .pointer (some ⟨g, 0, none⟩)] w1 (WrPost w0 w1 p none (pmT rs)) := by
  have hb1 := (hm.trans h.mod).at hb id
  have c0 : w1.cell? ⟨g, 0, none⟩ = some v0 := cell_at hb1 rfl
  obtain ⟨ad, c, xs, rfl, hx, hrx, hxt⟩ := hr
  have HR := Lib.hid hrx; have HX := Lib.hid hx; have HXT := Lib.hid hxt; have HOK := Lib.hid ok; have H := Lib.hid h; have HM := Lib.hid hm
  clear hb1 hb hrx hx hxt ok h hm
  go_enter Try.func20, Try.ntmps20
  go_wp2_with fail
  go_loopw [8] (fun iv wr => ∃ (k : Nat) (a' : Option Addr), iv = .int .i64 k ∧ k ≤ rs.length ∧ Hid (Wr w0 wr p a' (pmT (rs.take k))) ∧ Hid (BuGo w1 p none wr a')) (fun iv _ => rs.length - (intOf iv).toNat)
  case atStart => exact ⟨0, none, rfl, Nat.zero_le _, H, Lib.hid (BuGo.refl _ _ _)⟩
  case round =>
    obtain ⟨k, a', rfl, hk, hW, hG⟩ := hrel
    clear c0
    by_cases hlt : k < rs.length
    · obtain ⟨sk, bk, hx, hmem⟩ := xs_get3 HX.out hlt
      obtain ⟨bb, o, rfl, x0, x1, x2⟩ := rd_cellR (HR.out.mod (HM.out.trans hW.out.mod) (fun _ _ => id)) hx
      have HRU := Lib.hid (fun (v : World) (a1 : Option Addr) (l : List UInt8) (hw : Wr w0 v p a1 l) => rule_any rs[k] (HOK.out _ (List.getElem_mem hlt)) sk bk w0 v p a1 l ((HXT.out _ hmem).1.mod0 HM.out) ((HXT.out _ hmem).2.mod0 HM.out) hw)
      obtain ⟨⟨sa, sc, hsk, _⟩, ⟨ba, bc, _, hbk, _⟩⟩ := HXT.out _ hmem
      simp only at hsk hbk
      subst hsk hbk
      have HST := Lib.hid (pmT_take rs hlt)
      have HLE2 := Lib.hid (pmT_le rs (k + 1))
      unfold rmV at HRU
      clear hx hmem
      try simp only at x1 x2 HRU
      generalize rs[k] = r at *
      obtain ⟨⟨lp, lts⟩, lb⟩ := r
      simp only at *
      have HRV := Lib.hid (HRU.out _ a' _ (hW.out.mod0 ((Mod.refl (fun _ => False) wr).alloc (.cells #[.string lp, .slice sa lts.length sc, .slice ba lb.length bc] 38))))
      clear HRU
      go_wp2_with fail
      refine HRV.out.mono ?_
      rintro e v1 (⟨rfl, a1, hW1, hG1⟩ | ⟨hov, rfl, hM2⟩)
      · have HP := Lib.hid (put_one ⟨#[10]⟩ w0 v1 p a1 _ hW1 (by decide) v1.heap.size rfl _ rfl)
        have HG1 := Lib.hid hG1; clear hW1 hG1
        go_wp2_with fail
        refine HP.out.mono ?_
        rintro e v2 (⟨rfl, a2, hW2, hG2⟩ | ⟨hov, rfl, hM2⟩)
        · have HW2 := Lib.hid hW2; have HG2 := Lib.hid hG2; clear hW2 hG2
          go_wp2_with fail
          go_roundw
          case rel => exact ⟨k + 1, a2, by go_num, hlt, by rw [HST.out]; exact HW2.out, Lib.hid (hG.out.trans (BuGo.pre0 ((Mod.refl _ wr).alloc _) (HG1.out.trans HG2.out)))⟩
          case measure => simp [intOf]; omega
        · skip
          have HOV := Lib.hid hov; have HM2 := Lib.hid hM2; clear hov hM2
          go_wp2_with fail
          exact ⟨rfl, .inr ⟨by have h1 := HOV.out; have h2 := HLE2.out; rw [HST.out] at h2; exact Nat.lt_of_lt_of_le h1 h2, rfl, HM2.out⟩⟩
      · skip
        have HOV := Lib.hid hov; have HM2 := Lib.hid hM2; clear hov hM2
        go_wp2_with fail
        exact ⟨rfl, .inr ⟨by have h1 := HOV.out; have h2 := HLE2.out; rw [HST.out, List.length_append] at h2; omega, rfl, HM2.out⟩⟩
    · obtain rfl : k = rs.length := by omega
      have hW2 := hW.out
      rw [List.take_length] at hW2
      have HW2 := Lib.hid hW2; clear hW2
      go_wp2_with fail
      go_end0
      exact .inl ⟨rfl, a', HW2.out, hG.out⟩

/-- what Program, Rule, Atom answer -/
def outP (e : Int) (l : List UInt8) : List UInt8 × Int := if e ≠ 0 then ([], e) else fitT l
def SayP (x : List UInt8 × Int) (w : World) (e : Ending) (w' : World) : Prop := e = .returned (.tuple #[.string ⟨x.1.toArray⟩, .int .i64 x.2]) ∧ Mod (fun _ => False) w w'
theorem Atom_any (a : Am) (s : Value) (w : World) (hs : SmallAm a) (ht : TsAt w s a.terms) :
    Calls Try.prog 13 #[.agg #[.string a.pred, s]] w (SayP (outP (mayAm false a) (amT a)) w) := by
  have hm0 : Mod (fun _ => False) w (w.alloc (.cells #[.string a.pred, s] 35)) := (Mod.refl _ w).alloc _
  have HA := Lib.hid (MayAtom_any a s _ hs (ht.mod0 hm0))
  have hmf : ∀ (fn : Fn) (first cap : Array Value) (w : World), (Instr.makeFunc fn first cap).run Try.prog w = .ok (.func fn first cap) w := fun _ _ _ _ => rfl
  have HT := Lib.hid ht
  have HN := Lib.hid (heap_alloc_new w (.cells #[.string a.pred, s] 35))
  have HM0 := Lib.hid hm0
  have HOK := Lib.hid (fun h => okAm (head := false) (a := a) h)
  obtain ⟨ad, c, rfl, _⟩ := ht
  clear hm0
  unfold SayP outP
  generalize mayAm false a = x at *
  by_cases hx : x = 0
  · subst hx
    rw [if_neg (by simp)]
    have HTX := Lib.hid (fun (w1 : World) (m : Mod (fun _ => False) (w.alloc (.cells #[.string a.pred, .slice ad a.terms.length c] 35)) w1) => text_any 30 (.pointer (some ⟨w.heap.size, 0, none⟩)) (amT a) w1 (fun _ _ => by go_simp) (fun w0 w2 p h1 h2 => atomC_any a (HOK.out rfl) _ w0 w2 w1 w.heap.size p (m.at HN.out id) (HT.out.mod0 (HM0.out.trans m)) h1 h2))
    go_enter Try.func13, Try.ntmps13
    go_wp2_with fail
    refine HA.out.mono ?_
    rintro e w1 ⟨rfl, hM1⟩
    have HTX2 := Lib.hid (HTX.out w1 hM1)
    have HM1 := Lib.hid hM1; clear hM1 HTX
    go_wp2_with fail
    refine HTX2.out.mono ?_
    rintro e w2 ⟨rfl, hM2⟩
    have HM2 := Lib.hid hM2; clear hM2 HTX2
    go_wp2_with fail
    go_ret2
    exact ⟨rfl, HM0.out.trans (HM1.out.trans HM2.out)⟩
  · rw [if_pos hx]
    have hxb : (x != 0) = true := by simpa using hx
    clear hx
    go_enter Try.func13, Try.ntmps13
    go_wp2_with fail
    refine HA.out.mono ?_
    rintro e w1 ⟨rfl, hM1⟩
    have HM1 := Lib.hid hM1; clear hM1
    go_wp2_with fail
    go_ret2
    exact ⟨rfl, HM0.out.trans HM1.out⟩
theorem Rule_any (r : Rm) (s b : Value) (w : World) (hs : SmallRm r) (ht : TsAt w s r.head.terms) (hl : LsAt w b r.body) :
    Calls Try.prog 10 #[rmV r s b] w (SayP (outP (mayRm r) (rmT r)) w) := by
  unfold rmV
  have hm0 : Mod (fun _ => False) w (w.alloc (.cells #[.string r.head.pred, s, b] 38)) := (Mod.refl _ w).alloc _
  have HA := Lib.hid (MayRule_any r s b _ hs (ht.mod0 hm0) (hl.mod0 hm0))
  unfold rmV at HA
  have hmf : ∀ (fn : Fn) (first cap : Array Value) (w : World), (Instr.makeFunc fn first cap).run Try.prog w = .ok (.func fn first cap) w := fun _ _ _ _ => rfl
  have HT := Lib.hid ht; have HL := Lib.hid hl
  have HN := Lib.hid (heap_alloc_new w (.cells #[.string r.head.pred, s, b] 38))
  have HM0 := Lib.hid hm0
  have HOK := Lib.hid (fun h => okRm (r := r) h)
  obtain ⟨ad, c, rfl, _⟩ := ht
  obtain ⟨bd, bc, _, rfl, _⟩ := hl
  clear hm0
  unfold SayP outP
  generalize mayRm r = x at *
  by_cases hx : x = 0
  · subst hx
    rw [if_neg (by simp)]
    have HTX := Lib.hid (fun (w1 : World) (m : Mod (fun _ => False) (w.alloc (.cells #[.string r.head.pred, .slice ad r.head.terms.length c, .slice bd r.body.length bc] 38)) w1) => text_any 27 (.pointer (some ⟨w.heap.size, 0, none⟩)) (rmT r) w1 (fun _ _ => by go_simp) (fun w0 w2 p h1 h2 => ruleC_any r (HOK.out rfl) _ _ w0 w2 w1 w.heap.size p (m.at HN.out id) (HT.out.mod0 (HM0.out.trans m)) (HL.out.mod0 (HM0.out.trans m)) h1 h2))
    go_enter Try.func10, Try.ntmps10
    go_wp2_with fail
    refine HA.out.mono ?_
    rintro e w1 ⟨rfl, hM1⟩
    have HTX2 := Lib.hid (HTX.out w1 hM1)
    have HM1 := Lib.hid hM1; clear hM1 HTX
    go_wp2_with fail
    refine HTX2.out.mono ?_
    rintro e w2 ⟨rfl, hM2⟩
    have HM2 := Lib.hid hM2; clear hM2 HTX2
    go_wp2_with fail
    go_ret2
    exact ⟨rfl, HM0.out.trans (HM1.out.trans HM2.out)⟩
  · rw [if_pos hx]
    have hxb : (x != 0) = true := by simpa using hx
    clear hx
    go_enter Try.func10, Try.ntmps10
    go_wp2_with fail
    refine HA.out.mono ?_
    rintro e w1 ⟨rfl, hM1⟩
    have HM1 := Lib.hid hM1; clear hM1
    go_wp2_with fail
    go_ret2
    exact ⟨rfl, HM0.out.trans HM1.out⟩
theorem Program_any (rs : List Rm) (v0 : Value) (w : World) (hs : SmallPm rs) (hr : RsAt w v0 rs) :
    Calls Try.prog 5 #[.agg #[v0]] w (SayP (outP (mayPm rs) (pmT rs)) w) := by
  have hm0 : Mod (fun _ => False) w (w.alloc (.cells #[v0] 24)) := (Mod.refl _ w).alloc _
  have HA := Lib.hid (May_any rs v0 _ hs (hr.mod0 hm0))
  have hmf : ∀ (fn : Fn) (first cap : Array Value) (w : World), (Instr.makeFunc fn first cap).run Try.prog w = .ok (.func fn first cap) w := fun _ _ _ _ => rfl
  have HR := Lib.hid hr
  have HN := Lib.hid (heap_alloc_new w (.cells #[v0] 24))
  have HM0 := Lib.hid hm0
  have HOK := Lib.hid (fun h => okPm (rs := rs) h)
  obtain ⟨ad, c, _, rfl, _⟩ := hr
  clear hm0
  unfold SayP outP
  generalize mayPm rs = x at *
  by_cases hx : x = 0
  · subst hx
    rw [if_neg (by simp)]
    have HTX := Lib.hid (fun (w1 : World) (m : Mod (fun _ => False) (w.alloc (.cells #[.slice ad rs.length c] 24)) w1) => text_any 20 (.pointer (some ⟨w.heap.size, 0, none⟩)) (pmT rs) w1 (fun _ _ => by go_simp) (fun w0 w2 p h1 h2 => progC_any rs (HOK.out rfl).2 (HOK.out rfl).1 _ w0 w2 w1 w.heap.size p (m.at HN.out id) (HR.out.mod0 (HM0.out.trans m)) h1 h2))
    go_enter Try.func5, Try.ntmps5
    go_wp2_with fail
    refine HA.out.mono ?_
    rintro e w1 ⟨rfl, hM1⟩
    have HTX2 := Lib.hid (HTX.out w1 hM1)
    have HM1 := Lib.hid hM1; clear hM1 HTX
    go_wp2_with fail
    refine HTX2.out.mono ?_
    rintro e w2 ⟨rfl, hM2⟩
    have HM2 := Lib.hid hM2; clear hM2 HTX2
    go_wp2_with fail
    go_ret2
    exact ⟨rfl, HM0.out.trans (HM1.out.trans HM2.out)⟩
  · rw [if_pos hx]
    have hxb : (x != 0) = true := by simpa using hx
    clear hx
    go_enter Try.func5, Try.ntmps5
    go_wp2_with fail
    refine HA.out.mono ?_
    rintro e w1 ⟨rfl, hM1⟩
    have HM1 := Lib.hid hM1; clear hM1
    go_wp2_with fail
    go_ret2
    exact ⟨rfl, HM0.out.trans HM1.out⟩
end Go.Proofs.Ytgjcfoimfpeaeaa
