/- LexBack answers true of any bytes and any text, of bulk at most 1048576, where the tables of utf8 lie. -/
import Derived.Test.YtgfekdebjafodaaDoorScanS
import Derived.Test.YtgfekdebjafodaaDoorWritten
import Derived.Laws.StructEq
import Derived.Lib.ConvBytes
import Derived.Deep.DeepCutAuto
namespace Go.Proofs.YtgfekdebjafodaaDoor
open Go Go.RowKit Go.Mine
set_option maxHeartbeats 4000000
set_option maxRecDepth 100000
set_option linter.unusedVariables false

theorem bytes_mod (w : World) (e : TypeId) (s : ByteArray) : Mod (fun _ => False) w (Lib.bytesWorld w e s) :=
  ⟨rfl, rfl, rfl, by rw [Lib.bytesWorld_size]; omega, fun k hk _ => Lib.bytesWorld_at_old w e s k hk⟩
theorem bytes_rd (w : World) (e : TypeId) (s : ByteArray) : Rd (Lib.bytesWorld w e s) (some ⟨w.heap.size, 0, none⟩) (bts s.data.toList) := by
  intro i u hi
  refine ⟨_, _, rfl, ?_⟩
  have hlt : i < s.size := by
    have := (List.getElem?_eq_some_iff.1 hi).1
    rw [bts_length, ← Lib.size_eq] at this
    exact this
  rw [Nat.zero_add, Lib.bytesWorld_cell w e _ i hlt]
  simp only [bts, List.getElem?_map] at hi
  rw [← hi]
  rw [Lib.size_eq] at hlt
  rw [List.getD_eq_getElem?_getD, List.getElem?_eq_getElem hlt]
  rfl
theorem conv_sb (w : World) (s : ByteArray) : (convert 9 22 (.string s)).run Tryd.prog w = .ok (.slice (some ⟨w.heap.size, 0, none⟩) s.size (grownCap w s.size 0 5)) (Lib.bytesWorld w 5 s) :=
  Lib.run_convert_string_bytes (P := Tryd.prog) w 9 22 5 s (u := .string) (by kernel_rfl) (by kernel_rfl) (by kernel_rfl)
/-- **the law** -/
theorem back_law (l : List UInt8) : ∃ (ts : List Tok) (p er : Nat), scanR (foundL ⟨l.toArray⟩) = (ts, p, er) ∧ (er ≠ 0 → ts = []) ∧ (∀ t ∈ ts, Good t ∧ t.text.size ≤ 65536) ∧
    ((outL ts).length ≤ 65536 → ∃ ms : List Tok, scanR (foundL ⟨(outL ts).toArray⟩) = (ms, 0, 0) ∧ ms.map (fun t => (t.kind, t.text)) = ts.map (fun t => (t.kind, t.text))) := by
  rcases hF : foundL ⟨l.toArray⟩ with ⟨ts, p, er⟩
  have hsz : (⟨l.toArray⟩ : ByteArray).size = l.length := rfl
  have hgood : ∀ t ∈ ts, Good t ∧ t.text.size ≤ 65536 := by
    by_cases hl : 65536 < l.length
    · unfold foundL at hF
      rw [if_pos (by rw [hsz]; exact hl)] at hF
      simp only [Prod.mk.injEq] at hF
      obtain ⟨rfl, _⟩ := hF
      intro t ht; cases ht
    · have h1 : foundL ⟨l.toArray⟩ = scanGo ⟨l.toArray⟩ (l.length + 1) 0 := by unfold foundL; rw [if_neg (by rw [hsz]; exact hl)]; rfl
      rw [h1] at hF
      intro t ht
      have := scanGo_good (s := ⟨l.toArray⟩) (l.length + 1) 0 (Nat.zero_le _) t (by rw [hF]; exact ht)
      rw [hsz] at this
      exact ⟨this.1, by omega⟩
  have hback : ∀ ts : List Tok, (∀ t ∈ ts, Good t ∧ t.text.size ≤ 65536) → (outL ts).length ≤ 65536 → ∃ ms : List Tok, scanR (foundL ⟨(outL ts).toArray⟩) = (ms, 0, 0) ∧ ms.map (fun t => (t.kind, t.text)) = ts.map (fun t => (t.kind, t.text)) := by
    intro ts hg hlen
    obtain ⟨r, hr, hm⟩ := scan_back (s := ⟨(outL ts).toArray⟩) ts 0 (fun t ht => (hg t ht).1) (by simp)
    refine ⟨r, ?_, hm⟩
    rw [foundL_of (by exact hlen) hr]
    rfl
  by_cases he : er = 0
  · subst he
    exact ⟨ts, 0, 0, by unfold scanR; rw [if_pos rfl], fun h => absurd rfl h, hgood, hback ts hgood⟩
  · exact ⟨[], p, er, by unfold scanR; rw [if_neg he], fun _ => rfl, fun t ht => (by cases ht), hback [] (fun t ht => by cases ht)⟩

theorem scan_ba (Q : ByteArray) (hn : Q.size ≤ 2 ^ 29) : ∀ (a : Option Addr) (c : Nat) (w : World), Rd w a (bts Q.data.toList) → Lib.Utf8Tabs 1 2 w →
    Calls Tryd.prog 14 #[.slice a Q.size c] w fun e w' => ScanSays e w w' 32 (scanR (foundL Q)) := by
  have := scan_says Q.data.toList Q.size (Lib.size_eq Q).symm hn
  rwa [ba_mk] at this
theorem tok_eq (a b c d : Int) (s t : ByteArray) (w : World) : (Op.equalIn 10000 32 (.agg #[.int .i64 a, .string s, .int .i64 b]) (.agg #[.int .i64 c, .string t, .int .i64 d])).run Tryd.prog w = .ok (a == c && (s.toList == t.toList && b == d)) w := by
  have u3 := Tryd.underlying3
  have hS : Tryd.prog.underlying 32 = some (.struct (Tryd.prog.fieldsOf 32)) := by kernel_rfl
  have hp : Tryd.prog.stoodInHeld 32 = false := by kernel_rfl
  rw [show (10000 : Nat) = 9999 + 1 from rfl, run_equalIn_agg w 9999 32 _ _ hS hp]
  simp only [Program.fieldsOf, Tryd.underlying32]
  go_simp
  by_cases h1 : a = c <;> by_cases h2 : s.toList = t.toList <;> by_cases h3 : b = d <;> simp [h1, h2, h3]
@[local go_sem] theorem tok_neq (a b : Int) (s : ByteArray) (w : World) : (binOp .neq 32 (.agg #[.int .i64 a, .string s, .int .i64 b]) (.agg #[.int .i64 a, .string s, .int .i64 b])).run Tryd.prog w = .ok (.bool false) w := by
  rw [run_neq_struct, tok_eq]
  simp
theorem grow_mod0 {w w1 w2 : World} {g : Nat} {a : Option Addr} (h : Mod (fun _ => False) w w1) (hg : Grow w1 (some ⟨g, 0, none⟩) w2 a) (hge : w.heap.size ≤ g) : Mod (fun _ => False) w w2 := h.step hg.mod (fun i hi hs => by simp at hs; omega)
theorem outL_snoc (ts : List Tok) {k : Nat} (hk : k < ts.length) : outL (ts.take (k + 1)) = outL (ts.take k) ++ (writtenL ts[k] ++ [32]) := by
  rw [List.take_succ_eq_append_getElem hk]
  unfold outL
  rw [List.flatMap_append]
  simp
theorem outL_step (ts : List Tok) {k : Nat} (hk : k < ts.length) : ((⟨(outL (ts.take k)).toArray⟩ : ByteArray) ++ ⟨(writtenL ts[k]).toArray⟩) ++ ⟨#[32]⟩ = ⟨(outL (ts.take (k + 1))).toArray⟩ := by
  apply ByteArray.ext
  apply Array.ext'
  rw [ByteArray.data_append, ByteArray.data_append, Array.toList_append, Array.toList_append, outL_snoc ts hk]
  simp
theorem scan_one (Q : ByteArray) (t : Tok) (hf : foundL Q = ([t], 0, 0)) (hn : Q.size ≤ 2 ^ 29) : ∀ (a : Option Addr) (c : Nat) (w : World), Rd w a (bts Q.data.toList) → Lib.Utf8Tabs 1 2 w →
    Calls Tryd.prog 14 #[.slice a Q.size c] w fun e w' => ∃ (g c' : Nat), e = .returned (.tuple #[.slice (some ⟨g, 0, none⟩) 1 c', .int .i64 0, .int .i64 0]) ∧
      (w'.cell? ⟨g, 0, none⟩ = some (.int .i64 t.kind) ∧ w'.cell? ⟨g, 1, none⟩ = some (.string t.text) ∧ w'.cell? ⟨g, 2, none⟩ = some (.int .i64 t.at_)) ∧ Mod (fun _ => False) w w' := by
  intro a c w hr hT
  have := scan_ba Q hn a c w hr hT
  rw [hf] at this
  refine this.mono ?_
  rintro e w' ⟨a', c', he, hO, hM, hF⟩
  have hO' : Mine.Own w' 32 3 a' [t].length c' (toksC [t]) := hO
  obtain ⟨g, rfl, x0, x1, x2⟩ := own_cell3 hO' (k := 0) (by simp)
  exact ⟨g, c', he, ⟨x0, x1, x2⟩, hM⟩
theorem outL_few {ts : List Tok} (h : ∀ t ∈ ts, t.text.size ≤ 65536) : (outL ts).length ≤ ts.length * 262147 := by
  induction ts with
  | nil => simp [outL]
  | cons t ts ih =>
    have h1 := writtenL_len t
    have h2 := h t (List.mem_cons_self ..)
    have h3 := ih (fun x hx => h x (List.mem_cons_of_mem _ hx))
    have e : outL (t :: ts) = writtenL t ++ [32] ++ outL ts := rfl
    rw [e]
    simp only [List.length_append, List.length_cons, List.length_nil]
    omega
theorem map_get {ts ms : List Tok} (h : ms.map (fun t => (t.kind, t.text)) = ts.map (fun t => (t.kind, t.text))) {k : Nat} (h1 : k < ms.length) (h2 : k < ts.length) : ms[k].kind = ts[k].kind ∧ ms[k].text = ts[k].text := by
  have := congrArg (fun l => l[k]?) h
  simp only [List.getElem?_map, List.getElem?_eq_getElem h1, List.getElem?_eq_getElem h2, Option.map_some, Option.some.injEq, Prod.mk.injEq] at this
  exact this
set_option maxHeartbeats 8000000 in
theorem lexBack_walk (a1 : Option Addr) (c1 : Nat) (l1 : List UInt8) (s : ByteArray) (w : World) (hr1 : Rd w a1 (bts l1)) (hT : Lib.Utf8Tabs 1 2 w) (hn1 : l1.length ≤ 1048576) (hs : s.size ≤ 1048576) :
    Calls Tryd.prog 5 #[.slice a1 l1.length c1, .string s] w fun e w' => e = .returned (.bool true) ∧ Mod (fun _ => False) w w' := by
  have HR1 := Lib.hid hr1; clear hr1
  have HT := Lib.hid hT; clear hT
  have HN := Lib.hid num_any
  have kc := conv_sb
  go_enter Tryd.func5, Tryd.ntmps5
  go_wp2_with fail
  refine (known_any w HT.out).mono ?_
  rintro e w1 ⟨rfl, hM1⟩
  have HM1 := Lib.hid hM1; clear hM1
  go_upto_if 25 with fail
  go_cut [5] (fun _ wx => Hid (Mod (fun _ => False) w wx))
  case first =>
    by_cases hlt : s.size < 16000
    · have HQ := Lib.hid (fun w => lexQuoted_any s w (by omega))
      have hfq := found_quoted s hlt
      obtain ⟨Q, hQ⟩ : ∃ Q : ByteArray, Q = ⟨(quotedL s.data.toList).toArray⟩ := ⟨_, rfl⟩
      have hQs : Q.size ≤ 2 ^ 20 := by
        rw [hQ]
        show (quotedL s.data.toList).length ≤ _
        have := q1s_len s.data.toList
        rw [← Lib.size_eq] at this
        unfold quotedL
        simp only [List.length_append, List.length_cons, List.length_nil]
        omega
      rw [← hQ] at HQ hfq
      clear hQ
      have HS := Lib.hid (scan_one Q _ hfq (by omega))
      simp only at HS
      clear hfq
      go_wp2_with fail
      refine (HQ.out _).mono ?_
      rintro e w2 ⟨rfl, hM2⟩
      have HM2 := Lib.hid (HM1.out.trans hM2); clear hM2
      go_wp2_with fail
      refine (HS.out _ _ _ (bytes_rd _ _ _) (tabs_mod HT.out (HM2.out.trans (bytes_mod _ _ _)))).mono ?_
      rintro e w3 ⟨g3, c3, rfl, ⟨x0, x1, x2⟩, hM3⟩
      have HM3 := Lib.hid ((HM2.out.trans (bytes_mod _ _ _)).trans hM3); clear hM3 HS HQ
      have y0 : w3.cell? ⟨g3, 0, none⟩ = some (.int .i64 3) := x0
      have y2 : w3.cell? ⟨g3, 2, none⟩ = some (.int .i64 0) := x2
      clear x0 x2
      have HW := Lib.hid (fun w => Word_any s w (by omega))
      by_cases hk : Word s = 0
      · rw [hk] at HW
        go_wp2_with (first
          | (go_at_call 12; refine (HN.out _ _).mono ?_; rintro e w' ⟨rfl, rfl⟩)
          | (go_at_call 19; refine (HW.out _).mono ?_; rintro e w4 ⟨rfl, hM4⟩; have HM4 := Lib.hid (HM3.out.trans hM4); clear hM4))
        go_meet
        case rel => exact HM4
      · have hfw := found_word s (by omega) hk
        have hkb : ((Word s : Int) != 0) = true := by simp; omega
        have HKB := Lib.hid hkb
        obtain ⟨kd, hkd⟩ : ∃ kd, kd = Word s := ⟨_, rfl⟩
        rw [← hkd] at hfw hkb HW
        clear hkd hk HKB
        have HS := Lib.hid (scan_one s _ hfw (by omega))
        simp only at HS
        clear hfw
        go_wp2_with (first
          | (go_at_call 12; refine (HN.out _ _).mono ?_; rintro e w' ⟨rfl, rfl⟩)
          | (go_at_call 19; refine (HW.out _).mono ?_; rintro e w4 ⟨rfl, hM4⟩; have HM4 := Lib.hid (HM3.out.trans hM4); clear hM4))
        refine (HS.out _ _ _ (bytes_rd _ _ _) (tabs_mod HT.out (HM4.out.trans (bytes_mod _ _ _)))).mono ?_
        rintro e w5 ⟨g5, c5, rfl, ⟨z0, z1, z2⟩, hM5⟩
        have HM5 := Lib.hid ((HM4.out.trans (bytes_mod _ _ _)).trans hM5); clear hM5 HS HW y0 x1 y2
        have z2' : w5.cell? ⟨g5, 2, none⟩ = some (.int .i64 0) := z2
        clear z2
        go_wp2_with (first
          | (go_at_call 12; refine (HN.out _ _).mono ?_; rintro e w' ⟨rfl, rfl⟩))
        go_meet
        case rel => exact HM5
    · go_wp2_with fail
      go_meet
      case rel => exact HM1
  case rest =>
    obtain ⟨v1, hv1⟩ : ∃ v1, v1 = wc := ⟨_, rfl⟩
    rw [← hv1] at hcut ⊢
    have HM1 := hcut
    clear hcut hv1
    obtain ⟨ts, p, er, hsc, hE, hG, hB⟩ := back_law l1
    have hfew := scan_few l1 l1.length rfl
    rw [hsc] at hfew
    simp only at hfew
    have HS := Lib.hid (scan_says l1 l1.length rfl (by omega))
    rw [hsc] at HS
    unfold ScanSays at HS
    simp only at HS
    have HE := Lib.hid hE; have HG := Lib.hid hG; have HB := Lib.hid hB
    clear hE hG hB hsc
    go_wp2_with (at_builtin; refine wpL_append rfl (.tmp 79) (.tmp 80) 22 22 rfl ti24 rfl (Mine.Own.made _ 5 1 #[] 0 0 (by omega) (by unfold maxLen; omega) rfl) rfl (Src.ofRd ti24.ht l1.length c1 (HR1.out.mod (HM1.out.alloc _) (fun _ _ => id)) (by simp) (bts_one l1)) (by omega) (by unfold maxLen; omega) ?_; intro a3 c3 v2 hO2 hG2 _
                 simp only [Nat.zero_add, List.take_nil, List.nil_append, Nat.zero_mul] at hO2
                 simp only [Nat.zero_add]
                 have HO2 := Lib.hid hO2; have HG2 := Lib.hid hG2; clear hO2 hG2)
    have hM12 := grow_mod0 ((Mod.refl (fun _ => False) v1).alloc _) HG2.out (Nat.le_refl _)
    refine (HS.out _ _ _ HO2.out.rd (tabs_mod HT.out (HM1.out.trans hM12))).mono ?_
    rintro e v3 ⟨a5, c5, rfl, hO3, hM3, hF3⟩
    have HM3 := Lib.hid ((HM1.out.trans hM12).trans hM3)
    have HL := Lib.hid hO3
    clear hM12 hM3 hO3 hF3 HO2 HG2 HM1 HS
    by_cases he : er = 0
    · subst he
      clear HE
      go_wp2_with (first
        | (go_at_call 12; refine (HN.out _ _).mono ?_; rintro e w' ⟨rfl, rfl⟩))
      have hO1 := fun k (hk : k < ts.length) => outL_step ts hk
      have hlast : (⟨(outL (ts.take ts.length)).toArray⟩ : ByteArray) = ⟨(outL ts).toArray⟩ := by rw [List.take_length]
      have hsz : ∀ k, (⟨(outL (ts.take k)).toArray⟩ : ByteArray).size ≤ 2 ^ 39 := fun k => by
        show (outL (ts.take k)).length ≤ _
        have := outL_few (ts := ts.take k) (fun x hx => (HG.out x (List.mem_of_mem_take hx)).2)
        have h2 : (ts.take k).length ≤ ts.length := by rw [List.length_take]; omega
        have h3 : (ts.take k).length * 262147 ≤ ts.length * 262147 := Nat.mul_le_mul_right _ h2
        omega
      have h0 : (⟨(outL (ts.take 0)).toArray⟩ : ByteArray) = ⟨#[]⟩ := rfl
      obtain ⟨O, hO⟩ : ∃ O : Nat → ByteArray, O = fun k => ⟨(outL (ts.take k)).toArray⟩ := ⟨_, rfl⟩
      have HO1 : Hid (∀ k (hk : k < ts.length), (O k ++ ⟨(writtenL ts[k]).toArray⟩) ++ ⟨#[32]⟩ = O (k + 1)) := by rw [hO]; exact hO1
      have HLast : Hid (O ts.length = ⟨(outL ts).toArray⟩) := by rw [hO]; exact hlast
      have HSz : Hid (∀ k, (O k).size ≤ 2 ^ 39) := by rw [hO]; exact hsz
      have H0 : Hid (O 0 = ⟨#[]⟩) := by rw [hO]; exact h0
      clear hO1 hlast hsz h0 hO
      go_loopw [15, 16] (fun ov iv wr => ∃ k : Nat, ov = .string (O k) ∧ iv = .int .i64 k ∧ k ≤ ts.length ∧ Hid (Mod (fun _ => False) v3 wr)) (fun _ iv _ => ts.length - (intOf iv).toNat)
      case atStart => exact ⟨0, by rw [H0.out], rfl, Nat.zero_le _, Lib.hid (Mod.refl _ v3)⟩
      case round =>
        obtain ⟨k, rfl, rfl, hk, hM⟩ := hrel
        by_cases hlt : k < ts.length
        · obtain ⟨gL, rfl, x0, x1, x2⟩ := own_cell3 (HL.out.mod hM.out (fun _ _ => id)) hlt
          have HW := Lib.hid (fun w => written_any ts[k] (HG.out _ (List.getElem_mem hlt)).1 (HG.out _ (List.getElem_mem hlt)).2 w)
          have HOk := Lib.hid (HO1.out k hlt)
          have hs1 := HSz.out k
          have hs2 := HSz.out (k + 1)
          unfold encT at HW
          generalize ts[k] = tk at *
          obtain ⟨tkk, tkt, tka⟩ := tk
          simp only at *
          obtain ⟨Wr, hWr⟩ : ∃ Wr : ByteArray, Wr = ⟨(writtenL ⟨tkk, tkt, tka⟩).toArray⟩ := ⟨_, rfl⟩
          rw [← hWr] at HW HOk
          clear hWr
          have hb1 : (O k).size + Wr.size + 1 ≤ 2 ^ 40 := by
            have h := congrArg ByteArray.size HOk.out
            rw [ByteArray.size_append, ByteArray.size_append, show (ByteArray.size ⟨#[32]⟩) = 1 from rfl] at h
            omega
          clear hs1 hs2
          go_wp2_with fail
          refine (HW.out _).mono ?_
          rintro e w5 ⟨rfl, hM5⟩
          have HM5 := Lib.hid (hM.out.trans hM5); clear hM5
          go_wp2_with fail
          go_roundw
          case rel => exact ⟨k + 1, by rw [← HOk.out], by go_num, hlt, HM5⟩
          case measure => simp [intOf]; omega
        · obtain rfl : k = ts.length := by omega
          have HM4 := Lib.hid (HM3.out.trans hM.out)
          have HL4 := Lib.hid (HL.out.mod hM.out (fun _ _ => id))
          have hs1 := HSz.out ts.length
          clear HL hM HM3 HO1 H0 HSz
          obtain ⟨v4, hv4⟩ : ∃ v4, v4 = wr := ⟨_, rfl⟩
          rw [← hv4] at HM4 HL4 ⊢
          clear hv4 wr
          obtain ⟨Q, hQ⟩ : ∃ Q, Q = O ts.length := ⟨_, rfl⟩
          have HQL : Hid (Q = ⟨(outL ts).toArray⟩) := by rw [hQ]; exact HLast
          rw [← hQ] at hs1 ⊢
          clear hQ HLast
          by_cases hbig : 65536 < Q.size
          · go_wp2_with fail
            go_ret
            exact ⟨rfl, HM4.out⟩
          · obtain ⟨ms, hms, hmap⟩ := HB.out (by
              have : Q.size = (outL ts).length := by rw [HQL.out]; rfl
              omega)
            rw [← HQL.out] at hms
            have HS := Lib.hid (scan_ba Q (by omega))
            rw [hms] at HS
            unfold ScanSays at HS
            simp only at HS
            have hml : ms.length = ts.length := by simpa using congrArg List.length hmap
            rw [hml] at HS
            have HML := Lib.hid hml
            have HMap := Lib.hid hmap
            clear hms hml hmap
            go_wp2_with fail
            refine (HS.out _ _ _ (bytes_rd _ _ _) (tabs_mod HT.out (HM4.out.trans (bytes_mod _ _ _)))).mono ?_
            rintro e v5 ⟨a6, c6, rfl, hO6, hM6, _⟩
            have hM46 := (bytes_mod v4 5 Q).trans hM6
            have HM5 := Lib.hid (HM4.out.trans hM46)
            have HL5 := Lib.hid (HL4.out.mod hM46 (fun _ _ => id))
            have hO6' : Mine.Own v5 32 3 a6 ms.length c6 (toksC ms) := by rw [HML.out]; exact hO6
            have HL6 := Lib.hid hO6'
            clear hM46 hM6 hO6 hO6' HM4 HL4 HS
            go_wp2_with (first
              | (go_at_call 12; refine (HN.out _ _).mono ?_; rintro e w' ⟨rfl, rfl⟩))
            go_loopw [20] (fun iv wr => ∃ k : Nat, iv = .int .i64 k ∧ k ≤ ts.length ∧ Hid (Mod (fun _ => False) v5 wr)) (fun iv _ => ts.length - (intOf iv).toNat)
            case atStart => exact ⟨0, rfl, Nat.zero_le _, Lib.hid (Mod.refl _ v5)⟩
            case round =>
              obtain ⟨k, rfl, hk, hM⟩ := hrel
              by_cases hlt : k < ts.length
              · obtain ⟨gL, rfl, x0, x1, x2⟩ := own_cell3 (HL5.out.mod hM.out (fun _ _ => id)) hlt
                have hlt2 : k < ms.length := by rw [HML.out]; exact hlt
                obtain ⟨gM, rfl, y0, y1, y2⟩ := own_cell3 (HL6.out.mod hM.out (fun _ _ => id)) hlt2
                obtain ⟨e1, e2⟩ := map_get HMap.out hlt2 hlt
                rw [e1] at y0
                rw [e2] at y1
                clear e1 e2 y2 x2 hlt2
                generalize ts[k].kind = tk at *
                generalize ts[k].text = tt at *
                go_wp2_with fail
                refine wp_region_ord (fun w' => (w'.cell? ⟨gM, k * 3, none⟩ = some (.int .i64 tk) ∧ w'.cell? ⟨gL, k * 3, none⟩ = some (.int .i64 tk)) ∧ (w'.cell? ⟨gM, k * 3 + 1, none⟩ = some (.string tt) ∧ w'.cell? ⟨gL, k * 3 + 1, none⟩ = some (.string tt))) [(0, 0), (0, 1), (0, 2), (0, 3), (1, 4), (0, 5), (0, 6), (0, 7), (0, 8), (1, 9), (0, 10), (0, 11), (0, 12), (0, 13), (0, 14), (0, 15), (1, 16), (0, 17), (0, 18), (0, 19), (0, 20), (1, 21), (0, 22), (0, 23)] (by kernel_rfl) (by kernel_rfl) ?_
                go_wp2_with (first
                  | (refine ord_pure rfl rfl rfl (fun K hK => ?_); go_big_quiet_op; refine hK _ ?_; clear hK K)
                        | (refine ord_skip rfl rfl ?_; simp only [Act.put, List.setIfInBounds_toArray, List.set_cons_zero, List.set_cons_succ])
                        | (refine ord_held rfl rfl rfl (⟨⟨by simpa using y0, by simpa using x0⟩, ⟨by simpa using y1, by simpa using x1⟩⟩) (fun K hK => ?_); apply Exists.intro; refine ⟨fun w' hs => ?_, hK _ ?_⟩; (revert hs; dsimp only; (try simp only [and_imp]); intros; go_simp; rfl); clear hK K)
                        | (refine ord_keep rfl rfl (⟨⟨by simpa using y0, by simpa using x0⟩, ⟨by simpa using y1, by simpa using x1⟩⟩) (fun K hK => ?_))
                        | (refine ord_drop rfl rfl (fun K hK => ?_))
                        | (refine ord_nil ?_))
                go_roundw
                case rel => exact ⟨k + 1, by go_num, hlt, Lib.hid hM.out.drew⟩
                case measure => simp [intOf]; omega
              · obtain rfl : k = ts.length := by omega
                go_wp2_with fail
                go_ret
                exact ⟨rfl, HM5.out.trans hM.out⟩
    · have hxb : ((er : Int) != 0) = true := by simp; omega
      obtain rfl := HE.out he
      go_wp2_with (first
        | (go_at_call 12; refine (HN.out _ _).mono ?_; rintro e w' ⟨rfl, rfl⟩))
      go_ret
      exact ⟨rfl, HM3.out⟩
end Go.Proofs.YtgfekdebjafodaaDoor
