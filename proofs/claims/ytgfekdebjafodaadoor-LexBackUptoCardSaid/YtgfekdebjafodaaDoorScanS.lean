/-
  Scan in a form for callers; num, known. (Not to be imported beside LexLaw, LexScans: the same names.)
-/
import Derived.Test.YtgfekdebjafodaaDoorScan
import Derived.Test.YtgfekdebjafodaaDoorWordW
import Derived.Test.YtgfekdebjafodaaDoorQuoted
import Derived.Lib.SlBytesConst
namespace Go.Proofs.YtgfekdebjafodaaDoor
open Go Go.RowKit Go.Mine
set_option maxHeartbeats 4000000
set_option maxRecDepth 100000
set_option linter.unusedVariables false

theorem num_any (n : Int) (w : World) : Calls Tryd.prog 12 #[.int .i64 n] w fun e w' => e = .returned (.int .i64 n) ∧ w = w' := by
  go_enter Tryd.func12, Tryd.ntmps12
  go_wp2
  go_ret
  exact ⟨rfl, rfl⟩
theorem toksC_get {ts : List Tok} {k : Nat} {t : Tok} (h : ts[k]? = some t) : (toksC ts)[k * 3]? = some (.int .i64 t.kind) ∧ (toksC ts)[k * 3 + 1]? = some (.string t.text) ∧ (toksC ts)[k * 3 + 2]? = some (.int .i64 t.at_) := by
  induction ts generalizing k with
  | nil => simp at h
  | cons x ts ih =>
    have e : toksC (x :: ts) = tokC x ++ toksC ts := rfl
    have hl : (tokC x).length = 3 := rfl
    cases k with
    | zero => simp at h; subst h; rw [e]; exact ⟨rfl, rfl, rfl⟩
    | succ k =>
      have h' : ts[k]? = some t := by simpa using h
      obtain ⟨h1, h2, h3⟩ := ih h'
      rw [e]
      refine ⟨?_, ?_, ?_⟩
      · rw [List.getElem?_append_right (by rw [hl]; omega), hl, show (k + 1) * 3 - 3 = k * 3 by omega]; exact h1
      · rw [List.getElem?_append_right (by rw [hl]; omega), hl, show (k + 1) * 3 + 1 - 3 = k * 3 + 1 by omega]; exact h2
      · rw [List.getElem?_append_right (by rw [hl]; omega), hl, show (k + 1) * 3 + 2 - 3 = k * 3 + 2 by omega]; exact h3
theorem own_cell3 {w : World} {e : TypeId} {a : Option Addr} {c : Nat} {ts : List Tok} (h : Mine.Own w e 3 a ts.length c (toksC ts)) {k : Nat} (hk : k < ts.length) :
    ∃ b, a = some ⟨b, 0, none⟩ ∧ w.cell? ⟨b, k * 3, none⟩ = some (.int .i64 ts[k].kind) ∧ w.cell? ⟨b, k * 3 + 1, none⟩ = some (.string ts[k].text) ∧ w.cell? ⟨b, k * 3 + 2, none⟩ = some (.int .i64 ts[k].at_) := by
  obtain ⟨b, rfl⟩ := h.atHead (by omega)
  obtain ⟨h1, h2, h3⟩ := toksC_get (List.getElem?_eq_getElem hk)
  obtain ⟨b1, o1, e1, q1⟩ := h.rd _ _ h1
  cases e1
  obtain ⟨b1, o1, e1, q2⟩ := h.rd _ _ h2
  cases e1
  obtain ⟨b1, o1, e1, q3⟩ := h.rd _ _ h3
  cases e1
  rw [Nat.zero_add] at q1 q2 q3
  exact ⟨_, rfl, q1, q2, q3⟩
theorem scanR_len (r : List Tok × Nat × Nat) : (scanR r).1.length ≤ r.1.length := by unfold scanR; split <;> simp
/-- what Scan and its reference answer: the tokens, the place, the error -/
def ScanSays (e : Ending) (w w' : World) (T : TypeId) (R : List Tok × Nat × Nat) : Prop :=
  ∃ (a' : Option Addr) (c' : Nat), e = .returned (.tuple #[.slice a' R.1.length c', .int .i64 R.2.1, .int .i64 R.2.2]) ∧ Mine.Own w' T 3 a' R.1.length c' (toksC R.1) ∧ Mod (fun _ => False) w w' ∧ (∀ b, blk a' = some b → w.heap.size ≤ b)
theorem scan_says (l : List UInt8) (n : Nat) (hl : l.length = n) (hn : n ≤ 2 ^ 29) : ∀ (a : Option Addr) (c : Nat) (w : World), Rd w a (bts l) → Lib.Utf8Tabs 1 2 w →
    Calls Tryd.prog 14 #[.slice a n c] w fun e w' => ScanSays e w w' 32 (scanR (foundL ⟨l.toArray⟩)) := by
  subst hl
  exact fun a c w h hT => scan_any a c l w h hT (by omega)
theorem scan_few (l : List UInt8) (n : Nat) (hl : l.length = n) : (scanR (foundL ⟨l.toArray⟩)).1.length ≤ n + 1 := by
  subst hl
  exact Nat.le_trans (scanR_len _) (foundL_len ⟨l.toArray⟩)


def kn1 : List UInt8 := [112, 40, 88, 44, 32, 97, 49, 41, 32, 58, 45, 32, 33, 113, 46]
def kn2 : List UInt8 := [34, 97, 92, 113, 34]
def kn1T : List Tok := [⟨1, ⟨#[112]⟩, 0⟩, ⟨4, ⟨#[]⟩, 1⟩, ⟨2, ⟨#[88]⟩, 2⟩, ⟨6, ⟨#[]⟩, 3⟩, ⟨1, ⟨#[97, 49]⟩, 5⟩, ⟨5, ⟨#[]⟩, 7⟩, ⟨8, ⟨#[]⟩, 9⟩, ⟨9, ⟨#[]⟩, 12⟩, ⟨1, ⟨#[113]⟩, 13⟩, ⟨7, ⟨#[]⟩, 14⟩]
theorem kn1_scan : scanR (foundL ⟨kn1.toArray⟩) = (kn1T, 0, 0) := by kernel_rfl
theorem kn2_scan : scanR (foundL ⟨kn2.toArray⟩) = ([], 2, 61) := by kernel_rfl
theorem kn_word : Word ⟨#[65, 98]⟩ = 2 := by kernel_rfl
theorem kn_quoted : quotedL (⟨#[97, 0]⟩ : ByteArray).data.toList = [34, 97, 92, 120, 48, 48, 34] := by kernel_rfl
theorem Rd.newsZ (w : World) (us : List Value) (e : TypeId) (fz : Nat × Nat) {g : Nat} (hg : g = w.heap.size := by first | rfl | simp) : Rd (w.alloc (.cells us.toArray e fz)) (some ⟨g, 0, none⟩) us := by
  subst hg
  intro i x hi
  refine ⟨_, _, rfl, ?_⟩
  rw [cell_of_row _ w.heap.size _ us.toArray e fz (heap_alloc_new w _)]
  simpa using hi
theorem known_any (w : World) (hT : Lib.Utf8Tabs 1 2 w) : Calls Tryd.prog 17 #[] w fun e w' => e = .returned (.bool true) ∧ Mod (fun _ => False) w w' := by
  have HT := Lib.hid hT; clear hT
  have HN := Lib.hid num_any
  have HS1 := Lib.hid (scan_says kn1 15 rfl (by omega))
  have HS2 := Lib.hid (scan_says kn2 5 rfl (by omega))
  rw [kn1_scan] at HS1
  rw [kn2_scan] at HS2
  have HW := Lib.hid (fun w => Word_any ⟨#[65, 98]⟩ w (by decide))
  rw [kn_word] at HW
  have HQ := Lib.hid (fun w => lexQuoted_any ⟨#[97, 0]⟩ w (by decide))
  rw [kn_quoted] at HQ
  unfold ScanSays at HS1 HS2
  simp only at HS1 HS2
  rw [show kn1T.length = 10 from rfl] at HS1
  simp only [List.length_nil] at HS2
  have kc := fun (w : World) (C : Array Value) (n c : Nat) => Lib.run_convert_bytes_const (P := Tryd.prog) w 22 5 C n c Tryd.underlying22 Tryd.underlying5
  have h2w := tabs_lt HT.out
  go_enter Tryd.func17, Tryd.ntmps17
  go_wp2_with fail
  refine (HS1.out _ _ _ (Rd.newsZ w (bts kn1) 5 _) (tabs_mod HT.out ((Mod.refl _ w).alloc _))).mono ?_
  rintro e w1 ⟨a1, c1, rfl, hO1, hM1, hF1⟩
  have hM1' := ((Mod.refl (fun _ => False) w).alloc _).trans hM1
  have hO1' : Mine.Own w1 32 3 a1 kn1T.length c1 (toksC kn1T) := hO1
  obtain ⟨b1, rfl, u0, u1, u2⟩ := own_cell3 hO1' (k := 0) (by decide)
  obtain ⟨b2, e2, v0, v1, v2⟩ := own_cell3 hO1' (k := 6) (by decide)
  cases e2
  have p0 : w1.cell? ⟨b1, 0, none⟩ = some (.int .i64 1) := u0
  have p1 : w1.cell? ⟨b1, 1, none⟩ = some (.string ⟨#[112]⟩) := u1
  have p2 : w1.cell? ⟨b1, 2, none⟩ = some (.int .i64 0) := u2
  have q0 : w1.cell? ⟨b1, 18, none⟩ = some (.int .i64 8) := v0
  have q1 : w1.cell? ⟨b1, 19, none⟩ = some (.string ⟨#[]⟩) := v1
  have q2 : w1.cell? ⟨b1, 20, none⟩ = some (.int .i64 9) := v2
  have HM1 := Lib.hid hM1'
  clear hO1 hM1 hM1' hF1 hO1' u0 u1 u2 v0 v1 v2
  go_wp2_with (first
    | (go_at_call 12; refine (HN.out _ _).mono ?_; rintro e w' ⟨rfl, rfl⟩))
  refine (HS2.out _ _ _ (Rd.newsZ w1 (bts kn2) 5 _) (tabs_mod HT.out (HM1.out.alloc _))).mono ?_
  rintro e w2 ⟨a2, c2, rfl, hO2, hM2, hF2⟩
  have HM2 := Lib.hid ((HM1.out.alloc _).trans hM2)
  clear hO2 hM2 hF2
  go_wp2_with (first
    | (go_at_call 12; refine (HN.out _ _).mono ?_; rintro e w' ⟨rfl, rfl⟩))
  refine (HW.out _).mono ?_
  rintro e w3 ⟨rfl, hM3⟩
  have HM3 := Lib.hid (HM2.out.trans hM3)
  clear hM3
  go_wp2_with fail
  refine (HQ.out _).mono ?_
  rintro e w4 ⟨rfl, hM4⟩
  have HM4 := Lib.hid (HM3.out.trans hM4)
  clear hM4
  go_wp2_with fail
  go_ret
  exact ⟨rfl, HM4.out⟩
end Go.Proofs.YtgfekdebjafodaaDoor
