/- LexOwn answers true of any bytes of bulk at most 1048576, where the tables of utf8 lie. -/
import Derived.Test.YtgfekdebjafodaaDoorScanS
import Derived.Laws.StructEq
namespace Go.Mine
open Go Go.RowKit
/-- three cells: a number, a text, a number -/
abbrev T3 := Int × ByteArray × Int
def t3C (t : T3) : List Value := [.int .i64 t.1, .string t.2.1, .int .i64 t.2.2]
def t3s (l : List T3) : List Value := l.flatMap t3C
@[simp] theorem t3s_length (l : List T3) : (t3s l).length = l.length * 3 := by
  induction l with
  | nil => rfl
  | cons t l ih =>
    have e : t3s (t :: l) = t3C t ++ t3s l := rfl
    rw [e, List.length_append, ih, List.length_cons]
    show 3 + _ = _
    omega
theorem t3s_append (l m : List T3) : t3s (l ++ m) = t3s l ++ t3s m := by simp [t3s]
theorem t3s_get {l : List T3} {k : Nat} {t : T3} (h : l[k]? = some t) : (t3s l)[k * 3]? = some (.int .i64 t.1) ∧ (t3s l)[k * 3 + 1]? = some (.string t.2.1) ∧ (t3s l)[k * 3 + 2]? = some (.int .i64 t.2.2) := by
  induction l generalizing k with
  | nil => simp at h
  | cons x l ih =>
    have e : t3s (x :: l) = t3C x ++ t3s l := rfl
    have hl : (t3C x).length = 3 := rfl
    cases k with
    | zero => simp at h; subst h; rw [e]; exact ⟨rfl, rfl, rfl⟩
    | succ k =>
      obtain ⟨h1, h2, h3⟩ := ih (k := k) (by simpa using h)
      rw [e]
      refine ⟨?_, ?_, ?_⟩
      · rw [List.getElem?_append_right (by rw [hl]; omega), hl, show (k + 1) * 3 - 3 = k * 3 by omega]; exact h1
      · rw [List.getElem?_append_right (by rw [hl]; omega), hl, show (k + 1) * 3 + 1 - 3 = k * 3 + 1 by omega]; exact h2
      · rw [List.getElem?_append_right (by rw [hl]; omega), hl, show (k + 1) * 3 + 2 - 3 = k * 3 + 2 by omega]; exact h3
theorem t3s_set (l : List T3) (k : Nat) (hk : k < l.length) (t : T3) : (((t3s l).set (k * 3) (.int .i64 t.1)).set (k * 3 + 1) (.string t.2.1)).set (k * 3 + 2) (.int .i64 t.2.2) = t3s (l.set k t) := by
  induction l generalizing k with
  | nil => simp at hk
  | cons x l ih =>
    have e : ∀ y : T3, ∀ m, t3s (y :: m) = t3C y ++ t3s m := fun _ _ => rfl
    have hl : (t3C x).length = 3 := rfl
    cases k with
    | zero => rfl
    | succ k =>
      rw [e, List.set_append_right _ _ (by rw [hl]; omega), List.set_append_right _ _ (by rw [hl]; omega), List.set_append_right _ _ (by rw [hl]; omega), hl,
        show (k + 1) * 3 - 3 = k * 3 by omega, show (k + 1) * 3 + 1 - 3 = k * 3 + 1 by omega, show (k + 1) * 3 + 2 - 3 = k * 3 + 2 by omega, ih k (by simpa using hk)]
      rfl
theorem own_cellT {w : World} {e : TypeId} {a : Option Addr} {n c : Nat} {l : List T3} (h : Own w e 3 a n c (t3s l)) {k : Nat} {t : T3} (hk : l[k]? = some t) :
    ∃ b, a = some ⟨b, 0, none⟩ ∧ w.cell? ⟨b, k * 3, none⟩ = some (.int .i64 t.1) ∧ w.cell? ⟨b, k * 3 + 1, none⟩ = some (.string t.2.1) ∧ w.cell? ⟨b, k * 3 + 2, none⟩ = some (.int .i64 t.2.2) := by
  obtain ⟨h1, h2, h3⟩ := t3s_get hk
  have hn : n ≠ 0 := by
    intro e
    have := h.1
    rw [e, t3s_length] at this
    have := (List.getElem?_eq_some_iff.1 hk).1
    omega
  obtain ⟨b, rfl⟩ := h.atHead hn
  obtain ⟨b1, o1, e1, q1⟩ := h.rd _ _ h1
  cases e1
  obtain ⟨b1, o1, e1, q2⟩ := h.rd _ _ h2
  cases e1
  obtain ⟨b1, o1, e1, q3⟩ := h.rd _ _ h3
  cases e1
  rw [Nat.zero_add] at q1 q2 q3
  exact ⟨_, rfl, q1, q2, q3⟩
theorem own_store3 {w : World} {e : TypeId} {b n c : Nat} {l : List T3} (h : Own w e 3 (some ⟨b, 0, none⟩) n c (t3s l)) {k : Nat} (hk : k < l.length) (t : T3) :
    Own (((w.setCell ⟨b, k * 3, none⟩ (.int .i64 t.1)).setCell ⟨b, k * 3 + 1, none⟩ (.string t.2.1)).setCell ⟨b, k * 3 + 2, none⟩ (.int .i64 t.2.2)) e 3 (some ⟨b, 0, none⟩) n c (t3s (l.set k t)) := by
  rw [← t3s_set l k hk t]
  exact ((h.store _ _).store _ _).store _ _
theorem mod_store3 {S : Nat → Prop} {w w' : World} {g : Nat} (h : Mod S w w') (hS : S g) (i j k : Nat) (u v z : Value) : Mod S w (((w'.setCell ⟨g, i, none⟩ u).setCell ⟨g, j, none⟩ v).setCell ⟨g, k, none⟩ z) :=
  ((h.setCell (p := ⟨g, i, none⟩) (fun _ => hS) u).setCell (p := ⟨g, j, none⟩) (fun _ => hS) v).setCell (p := ⟨g, k, none⟩) (fun _ => hS) z
/-- the first k written over -/
def over (f : Nat → T3) (l : List T3) (k : Nat) : List T3 := (List.range k).map f ++ l.drop k
theorem over_zero (f : Nat → T3) (l : List T3) : over f l 0 = l := by simp [over]
theorem over_all (f : Nat → T3) (l : List T3) : over f l l.length = (List.range l.length).map f := by simp [over]
theorem over_len (f : Nat → T3) (l : List T3) {k : Nat} (h : k ≤ l.length) : (over f l k).length = l.length := by simp [over]; omega
theorem over_get (f : Nat → T3) (l : List T3) {k : Nat} (h : k < l.length) : (over f l k)[k]? = some l[k] := by
  unfold over
  rw [List.getElem?_append_right (by simp)]
  simp [h]
theorem over_set (f : Nat → T3) (l : List T3) {k : Nat} (h : k < l.length) : (over f l k).set k (f k) = over f l (k + 1) := by
  unfold over
  rw [List.set_append_right _ _ (by simp)]
  simp only [List.length_map, List.length_range, Nat.sub_self]
  rw [List.drop_eq_getElem_cons h, List.set_cons_zero, List.range_succ, List.map_append, List.append_assoc]
  rfl
end Go.Mine
namespace Go.Proofs.YtgfekdebjafodaaDoor
open Go Go.RowKit Go.Mine
set_option maxHeartbeats 4000000
set_option maxRecDepth 100000
set_option linter.unusedVariables false

def tokT (t : Tok) : T3 := (t.kind, t.text, t.at_)
theorem toksC_t3 (l : List Tok) : toksC l = t3s (l.map tokT) := by
  induction l with
  | nil => rfl
  | cons t l ih =>
    have e1 : toksC (t :: l) = tokC t ++ toksC l := rfl
    have e2 : t3s ((t :: l).map tokT) = t3C (tokT t) ++ t3s (l.map tokT) := rfl
    rw [e1, e2, ih]; rfl
def mA (i : Nat) : T3 := (-1, ⟨#[]⟩, i)
def mA2 (i : Nat) : T3 := (-2, ⟨#[]⟩, i)
def mB (i : Nat) : T3 := (-3, ⟨#[]⟩, 0)
def mB2 (i : Nat) : T3 := (-4, ⟨#[]⟩, i)

theorem t3s_one (l : List T3) : ∀ u ∈ t3s l, u.oneCell' = true := by
  intro u hu
  simp only [t3s, List.mem_flatMap, t3C] at hu
  obtain ⟨t, _, h⟩ := hu
  simp at h
  rcases h with rfl | rfl | rfl <;> rfl
theorem tok_eq (a b c d : Int) (s t : ByteArray) (w : World) : (Op.equalIn 10000 32 (.agg #[.int .i64 a, .string s, .int .i64 b]) (.agg #[.int .i64 c, .string t, .int .i64 d])).run Tryd.prog w = .ok (a == c && (s.toList == t.toList && b == d)) w := by
  have u3 := Tryd.underlying3
  have hS : Tryd.prog.underlying 32 = some (.struct (Tryd.prog.fieldsOf 32)) := by kernel_rfl
  have hp : Tryd.prog.stoodInHeld 32 = false := by kernel_rfl
  rw [show (10000 : Nat) = 9999 + 1 from rfl, run_equalIn_agg w 9999 32 _ _ hS hp]
  simp only [Program.fieldsOf, Tryd.underlying32]
  go_simp
  by_cases h1 : a = c <;> by_cases h2 : s.toList = t.toList <;> by_cases h3 : b = d <;> simp [h1, h2, h3]
@[local go_sem] theorem tok_neq (a b : Int) (s : ByteArray) (w : World) : (binOp .neq 32 (.agg #[.int .i64 a, .string s, .int .i64 b]) (.agg #[.int .i64 a, .string s, .int .i64 b])).run Tryd.prog w = .ok (.bool false) w := by
  rw [run_neq_struct, tok_eq]
  simp
theorem grow_mod0 {w w1 w2 : World} {g : Nat} {a : Option Addr} (h : Mod (fun _ => False) w w1) (hg : Grow w1 (some ⟨g, 0, none⟩) w2 a) (hge : w.heap.size ≤ g) : Mod (fun _ => False) w w2 := h.step hg.mod (fun i hi hs => by simp at hs; omega)

theorem lexOwn_walk (a : Option Addr) (c : Nat) (l : List UInt8) (w : World) (hr : Rd w a (bts l)) (hT : Lib.Utf8Tabs 1 2 w) (hn : l.length ≤ 1048576) :
    Calls Tryd.prog 7 #[.slice a l.length c] w fun e w' => e = .returned (.bool true) ∧ Mod (fun _ => False) w w' := by
  have HR := Lib.hid hr; clear hr
  have HT := Lib.hid hT; clear hT
  have HS := Lib.hid (scan_says l l.length rfl (by omega))
  have hl1 := scan_few l l.length rfl
  generalize scanR (foundL ⟨l.toArray⟩) = R at *
  obtain ⟨ts, p, er⟩ := R
  simp only at hl1
  unfold ScanSays at HS
  simp only at HS
  rw [toksC_t3] at HS
  obtain ⟨T, hTT⟩ : ∃ T, T = ts.map tokT := ⟨_, rfl⟩
  have hTl : T.length = ts.length := by rw [hTT, List.length_map]
  rw [← hTT, ← hTl] at HS
  rw [← hTl] at hl1
  clear hTT hTl
  go_enter Tryd.func7, Tryd.ntmps7
  go_wp2_with fail
  refine (known_any w HT.out).mono ?_
  rintro e w1 ⟨rfl, hM1⟩
  have HM1 := Lib.hid hM1; clear hM1
  go_wp2_with (
    (at_builtin; refine wpL_append rfl (.tmp 19) (.tmp 20) 22 22 rfl ti24 rfl (Mine.Own.made _ 5 1 #[] 0 0 (by omega) (by unfold maxLen; omega) rfl) rfl (Src.ofRd ti24.ht l.length c (HR.out.mod ((HM1.out.alloc _)) (fun _ _ => id)) (by simp) (bts_one l)) (by omega) (by unfold maxLen; omega) ?_; intro a2 c2 w2 hO2 hG2 _
     simp only [Nat.zero_add, List.take_nil, List.nil_append, Nat.zero_mul, List.take_zero] at hO2
     simp only [Nat.zero_add]
     have HO2 := Lib.hid hO2; have HG2 := Lib.hid hG2; clear hO2 hG2)
    )
  have HM2 := Lib.hid (grow_mod0 (HM1.out.alloc _) HG2.out HM1.out.size)
  refine (HS.out _ _ _ HO2.out.rd (tabs_mod HT.out HM2.out)).mono ?_
  rintro e w3 ⟨a1, c1, rfl, hO3, hM3, hF3⟩
  have HM3 := Lib.hid (HM2.out.trans hM3)
  have HA3 := Lib.hid hO3
  have HF3 : Hid (∀ b, blk a1 = some b → w.heap.size ≤ b) := fun b hb => Nat.le_trans HM2.out.size (hF3 b hb)
  clear hO3 hM3 hF3 HO2 HG2 HM2
  go_wp2_with (
    (at_builtin; refine wpL_append rfl (.tmp 27) (.tmp 28) 22 22 rfl ti24 rfl (Mine.Own.made _ 5 1 #[] 0 0 (by omega) (by unfold maxLen; omega) rfl) rfl (Src.ofRd ti24.ht l.length c (HR.out.mod ((HM3.out.alloc _)) (fun _ _ => id)) (by simp) (bts_one l)) (by omega) (by unfold maxLen; omega) ?_; intro a2 c2 w2 hO2 hG2 _
     simp only [Nat.zero_add, List.take_nil, List.nil_append, Nat.zero_mul, List.take_zero] at hO2
     simp only [Nat.zero_add]
     have HO2 := Lib.hid hO2; have HG2 := Lib.hid hG2; clear hO2 hG2)
    )
  have hM34 := grow_mod0 ((Mod.refl (fun _ => False) w3).alloc _) HG2.out (Nat.le_refl _)
  have HM4 := Lib.hid (HM3.out.trans hM34)
  have HA4 := Lib.hid (HA3.out.mod hM34 (fun _ _ => id))
  have hs34 := hM34.size
  have HLA : Hid (∀ b, blk a1 = some b → b < w3.heap.size) := HA3.out.lt
  clear hM34
  refine (HS.out _ _ _ HO2.out.rd (tabs_mod HT.out HM4.out)).mono ?_
  rintro e w5 ⟨b1, d1, rfl, hO5, hM5, hF5⟩
  have HM5 := Lib.hid (HM4.out.trans hM5)
  have HA5 := Lib.hid (HA4.out.mod hM5 (fun _ _ => id))
  have HB5 := Lib.hid hO5
  have HFB : Hid (∀ b, blk b1 = some b → w3.heap.size ≤ b) := fun b hb => Nat.le_trans hs34 (hF5 b hb)
  have HLB : Hid (∀ b, blk b1 = some b → b < w5.heap.size) := hO5.lt
  have hs45 := hM5.size
  clear hO5 hM5 hF5 HO2 HG2 HA3 HA4
  go_wp2_with (at_builtin; refine wpL_append rfl (.tmp 34) (.tmp 35) 38 38 rfl ti38 rfl (Mine.Own.made _ 32 3 #[] 0 0 (by omega) (by unfold maxLen; omega) rfl) rfl (Src.ofRd ti38.ht T.length c1 (HA5.out.rd.mod ((Mod.refl (fun _ => False) w5).alloc _) (fun _ _ => id)) (by simp) (t3s_one T)) (by omega) (by unfold maxLen; omega) ?_; intro e1 k1 w6 hO6 hG6 _
               simp only [Nat.zero_add, List.take_nil, List.nil_append, Nat.zero_mul, List.take_zero] at hO6
               simp only [Nat.zero_add]
               have HO6 := Lib.hid hO6; have HG6 := Lib.hid hG6; clear hO6 hG6)
  have hM56 := grow_mod0 ((Mod.refl (fun _ => False) w5).alloc _) HG6.out (Nat.le_refl _)
  have HLE : Hid (∀ b, blk e1 = some b → w5.heap.size ≤ b) := fun b hb => by
    rcases HG6.out.pos with e | ⟨g, e, hg⟩
    · rw [e] at hb; simp at hb; omega
    · rw [e] at hb; cases hb; simp at hg; omega
  have HM6 := Lib.hid (HM5.out.trans hM56)
  have HA6 := Lib.hid (HA5.out.mod hM56 (fun _ _ => id))
  have HB6 := Lib.hid (HB5.out.mod hM56 (fun _ _ => id))
  have SAB : Hid (∀ b, blk a1 = some b → blk b1 ≠ some b) := fun b h1 h2 => by have := HLA.out b h1; have := HFB.out b h2; omega
  have SAE : Hid (∀ b, blk a1 = some b → blk e1 ≠ some b) := fun b h1 h2 => by have := HLA.out b h1; have := HLE.out b h2; omega
  have SBE : Hid (∀ b, blk b1 = some b → blk e1 ≠ some b) := fun b h1 h2 => by have := HLB.out b h1; have := HLE.out b h2; omega
  have HGB : Hid (∀ b, blk b1 = some b → w.heap.size ≤ b) := fun b hb => Nat.le_trans HM3.out.size (HFB.out b hb)
  clear hM56 HG6 HA5 HB5 HLA HFB HLB HLE hs34 hs45 HM5 HM4 HM3
  go_loopw [10] (fun i wr => ∃ k : Nat, i = .int .i64 k ∧ k ≤ T.length ∧ Hid (Mine.Own wr 32 3 a1 T.length c1 (t3s (over mA T k))) ∧ Hid (Mod (fun x => blk a1 = some x) w6 wr)) (fun i _ => T.length - (intOf i).toNat)
  case atStart => exact ⟨0, rfl, by omega, by rw [over_zero]; exact HA6, Lib.hid (Mod.refl _ w6)⟩
  case round =>
    obtain ⟨k, rfl, hk, hO, hM⟩ := hrel
    by_cases hlt : k < T.length
    · obtain ⟨g, rfl, x0, x1, x2⟩ := own_cellT hO.out (over_get mA T hlt)
      have f0 : wr.frozen? ⟨g, k * 3, none⟩ = false := hO.out.frozen rfl
      have f1 : wr.frozen? ⟨g, k * 3 + 1, none⟩ = false := hO.out.frozen rfl
      have f2 : wr.frozen? ⟨g, k * 3 + 2, none⟩ = false := hO.out.frozen rfl
      have HS3 := Lib.hid (own_store3 hO.out (by rw [over_len mA T hk]; exact hlt) (mA k))
      go_wp2
      go_roundw
      case rel => exact ⟨k + 1, by go_num, hlt, by unfold Hid; rw [← over_set mA T hlt]; exact HS3.out, Lib.hid (mod_store3 hM.out rfl _ _ _ _ _ _)⟩
      case measure => simp [intOf]; omega
    · obtain rfl : k = T.length := by omega
      have hOa := hO.out
      rw [over_all] at hOa
      have HA7 := Lib.hid hOa
      have HB7 := Lib.hid (HB6.out.mod hM.out (fun b h1 h2 => SAB.out b h2 h1))
      have HE7 := Lib.hid (HO6.out.mod hM.out (fun b h1 h2 => SAE.out b h2 h1))
      have HM7 : Hid (Mod (fun _ => False) w wr) := HM6.out.step hM.out (fun i hi h => by have := HF3.out i h; omega)
      have SZB : Hid (∀ b, blk b1 = some b → b < wr.heap.size) := HB7.out.lt
      have SZE : Hid (∀ b, blk e1 = some b → b < wr.heap.size) := HE7.out.lt
      clear hOa hO hM HA6 HB6 HO6 HM6 HS
      obtain ⟨vw1, hvw1⟩ : ∃ vw1, vw1 = wr := ⟨_, rfl⟩
      rw [← hvw1] at HA7 HB7 HE7 HM7 SZB SZE ⊢
      clear hvw1 wr
      obtain ⟨LA, hLA⟩ : ∃ LA, LA = (List.range T.length).map mA := ⟨_, rfl⟩
      have HLA := Lib.hid hLA
      rw [← hLA] at HA7
      clear hLA
      go_wp2
      go_loopw [3, 11] (fun sv iv wr => ∃ (k : Nat) (a' : Option Addr) (c' : Nat), sv = .slice a' (T.length + k) c' ∧ iv = .int .i64 k ∧ k ≤ 40 ∧ Hid (Mine.Own wr 32 3 a' (T.length + k) c' (t3s (LA ++ (List.range k).map mA2))) ∧ Hid (Grow vw1 a1 wr a')) (fun _ iv _ => 40 - (intOf iv).toNat)
      case atStart => exact ⟨0, a1, c1, rfl, rfl, by omega, Lib.hid (by simpa using HA7.out), Lib.hid (Grow.refl _ _)⟩
      case round =>
        obtain ⟨k, a', c', rfl, rfl, hk2, hO, hG⟩ := hrel
        by_cases hlt : k < 40
        · go_wp2_with (at_builtin; refine wpL_appendN (us := [.int .i64 (-2), .string ⟨#[]⟩, .int .i64 k]) rfl (.tmp 52) (.tmp 55) 38 rfl ti38 rfl hO.out rfl rfl rfl (by omega) (by unfold maxLen; omega) ?_; intro a3 c3 w3 hO3 hG3 _; have HO3 := Lib.hid hO3; have HG3 := Lib.hid hG3; clear hO3 hG3)
          go_roundw
          case rel => exact ⟨k + 1, a3, c3, rfl, by go_num, hlt, Lib.hid (by rw [List.range_succ, List.map_append, ← List.append_assoc, t3s_append]; exact HO3.out), Lib.hid (hG.out.trans HG3.out)⟩
          case measure => simp [intOf]; omega
        · obtain rfl : k = 40 := by omega
          rw [show ((40 : Nat) : Int) = (40 : Int) from rfl]
          have HB8 := Lib.hid (HB7.out.mod hG.out.mod (fun b h1 h2 => SAB.out b h2 h1))
          have HE8 := Lib.hid (HE7.out.mod hG.out.mod (fun b h1 h2 => SAE.out b h2 h1))
          have HM8 : Hid (Mod (fun _ => False) w wr) := HM7.out.step hG.out.mod (fun i hi h => by have := HF3.out i h; omega)
          have SAB8 : Hid (∀ b, blk a' = some b → blk b1 ≠ some b) := fun b h1 h2 => hG.out.ne (SZB.out b h2) (fun h => SAB.out b h h2) h1
          have SAE8 : Hid (∀ b, blk a' = some b → blk e1 ≠ some b) := fun b h1 h2 => hG.out.ne (SZE.out b h2) (fun h => SAE.out b h h2) h1
          have HA8 := hO
          have SZA : Hid (∀ b, blk a' = some b → b < wr.heap.size) := HA8.out.lt
          obtain ⟨LB, hLB⟩ : ∃ LB, LB = (List.range 40).map mA2 := ⟨_, rfl⟩
          have HLB := Lib.hid hLB
          rw [← hLB] at HA8
          clear hLB hO hG HB7 HE7 HM7 SAB SAE HA7 SZB SZE
          obtain ⟨vw2, hvw2⟩ : ∃ vw2, vw2 = wr := ⟨_, rfl⟩
          rw [← hvw2] at HA8 HB8 HE8 HM8 SZA ⊢
          clear hvw2 wr
          go_wp2
          go_loopw [12] (fun i wr => ∃ k : Nat, i = .int .i64 k ∧ k ≤ T.length ∧ Hid (Mine.Own wr 32 3 b1 T.length d1 (t3s (over mB T k))) ∧ Hid (Mod (fun x => blk b1 = some x) vw2 wr)) (fun i _ => T.length - (intOf i).toNat)
          case atStart => exact ⟨0, rfl, by omega, by rw [over_zero]; exact HB8, Lib.hid (Mod.refl _ vw2)⟩
          case round =>
            obtain ⟨k, rfl, hk, hO, hM⟩ := hrel
            by_cases hlt : k < T.length
            · have HEr := HE8.out.mod hM.out (fun b h1 h2 => SBE.out b h2 h1)
              obtain ⟨g, rfl, x0, x1, x2⟩ := own_cellT hO.out (over_get mB T hlt)
              obtain ⟨g2, hg2, y0, y1, y2⟩ := own_cellT HEr (List.getElem?_eq_getElem hlt)
              clear HEr
              subst hg2
              obtain ⟨tk, ht⟩ : ∃ tk, tk = T[k].1 := ⟨_, rfl⟩
              obtain ⟨tt, ht2⟩ : ∃ tt, tt = T[k].2.1 := ⟨_, rfl⟩
              obtain ⟨ta, ht3⟩ : ∃ ta, ta = T[k].2.2 := ⟨_, rfl⟩
              rw [← ht] at x0 y0
              rw [← ht2] at x1 y1
              rw [← ht3] at x2 y2
              clear ht ht2 ht3
              have f0 : wr.frozen? ⟨g, k * 3, none⟩ = false := hO.out.frozen rfl
              have f1 : wr.frozen? ⟨g, k * 3 + 1, none⟩ = false := hO.out.frozen rfl
              have f2 : wr.frozen? ⟨g, k * 3 + 2, none⟩ = false := hO.out.frozen rfl
              have HS3 := Lib.hid (own_store3 hO.out.drew (by rw [over_len mB T hk]; exact hlt) (mB k))
              go_wp2_with fail
              refine wp_region_ord (fun w' => (w'.cell? ⟨g, k * 3, none⟩ = some (.int .i64 tk) ∧ w'.cell? ⟨g, k * 3 + 1, none⟩ = some (.string tt) ∧ w'.cell? ⟨g, k * 3 + 2, none⟩ = some (.int .i64 ta)) ∧ (w'.cell? ⟨g2, k * 3, none⟩ = some (.int .i64 tk) ∧ w'.cell? ⟨g2, k * 3 + 1, none⟩ = some (.string tt) ∧ w'.cell? ⟨g2, k * 3 + 2, none⟩ = some (.int .i64 ta))) [(0, 0), (0, 1), (0, 2), (1, 3), (0, 4), (0, 5), (0, 6), (1, 7), (0, 8)] (by kernel_rfl) (by kernel_rfl) ?_
              go_wp2_with (first
                | (refine ord_pure rfl rfl rfl (fun K hK => ?_); go_big_quiet_op; refine hK _ ?_; clear hK K)
                        | (refine ord_skip rfl rfl ?_; simp only [Act.put, List.setIfInBounds_toArray, List.set_cons_zero, List.set_cons_succ])
                        | (refine ord_held rfl rfl rfl (⟨⟨by simpa using x0, by simpa using x1, by simpa using x2⟩, ⟨by simpa using y0, by simpa using y1, by simpa using y2⟩⟩) (fun K hK => ?_); apply Exists.intro; refine ⟨fun w' hs => ?_, hK _ ?_⟩; (revert hs; dsimp only; (try simp only [and_imp]); intros; go_simp; rfl); clear hK K)
                        | (refine ord_keep rfl rfl (⟨⟨by simpa using x0, by simpa using x1, by simpa using x2⟩, ⟨by simpa using y0, by simpa using y1, by simpa using y2⟩⟩) (fun K hK => ?_))
                        | (refine ord_drop rfl rfl (fun K hK => ?_))
                        | (refine ord_nil ?_))
              go_roundw
              case rel => exact ⟨k + 1, by go_num, hlt, by unfold Hid; rw [← over_set mB T hlt]; exact HS3.out, Lib.hid (mod_store3 hM.out.drew rfl _ _ _ _ _ _)⟩
              case measure => simp [intOf]; omega
            · obtain rfl : k = T.length := by omega
              have hOb := hO.out
              rw [over_all] at hOb
              obtain ⟨LD, hLD⟩ : ∃ LD, LD = (List.range T.length).map mB := ⟨_, rfl⟩
              rw [← hLD] at hOb
              have HB9 := Lib.hid hOb
              have HA9 := Lib.hid (HA8.out.mod hM.out (fun b h1 h2 => SAB8.out b h1 h2))
              have HM9 : Hid (Mod (fun _ => False) w wr) := HM8.out.step hM.out (fun i hi h => by have := HGB.out i h; omega)
              clear hOb hLD hO hM HA8 HB8 HE8 HM8 SBE SZA
              obtain ⟨vw3, hvw3⟩ : ∃ vw3, vw3 = wr := ⟨_, rfl⟩
              rw [← hvw3] at HA9 HB9 HM9 ⊢
              clear hvw3 wr
              go_wp2
              go_loopw [6, 13] (fun sv iv wr => ∃ (k : Nat) (b' : Option Addr) (d' : Nat), sv = .slice b' (T.length + k) d' ∧ iv = .int .i64 k ∧ k ≤ 40 ∧ Hid (Mine.Own wr 32 3 b' (T.length + k) d' (t3s (LD ++ (List.range k).map mB2))) ∧ Hid (Grow vw3 b1 wr b')) (fun _ iv _ => 40 - (intOf iv).toNat)
              case atStart => exact ⟨0, b1, d1, rfl, rfl, by omega, Lib.hid (by simpa using HB9.out), Lib.hid (Grow.refl _ _)⟩
              case round =>
                obtain ⟨k, b', d', rfl, rfl, hk3, hO, hG⟩ := hrel
                by_cases hlt : k < 40
                · go_wp2_with (at_builtin; refine wpL_appendN (us := [.int .i64 (-4), .string ⟨#[]⟩, .int .i64 k]) rfl (.tmp 85) (.tmp 88) 38 rfl ti38 rfl hO.out rfl rfl rfl (by omega) (by unfold maxLen; omega) ?_; intro a3 c3 w3 hO3 hG3 _; have HO3 := Lib.hid hO3; have HG3 := Lib.hid hG3; clear hO3 hG3)
                  go_roundw
                  case rel => exact ⟨k + 1, a3, c3, rfl, by go_num, hlt, Lib.hid (by rw [List.range_succ, List.map_append, ← List.append_assoc, t3s_append]; exact HO3.out), Lib.hid (hG.out.trans HG3.out)⟩
                  case measure => simp [intOf]; omega
                · obtain rfl : k = 40 := by omega
                  rw [show ((40 : Nat) : Int) = (40 : Int) from rfl]
                  have HA10 := Lib.hid (HA9.out.mod hG.out.mod (fun b h1 h2 => SAB8.out b h1 h2))
                  have HM10 : Hid (Mod (fun _ => False) w wr) := HM9.out.step hG.out.mod (fun i hi h => by have := HGB.out i h; omega)
                  clear hO hG HA9 HB9 HM9 SAB8 SAE8 HGB
                  obtain ⟨vw4, hvw4⟩ : ∃ vw4, vw4 = wr := ⟨_, rfl⟩
                  rw [← hvw4] at HA10 HM10 ⊢
                  clear hvw4 wr
                  go_wp2
                  go_loopw [15] (fun i wr => ∃ k : Nat, i = .int .i64 k ∧ k ≤ T.length + 40 ∧ wr = vw4) (fun i _ => T.length + 40 - (intOf i).toNat)
                  case atStart => exact ⟨0, rfl, by omega, rfl⟩
                  case round =>
                    obtain ⟨k, rfl, hk, rfl⟩ := hrel
                    by_cases hlt : k < T.length + 40
                    · by_cases hkn : k < T.length
                      · have hg : (LA ++ LB)[k]? = some (mA k) := by
                          rw [HLA.out, HLB.out, List.getElem?_append_left (by simpa using hkn)]
                          simp [hkn]
                        obtain ⟨g, rfl, x0, x1, x2⟩ := own_cellT HA10.out hg
                        clear hg
                        have y0 : wr.cell? ⟨g, k * 3, none⟩ = some (.int .i64 (-1)) := x0
                        have y1 : wr.cell? ⟨g, k * 3 + 1, none⟩ = some (.string ⟨#[]⟩) := x1
                        have y2 : wr.cell? ⟨g, k * 3 + 2, none⟩ = some (.int .i64 k) := x2
                        clear x0 x1 x2
                        go_wp2
                        go_roundw
                        case rel => exact ⟨k + 1, by go_num, hlt, trivial⟩
                        case measure => simp [intOf]; omega
                      · have hg : (LA ++ LB)[k]? = some (mA2 (k - T.length)) := by
                          rw [HLA.out, HLB.out, List.getElem?_append_right (by simp; omega)]
                          simp only [List.length_map, List.length_range]
                          rw [List.getElem?_map, List.getElem?_range (by omega)]
                          rfl
                        obtain ⟨g, rfl, x0, x1, x2⟩ := own_cellT HA10.out hg
                        clear hg
                        have y0 : wr.cell? ⟨g, k * 3, none⟩ = some (.int .i64 (-2)) := x0
                        have y1 : wr.cell? ⟨g, k * 3 + 1, none⟩ = some (.string ⟨#[]⟩) := x1
                        have y2 : wr.cell? ⟨g, k * 3 + 2, none⟩ = some (.int .i64 ((k : Int) - (T.length : Int))) := by
                          rw [x2]
                          show some (Value.int .i64 ((k - T.length : Nat) : Int)) = _
                          rw [Int.ofNat_sub (by omega)]
                        clear x0 x1 x2
                        go_wp2
                        go_roundw
                        case rel => exact ⟨k + 1, by go_num, hlt, trivial⟩
                        case measure => simp [intOf]; omega
                    · go_wp2
                      go_ret
                      exact ⟨rfl, HM10.out⟩
end Go.Proofs.YtgfekdebjafodaaDoor
