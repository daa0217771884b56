/- LexPlaces answers true of any bytes of bulk at most 1048576, where the tables of utf8 lie. -/
import Derived.Test.YtgfekdebjafodaaDoorScanS
import Derived.Test.YtgfekdebjafodaaDoorPlacesL
import Derived.Laws.StructEq
namespace Go.Proofs.YtgfekdebjafodaaDoor
open Go Go.RowKit Go.Mine
set_option maxHeartbeats 4000000
set_option maxRecDepth 100000
set_option linter.unusedVariables false

/-- what the law leans on -/
theorem places_law (l : List UInt8) : ∃ (ts : List Tok) (p er : Nat), scanR (foundL ⟨l.toArray⟩) = (ts, p, er) ∧ (er ≠ 0 → p ≤ l.length ∧ ts = []) ∧ (er = 0 → Rises l.length 0 ts) ∧ ts.length ≤ l.length + 1 ∧
    (er = 0 → ∀ m : List UInt8, (∀ (i : Nat) (h : i < l.length), l[i] ≠ 37) → l.length + 1 + m.length ≤ 65536 → ∃ r : List Tok × Nat × Nat, foundL ⟨(l ++ 32 :: m).toArray⟩ = (ts ++ r.1, r.2) ∧ ∀ x ∈ seqOf r, l.length < x.1.at_) := by
  have hsz : (⟨l.toArray⟩ : ByteArray).size = l.length := rfl
  have hR := scanGo_rises (s := ⟨l.toArray⟩) (l.length + 1) 0 (by omega)
  rw [hsz] at hR
  rcases hF : foundL ⟨l.toArray⟩ with ⟨ts, p, er⟩
  have hlen := foundL_len ⟨l.toArray⟩
  rw [hF, hsz] at hlen
  simp only at hlen
  have hrp : er = 0 → Rises l.length 0 ts := by
    intro he
    by_cases hl : 65536 < l.length
    · unfold foundL at hF
      rw [if_pos (by rw [hsz]; exact hl)] at hF
      simp only [Prod.mk.injEq] at hF
      obtain ⟨_, _, rfl⟩ := hF
      omega
    · have h1 : foundL ⟨l.toArray⟩ = scanGo ⟨l.toArray⟩ (l.length + 1) 0 := by unfold foundL; rw [if_neg (by rw [hsz]; exact hl)]; rfl
      rw [← h1, hF] at hR
      exact hR.1
  have hpl : p ≤ l.length := by
    by_cases hl : 65536 < l.length
    · unfold foundL at hF
      rw [if_pos (by rw [hsz]; exact hl)] at hF
      simp only [Prod.mk.injEq] at hF
      omega
    · have h1 : foundL ⟨l.toArray⟩ = scanGo ⟨l.toArray⟩ (l.length + 1) 0 := by unfold foundL; rw [if_neg (by rw [hsz]; exact hl)]; rfl
      rw [← h1, hF] at hR
      exact hR.2
  by_cases he : er = 0
  · subst he
    refine ⟨ts, 0, 0, by unfold scanR; rw [if_pos rfl], fun h => absurd rfl h, hrp, hlen, fun _ m hno hm => ?_⟩
    have hg : GoesOn ⟨l.toArray⟩ ⟨(l ++ 32 :: m).toArray⟩ := ⟨⟨m, by simp⟩⟩
    exact hg.found (fun i hi => by
      rw [getD_list, List.getD_eq_getElem?_getD, List.getElem?_eq_getElem (show i < l.length from hi)]
      simpa using hno i hi) (by show (l ++ 32 :: m).length ≤ 65536; simp; omega) hF
  · exact ⟨[], p, er, by unfold scanR; rw [if_neg he], fun _ => ⟨hpl, rfl⟩, fun h => absurd h he, by simp, fun h => absurd h he⟩
theorem grow_mod0 {w w1 w2 : World} {g : Nat} {a : Option Addr} (h : Mod (fun _ => False) w w1) (hg : Grow w1 (some ⟨g, 0, none⟩) w2 a) (hge : w.heap.size ≤ g) : Mod (fun _ => False) w w2 := h.step hg.mod (fun i hi hs => by simp at hs; omega)
theorem Rises.get {n : Nat} : ∀ {i : Nat} {ts : List Tok} {k : Nat} (h : Rises n i ts) (hk : k < ts.length), Rises n (ts[k].at_ + 1) (ts.drop (k + 1)) ∧ i ≤ ts[k].at_ ∧ ts[k].at_ < n ∧ 1 ≤ ts[k].kind ∧ ts[k].kind ≤ 13
  | i, t :: ts, 0, h, _ => ⟨h.2.2.2.2, h.1, h.2.1, h.2.2.1, h.2.2.2.1⟩
  | i, t :: ts, k + 1, h, hk => by
    have := Rises.get (k := k) h.2.2.2.2 (by simpa using hk)
    refine ⟨this.1, ?_, this.2.2⟩
    have h1 := h.1
    have h2 := this.2.1
    simp only [List.getElem_cons_succ]
    omega
theorem tok_eq (a b c d : Int) (s t : ByteArray) (w : World) : (Op.equalIn 10000 32 (.agg #[.int .i64 a, .string s, .int .i64 b]) (.agg #[.int .i64 c, .string t, .int .i64 d])).run Tryd.prog w = .ok (a == c && (s.toList == t.toList && b == d)) w := by
  have u3 := Tryd.underlying3
  have hS : Tryd.prog.underlying 32 = some (.struct (Tryd.prog.fieldsOf 32)) := by kernel_rfl
  have hp : Tryd.prog.stoodInHeld 32 = false := by kernel_rfl
  rw [show (10000 : Nat) = 9999 + 1 from rfl, run_equalIn_agg w 9999 32 _ _ hS hp]
  simp only [Program.fieldsOf, Tryd.underlying32]
  go_simp
  by_cases h1 : a = c <;> by_cases h2 : s.toList = t.toList <;> by_cases h3 : b = d <;> simp [h1, h2, h3]
@[local go_sem] theorem tok_neq (a b : Int) (s : ByteArray) (w : World) : (binOp .neq 32 (.agg #[.int .i64 a, .string s, .int .i64 b]) (.agg #[.int .i64 a, .string s, .int .i64 b])).run Tryd.prog w = .ok (.bool false) w := by
  rw [run_neq_struct, tok_eq]
  simp
theorem tok_ne (x y : Tok) (h : x ≠ y) (w : World) : (binOp .neq 32 (.agg #[.int .i64 x.kind, .string x.text, .int .i64 x.at_]) (.agg #[.int .i64 y.kind, .string y.text, .int .i64 y.at_])).run Tryd.prog w = .ok (.bool true) w := by
  rw [run_neq_struct, tok_eq]
  simp only [Result.andThen_ok]
  congr 1
  obtain ⟨xk, xt, xa⟩ := x
  obtain ⟨yk, yt, ya⟩ := y
  simp only [Value.bool.injEq, Bool.not_eq_true', Bool.and_eq_false_iff, beq_eq_false_iff_ne, ne_eq]
  by_cases h1 : xk = yk
  · by_cases h2 : xt = yt
    · right; right
      intro h3
      exact h (by subst h1 h2; congr 1; omega)
    · right; left
      intro h3
      exact h2 (by rw [ByteArray.toList_eq, ByteArray.toList_eq] at h3; exact ByteArray.ext (Array.ext' h3))
  · left; omega
theorem seqOf_app (ts : List Tok) (r : List Tok × Nat × Nat) : seqOf (ts ++ r.1, r.2) = ts.map (·, 0) ++ seqOf r := by
  unfold seqOf
  simp [List.append_assoc]
theorem pl_tail {ts : List Tok} {r : List Tok × Nat × Nat} {pre : List (Tok × Nat)} {x : Tok × Nat} (h : pre ++ [x] <+: seqOf (ts ++ r.1, r.2)) (hn : pre.length = ts.length) : x ∈ seqOf r := by
  rw [seqOf_app] at h
  obtain ⟨m, hm⟩ := h
  have h1 : (ts.map (·, 0) ++ seqOf r)[ts.length]? = some x := by
    rw [← hm, List.append_assoc, ← hn, List.getElem?_append_right (Nat.le_refl _)]
    simp
  rw [List.getElem?_append_right (by simp)] at h1
  exact List.mem_of_getElem? h1
theorem pl_head {ts : List Tok} {r : List Tok × Nat × Nat} {pre : List (Tok × Nat)} {x : Tok × Nat} (h : pre ++ [x] <+: seqOf (ts ++ r.1, r.2)) (hn : pre.length < ts.length) : x = (ts[pre.length], 0) := by
  rw [seqOf_app] at h
  obtain ⟨m, hm⟩ := h
  have h1 : (ts.map (·, 0) ++ seqOf r)[pre.length]? = some x := by
    rw [← hm, List.append_assoc, List.getElem?_append_right (Nat.le_refl _)]
    simp
  rw [List.getElem?_append_left (by simpa using hn), List.getElem?_map, List.getElem?_eq_getElem hn] at h1
  simpa using h1.symm
theorem name_frame {c : Code} {F : Fence} {n : Nat} {P : Program} {Q : Exit → Act → World → Prop} {T : Array Value} {ds : List Deferred} {w : World} (h : ∀ T', T' = T → c.wpIn F n P Q { tmps := T', defers := ds } w) : c.wpIn F n P Q { tmps := T, defers := ds } w := h T rfl
@[local go_sem, local simp] theorem wide_fn3 (f : FuncId) : Fence.wide.fn f = True := rfl
@[local go_sem, local simp] theorem wide_depth3 : Fence.wide.depth = none := rfl
@[local go_sem, local simp] theorem in_fn3 (l : Nat) (f : FuncId) : (Fence.wide.inRound l).fn f = True := rfl
@[local go_sem, local simp] theorem in_depth3 (l : Nat) : (Fence.wide.inRound l).depth = none := rfl
attribute [local go_sem] Oper.semAt_some
/-- what a round finds -/
def PlI (w : World) (g5 gN n1 : Nat) (a1 : Option Addr) (c1 : Nat) (aL : Option Addr) (cL : Nat) (ts : List Tok) (pre : List (Tok × Nat)) (W : World) : Prop :=
  Boxed W w.heap.size 22 (.slice a1 n1 c1) ∧ Boxed W (w.heap.size + 1) 4 (.bool false) ∧ Boxed W g5 38 (.slice aL ts.length cL) ∧ Boxed W gN 3 (.int .i64 pre.length) ∧ pre.length ≤ ts.length ∧
  Mine.Own W 32 3 aL ts.length cL (toksC ts) ∧ Mod (fun _ => False) w W ∧ gN + 2 ≤ W.heap.size
/-- where it has left -/
def PlX (w : World) (items : List (Tok × Nat)) (c : Code) (pre : List (Tok × Nat)) (W : World) : Prop :=
  c = .ret ∧ Mod (fun _ => False) w W ∧ ∃ b : Bool, Boxed W (w.heap.size + 1) 4 (.bool b) ∧ (pre <+: items → b = true)
theorem plI_own {w : World} {g5 gN n1 : Nat} {a1 : Option Addr} {c1 : Nat} {aL : Option Addr} {cL : Nat} {ts : List Tok} (B : Nat) (hB : w.heap.size ≤ B) : OwnFrom B (PlI w g5 gN n1 a1 c1 aL cL ts) := by
  rintro pre W W' row ⟨h1, h2, h3, h4, h5, h6, h7, h8⟩ hg hr
  have hr2 := fun r e => (hr r e).2
  exact ⟨bx_turned h1 hg hr2, bx_turned h2 hg hr2, bx_turned h3 hg hr2, bx_turned h4 hg hr2, h5, Mine.Own.turned h6 hg hr2, Mod.turned h7 hg (fun r e => Nat.le_trans hB (hr r e).1), Nat.le_trans h8 hg.size⟩
theorem plX_own {w : World} {items : List (Tok × Nat)} (c : Code) (B : Nat) (hB : w.heap.size ≤ B) : OwnFrom B (PlX w items c) := by
  rintro pre W W' row ⟨hc, h7, b, h1, h2⟩ hg hr
  have hr2 := fun r e => (hr r e).2
  exact ⟨hc, Mod.turned h7 hg (fun r e => Nat.le_trans hB (hr r e).1), b, bx_turned h1 hg hr2, h2⟩
theorem each_n (l : List UInt8) (n : Nat) (hn : l.length = n) (a : Option Addr) (c : Nat) (w : World) (hR : Rd w a (bts l)) :
    Calls Tryd.prog 9 #[.slice a n c] w fun e w' => e = .returned (.func (.func 21) #[] #[.pointer (some ⟨w.heap.size, 0, none⟩)]) ∧ w' = w.alloc (.cells #[.string ⟨l.toArray⟩] 9) := by
  subst hn; exact each_any a c l w hR
theorem lexPlaces_walk (a1 : Option Addr) (c1 : Nat) (l1 : List UInt8) (a2 : Option Addr) (c2 : Nat) (l2 : List UInt8) (w : World) (hr1 : Rd w a1 (bts l1)) (hr2 : Rd w a2 (bts l2)) (hT : Lib.Utf8Tabs 1 2 w) (hn1 : l1.length ≤ 1048576) (hn2 : l2.length ≤ 1048576) :
    Calls Tryd.prog 6 #[.slice a1 l1.length c1, .slice a2 l2.length c2] w fun e w' => e = .returned (.bool true) ∧ Mod (fun _ => False) w w' := by
  have HR1 := Lib.hid hr1; clear hr1
  have HR2 := Lib.hid hr2; clear hr2
  have HT := Lib.hid hT; clear hT
  obtain ⟨ts, p, er, hsc, hA, hB, hC, hD⟩ := places_law l1
  have HS := Lib.hid (scan_says l1 l1.length rfl (by omega))
  rw [hsc] at HS
  unfold ScanSays at HS
  simp only at HS
  have HPA := Lib.hid hA; have HPB := Lib.hid hB; have HPD := Lib.hid hD
  clear hA hB hD hsc
  have HN := Lib.hid num_any
  have H2w := Lib.hid (tabs_lt HT.out)
  refine (callsIn_wide (n := 3)).1 ?_
  refine callsIn_of_wp_marks Tryd.func6 rfl trivial ?_ rfl
  simp only [Tryd.ntmps6, List.size_toArray, List.length_cons, List.length_nil, Nat.reduceAdd, Nat.reduceSub, Array.replicate_succ, Array.replicate_zero, List.push_toArray, List.append_toArray, List.nil_append, List.cons_append]
  refine (wpIn_wide (n := 3)).2 ?_
  go_wp2_with fail
  have b2 := (Boxed.new w 22 (.slice a1 l1.length c1)).alloc (.cells #[.bool false] 4)
  have b4 := Boxed.new (w.alloc (.cells #[.slice a1 l1.length c1] 22)) 4 (.bool false)
  simp only [World.size_alloc] at b4
  have hm0 : Mod (fun _ => False) w ((w.alloc (.cells #[.slice a1 l1.length c1] 22)).alloc (.cells #[.bool false] 4)) := ((Mod.refl _ w).alloc _).alloc _
  have hz0 : ((w.alloc (.cells #[.slice a1 l1.length c1] 22)).alloc (.cells #[.bool false] 4)).heap.size = w.heap.size + 2 := by simp
  obtain ⟨v0, hv0⟩ : ∃ v0, v0 = (w.alloc (.cells #[.slice a1 l1.length c1] 22)).alloc (.cells #[.bool false] 4) := ⟨_, rfl⟩
  rw [← hv0] at b2 b4 hm0 hz0 ⊢
  clear hv0
  refine (known_any _ (tabs_mod HT.out hm0)).mono ?_
  rintro e v1 ⟨rfl, hM1⟩
  have HM1 := Lib.hid (hm0.trans hM1)
  have HZ1 : Hid (w.heap.size + 2 ≤ v1.heap.size) := by have := hM1.size; unfold Hid; omega
  have B2 := Lib.hid (bx_mod b2 hM1 id)
  have B4 := Lib.hid (bx_mod b4 hM1 id)
  have d2 : (v1.alloc (.cells #[] 5)).cell? ⟨w.heap.size, 0, none⟩ = some (.slice a1 l1.length c1) := ((Mod.refl (fun _ => False) v1).alloc _).cell B2.out.cell id
  clear b2 b4 hm0 hz0 hM1 v0
  go_wp2_with (at_builtin; refine wpL_append rfl (.tmp 18) (.tmp 19) 22 22 rfl ti24 rfl (Mine.Own.made _ 5 1 #[] 0 0 (by omega) (by unfold maxLen; omega) rfl) rfl (Src.ofRd ti24.ht l1.length c1 (HR1.out.mod (HM1.out.alloc _) (fun _ _ => id)) (by simp) (bts_one l1)) (by omega) (by unfold maxLen; omega) ?_; intro a3 c3 v2 hO2 hG2 _
               simp only [Nat.zero_add, List.take_nil, List.nil_append, Nat.zero_mul] at hO2
               simp only [Nat.zero_add]
               have HO2 := Lib.hid hO2; have HG2 := Lib.hid hG2; clear hO2 hG2)
  have hM12 := grow_mod0 ((Mod.refl (fun _ => False) v1).alloc _) HG2.out (Nat.le_refl _)
  refine (HS.out _ _ _ HO2.out.rd (tabs_mod HT.out (HM1.out.trans hM12))).mono ?_
  rintro e v3 ⟨a5, c5, rfl, hO3, hM3, hF3⟩
  have hM13 := hM12.trans hM3
  have HM3 := Lib.hid (HM1.out.trans hM13)
  have B2' := Lib.hid (bx_mod B2.out hM13 id)
  have B4' := Lib.hid (bx_mod B4.out hM13 id)
  have HZ3 : Hid (w.heap.size + 2 ≤ v3.heap.size) := Nat.le_trans HZ1.out hM13.size
  have HL := Lib.hid hO3
  have HLF : Hid (∀ b, blk a5 = some b → w.heap.size + 2 ≤ b) := fun b hb => Nat.le_trans (Nat.le_trans HZ1.out hM12.size) (hF3 b hb)
  clear d2 hM12 hM13 hM3 hO3 hF3 HO2 HG2 B2 B4 HZ1 HM1 HS
  go_wp2_with fail
  have b5 := Boxed.new v3 38 (.slice a5 ts.length c5)
  have hm4 : Mod (fun _ => False) v3 (v3.alloc (.cells #[.slice a5 ts.length c5] 38)) := (Mod.refl _ v3).alloc _
  have hz4 : v3.heap.size < (v3.alloc (.cells #[.slice a5 ts.length c5] 38)).heap.size := by simp
  obtain ⟨v4, hv4⟩ : ∃ v4, v4 = v3.alloc (.cells #[.slice a5 ts.length c5] 38) := ⟨_, rfl⟩
  rw [← hv4] at b5 hm4 hz4 ⊢
  clear hv4
  have C2 := Lib.hid (bx_mod B2'.out hm4 id)
  have C4 := Lib.hid (bx_mod B4'.out hm4 id)
  have HM4 := Lib.hid (HM3.out.trans hm4)
  have HL4 := Lib.hid (HL.out.mod hm4 (fun _ _ => id))
  have HLN : Hid (∀ b, blk a5 = some b → b < v3.heap.size) := HL.out.lt
  obtain ⟨g5, hg5⟩ : ∃ g5, g5 = v3.heap.size := ⟨_, rfl⟩
  rw [← hg5] at b5 hz4 HZ3 HLN ⊢
  have C5 := Lib.hid b5
  have HZ4 := Lib.hid hz4
  clear hg5 b5 hz4 hm4 B2' B4' HM3 HL
  have d2 := C2.out.cell
  have d5 := C5.out.cell
  refine (HN.out _ _).mono ?_
  rintro e w' ⟨rfl, rfl⟩
  by_cases he : er = 0
  · subst he
    have HPB' := Lib.hid (HPB.out rfl)
    have HPD' := Lib.hid (HPD.out rfl)
    clear HPA HPB HPD
    go_wp2
    go_loopw [8, 9] (fun lv iv wr => ∃ (k : Nat) (la : Int), lv = .int .i64 la ∧ iv = .int .i64 k ∧ k ≤ ts.length ∧ Hid (∃ j : Nat, la + 1 = j ∧ j ≤ l1.length ∧ Rises l1.length j (ts.drop k)) ∧ Hid (Mod (fun _ => False) v4 wr)) (fun _ iv _ => ts.length - (intOf iv).toNat)
    case atStart => exact ⟨0, -1, rfl, rfl, by omega, Lib.hid ⟨0, rfl, by omega, HPB'.out⟩, Lib.hid (Mod.refl _ v4)⟩
    case round =>
      obtain ⟨k, la, rfl, rfl, hk, hri, hM⟩ := hrel
      have e5 := hM.out.cell d5 id
      have e2 := hM.out.cell d2 id
      by_cases hlt : k < ts.length
      · obtain ⟨gL, rfl, x0, x1, x2⟩ := own_cell3 (HL4.out.mod hM.out (fun _ _ => id)) hlt
        obtain ⟨j, hj, hjn, hr⟩ := hri.out
        rw [List.drop_eq_getElem_cons hlt] at hr
        obtain ⟨q1, q2, q3, q4, q5⟩ := hr
        have HQ := Lib.hid q5
        clear q5 x1 d2 d5 hri
        generalize ts[k].at_ = ta at *
        generalize ts[k].kind = tk at *
        have t1 : decide ((ta : Int) ≤ la) = false := by simp; omega
        have t2 : decide (l1.length ≤ ta) = false := by simp; omega
        have t3 : decide ((tk : Int) < 1) = false := by simp; omega
        have t3' : decide (tk < 1) = false := by simp; omega
        have t3'' : decide (tk = 0) = false := by simp; omega
        have t4 : decide ((13 : Int) < (tk : Int)) = false := by simp; omega
        have t4' : decide (13 < tk) = false := by simp; omega
        go_wp2_with fail
        refine wp_region_ord (fun w' => w'.cell? ⟨g5, 0, none⟩ = some (.slice (some ⟨gL, 0, none⟩) ts.length c5) ∧ w'.cell? ⟨w.heap.size, 0, none⟩ = some (.slice a1 l1.length c1) ∧ w'.cell? ⟨gL, k * 3, none⟩ = some (.int .i64 tk) ∧ w'.cell? ⟨gL, k * 3 + 2, none⟩ = some (.int .i64 ta)) [(1, 0), (0, 1), (0, 2), (0, 3), (1, 4), (0, 5), (0, 6), (0, 7), (1, 8), (0, 9), (0, 10), (0, 11), (1, 12), (1, 13), (0, 14), (0, 15), (0, 16), (0, 17), (1, 18), (0, 19), (0, 20), (0, 21), (1, 22), (0, 23), (0, 24), (0, 25), (1, 26), (0, 27), (0, 28), (0, 29), (1, 30), (0, 31), (0, 32)] (by kernel_rfl) (by kernel_rfl) ?_
        go_wp2_with (first
          | (refine ord_pure rfl rfl rfl (fun K hK => ?_); go_big_quiet_op; refine hK _ ?_; clear hK K)
                        | (refine ord_skip rfl rfl ?_; simp only [Act.put, List.setIfInBounds_toArray, List.set_cons_zero, List.set_cons_succ])
                        | (refine ord_held rfl rfl rfl (⟨by simpa using e5, by simpa using e2, by simpa using x0, by simpa using x2⟩) (fun K hK => ?_); apply Exists.intro; refine ⟨fun w' hs => ?_, hK _ ?_⟩; (revert hs; dsimp only; (try simp only [and_imp]); intros; go_simp; rfl); clear hK K)
                        | (refine ord_keep rfl rfl (⟨by simpa using e5, by simpa using e2, by simpa using x0, by simpa using x2⟩) (fun K hK => ?_))
                        | (refine ord_drop rfl rfl (fun K hK => ?_))
                        | (refine ord_nil ?_))
        go_roundw
        case rel => exact ⟨k + 1, ta, rfl, by go_num, hlt, Lib.hid ⟨ta + 1, by omega, by omega, HQ.out⟩, Lib.hid hM.out.drew⟩
        case measure => simp [intOf]; omega
      · obtain rfl : k = ts.length := by omega
        have D2 := Lib.hid (bx_mod C2.out hM.out id)
        have D4 := Lib.hid (bx_mod C4.out hM.out id)
        have D5 := Lib.hid (bx_mod C5.out hM.out id)
        have HM5 := Lib.hid (HM4.out.trans hM.out)
        have HL5 := Lib.hid (HL4.out.mod hM.out (fun _ _ => id))
        have HZ5 : Hid (g5 < wr.heap.size) := by have := HZ4.out; have := hM.out.size; unfold Hid; omega
        clear hri hM C2 C4 C5 HM4 HL4 HZ4 HPB' d2 d5
        obtain ⟨v5, hv5⟩ : ∃ v5, v5 = wr := ⟨_, rfl⟩
        rw [← hv5] at e5 e2 D2 D4 D5 HM5 HL5 HZ5 ⊢
        clear hv5 wr
        go_wp2
        go_loopw [10] (fun i wr => ∃ k : Nat, i = .int .i64 k ∧ k ≤ l1.length ∧ Hid (∀ (i : Nat) (h : i < l1.length), i < k → l1[i] ≠ 37) ∧ wr = v5) (fun i _ => l1.length - (intOf i).toNat)
        case atStart => exact ⟨0, rfl, by omega, Lib.hid (fun i h hi => by omega), rfl⟩
        case round =>
          obtain ⟨k, rfl, hk2, hno, rfl⟩ := hrel
          by_cases hlt2 : k < l1.length
          · obtain ⟨b, o, rfl, hc⟩ := (HR1.out.mod HM5.out (fun _ _ => id)) k (.int .u8 l1[k].toNat) (by simp [bts, hlt2])
            have HX : Hid (∀ x, x = l1[k] → x ≠ 37 → ∀ (i : Nat) (h : i < l1.length), i < k + 1 → l1[i] ≠ 37) := fun x hx hne i h hi => by
              by_cases hik : i < k
              · exact hno.out i h hik
              · obtain rfl : i = k := by omega
                rw [← hx]; exact hne
            obtain ⟨x, hx⟩ : ∃ x, x = l1[k] := ⟨_, rfl⟩
            rw [← hx] at hc
            have HX' := Lib.hid (HX.out x hx)
            clear hx HX hno
            by_cases h37 : x = 37
            · subst h37
              have f4 := D4.out.frozen
              have d4 := D4.out.cell
              go_wp2
              have c4 := (bx_put D4.out (.bool true)).cell
              refine ⟨.bool true, ?_, rfl, HM5.out.setCell (fun h => by simp at h; omega) _⟩
              simp [results, Tryd.f6, go_sem, c4]
            · have hb : x.toNat ≠ 37 := fun h => h37 (UInt8.toNat_inj.1 (by rw [h]; rfl))
              have HX2 := Lib.hid (HX'.out h37)
              clear HX'
              go_wp2
              go_roundw
              case rel => exact ⟨k + 1, by go_num, hlt2, HX2, trivial⟩
              case measure => simp [intOf]; omega
          · obtain rfl : k = l1.length := by omega
            have HNO : Hid (∀ (i : Nat) (h : i < l1.length), l1[i] ≠ 37) := fun i h => hno.out i h h
            clear hno e5
            have d2 : (wr.alloc (.cells #[] 5)).cell? ⟨w.heap.size, 0, none⟩ = some (.slice a1 l1.length c1) := ((Mod.refl (fun _ => False) wr).alloc _).cell D2.out.cell id
            by_cases hbig : 65536 < l1.length + 1 + l2.length
            · skip
              go_wp2_with (first
                | (at_builtin; refine wpL_append rfl (.tmp 96) (.tmp 97) 22 22 rfl ti24 rfl (Mine.Own.made _ 5 1 #[] 0 0 (by omega) (by unfold maxLen; omega) rfl) rfl (Src.ofRd ti24.ht l1.length c1 (HR1.out.mod (HM5.out.alloc _) (fun _ _ => id)) (by simp) (bts_one l1)) (by omega) (by unfold maxLen; omega) ?_; intro a6 c6 v6 hO6 hG6 _
                   simp only [Nat.zero_add, List.take_nil, List.nil_append, Nat.zero_mul] at hO6
                   simp only [Nat.zero_add]
                   have HO6 := Lib.hid hO6; have HG6 := Lib.hid hG6; clear hO6 hG6)
                | (at_builtin; refine wpL_appendN (us := [_]) rfl (.tmp 98) (.tmp 99) 22 rfl ti24 rfl HO6.out rfl rfl rfl (by omega) (by unfold maxLen; omega) ?_; intro a7 c7 v7 hO7 hG7 _
                   have HO7 := Lib.hid hO7
                   have HM7 := Lib.hid (grow_mod0 ((Mod.refl (fun _ => False) wr).alloc _) (HG6.out.trans hG7) (Nat.le_refl _))
                   have HG7 := Lib.hid (HG6.out.trans hG7)
                   clear hO7 hG7 HO6 HG6)
                | (at_builtin; refine wpL_append rfl (.tmp 100) (.tmp 101) 22 22 rfl ti24 rfl HO7.out rfl (Src.ofRd ti24.ht l2.length c2 (HR2.out.mod (HM5.out.trans HM7.out) (fun _ _ => id)) (by simp) (bts_one l2)) (by omega) (by unfold maxLen; omega) ?_; intro a8 c8 v8 hO8 hG8 _
                   have hO8' : Mine.Own v8 5 1 a8 (l1.length + 1 + l2.length) c8 (bts (l1 ++ 32 :: l2)) := by
                     have e : bts (l1 ++ 32 :: l2) = bts l1 ++ [.int .u8 32] ++ bts l2 := by simp [bts]
                     rw [e]; exact hO8
                   have HO8 := Lib.hid hO8'
                   have hM8 := grow_mod0 ((Mod.refl (fun _ => False) wr).alloc _) (HG7.out.trans hG8) (Nat.le_refl _)
                   clear hO8 hG8 hO8' HO7 HG7 HM7 d2
                   have E2 := Lib.hid (bx_mod D2.out hM8 id)
                   have E4 := Lib.hid (bx_mod D4.out hM8 id)
                   have E5 := Lib.hid (bx_mod D5.out hM8 id)
                   have HL8 := Lib.hid (HL5.out.mod hM8 (fun _ _ => id))
                   have HM8 := Lib.hid (HM5.out.trans hM8)
                   have HZ8 : Hid (g5 < v8.heap.size) := Nat.lt_of_lt_of_le HZ5.out hM8.size
                   have f4 := E4.out.frozen
                   have d4 := E4.out.cell
                   clear hM8))
              have c4 := (bx_put E4.out (.bool true)).cell
              refine ⟨.bool true, ?_, rfl, HM8.out.setCell (fun h => by simp at h; omega) _⟩
              simp [results, Tryd.f6, go_sem, c4]
            · skip
              go_wp2_with (first
                | (at_builtin; refine wpL_append rfl (.tmp 96) (.tmp 97) 22 22 rfl ti24 rfl (Mine.Own.made _ 5 1 #[] 0 0 (by omega) (by unfold maxLen; omega) rfl) rfl (Src.ofRd ti24.ht l1.length c1 (HR1.out.mod (HM5.out.alloc _) (fun _ _ => id)) (by simp) (bts_one l1)) (by omega) (by unfold maxLen; omega) ?_; intro a6 c6 v6 hO6 hG6 _
                   simp only [Nat.zero_add, List.take_nil, List.nil_append, Nat.zero_mul] at hO6
                   simp only [Nat.zero_add]
                   have HO6 := Lib.hid hO6; have HG6 := Lib.hid hG6; clear hO6 hG6)
                | (at_builtin; refine wpL_appendN (us := [_]) rfl (.tmp 98) (.tmp 99) 22 rfl ti24 rfl HO6.out rfl rfl rfl (by omega) (by unfold maxLen; omega) ?_; intro a7 c7 v7 hO7 hG7 _
                   have HO7 := Lib.hid hO7
                   have HM7 := Lib.hid (grow_mod0 ((Mod.refl (fun _ => False) wr).alloc _) (HG6.out.trans hG7) (Nat.le_refl _))
                   have HG7 := Lib.hid (HG6.out.trans hG7)
                   clear hO7 hG7 HO6 HG6)
                | (at_builtin; refine wpL_append rfl (.tmp 100) (.tmp 101) 22 22 rfl ti24 rfl HO7.out rfl (Src.ofRd ti24.ht l2.length c2 (HR2.out.mod (HM5.out.trans HM7.out) (fun _ _ => id)) (by simp) (bts_one l2)) (by omega) (by unfold maxLen; omega) ?_; intro a8 c8 v8 hO8 hG8 _
                   have hO8' : Mine.Own v8 5 1 a8 (l1.length + 1 + l2.length) c8 (bts (l1 ++ 32 :: l2)) := by
                     have e : bts (l1 ++ 32 :: l2) = bts l1 ++ [.int .u8 32] ++ bts l2 := by simp [bts]
                     rw [e]; exact hO8
                   have HO8 := Lib.hid hO8'
                   have hM8 := grow_mod0 ((Mod.refl (fun _ => False) wr).alloc _) (HG7.out.trans hG8) (Nat.le_refl _)
                   clear hO8 hG8 hO8' HO7 HG7 HM7 d2
                   have E2 := Lib.hid (bx_mod D2.out hM8 id)
                   have E4 := Lib.hid (bx_mod D4.out hM8 id)
                   have E5 := Lib.hid (bx_mod D5.out hM8 id)
                   have HL8 := Lib.hid (HL5.out.mod hM8 (fun _ _ => id))
                   have HM8 := Lib.hid (HM5.out.trans hM8)
                   have HZ8 : Hid (g5 < v8.heap.size) := Nat.lt_of_lt_of_le HZ5.out hM8.size
                   have f4 := E4.out.frozen
                   have d4 := E4.out.cell
                   clear hM8))
              have HRL := Lib.hid (HPD'.out l2 HNO.out (by omega))
              have b12 := Boxed.new v8 3 (.int .i64 0)
              have hm9 : Mod (fun _ => False) v8 (v8.alloc (.cells #[.int .i64 0] 3)) := (Mod.refl _ v8).alloc _
              have hz9 : (v8.alloc (.cells #[.int .i64 0] 3)).heap.size = v8.heap.size + 1 := by simp
              obtain ⟨v9, hv9⟩ : ∃ v9, v9 = v8.alloc (.cells #[.int .i64 0] 3) := ⟨_, rfl⟩
              rw [← hv9] at b12 hm9 hz9 ⊢
              clear hv9
              obtain ⟨L, hLe⟩ : ∃ L, L = l1 ++ 32 :: l2 := ⟨_, rfl⟩
              have HLe := Lib.hid hLe
              have HR9 := Lib.hid (HO8.out.rd.mod hm9 (fun _ _ => id))
              rw [← hLe] at HR9
              have hLn : L.length = l1.length + 1 + l2.length := by rw [hLe, List.length_append, List.length_cons]; omega
              clear hLe
              refine (each_n L _ hLn a8 c8 v9 HR9.out).mono ?_
              rintro e v10 ⟨rfl, hw10⟩
              have hm10 : Mod (fun _ => False) v9 v10 := by rw [hw10]; exact (Mod.refl _ v9).alloc _
              have hB : v10.heap[v9.heap.size]? = some (.cells #[.string ⟨L.toArray⟩] 9 (0, 0)) := by rw [hw10]; exact heap_alloc_new v9 _
              have hz10 : v10.heap.size = v9.heap.size + 1 := by rw [hw10]; simp
              have hm := hm9.trans hm10
              have F2 := Lib.hid (bx_mod E2.out hm id)
              have F4 := Lib.hid (bx_mod E4.out hm id)
              have F5 := Lib.hid (bx_mod E5.out hm id)
              have F12 := Lib.hid (bx_mod b12 hm10 id)
              have HLA := Lib.hid (HL8.out.mod hm (fun _ _ => id))
              have HMA := Lib.hid (HM8.out.trans hm)
              have HTA := Lib.hid (tabs_mod HT.out HMA.out)
              have HB := Lib.hid hB
              obtain ⟨gT, hgT⟩ : ∃ gT, gT = v9.heap.size := ⟨_, rfl⟩
              obtain ⟨gN, hgN⟩ : ∃ gN, gN = v8.heap.size := ⟨_, rfl⟩
              rw [← hgT] at HB hz9 hz10 ⊢
              rw [← hgN] at F12 hz9 ⊢
              have HG : Hid (g5 < gN ∧ gT = gN + 1 ∧ v10.heap.size = gT + 1) := ⟨by have := HZ8.out; rw [hgN]; exact this, hz9, hz10⟩
              clear hgT hgN hw10 hm10 hB hz10 hm hm9 hz9 b12 E2 E4 E5 HL8 HM8 D2 D4 D5 HM5 HL5 HZ5 HZ8 d4 f4 e2 HR9 HO8 HPD' HNO
              go_wp2_with fail
              refine (wpIn_wide (n := 3)).1 ?_
              have hww : w.heap.size + 4 ≤ v10.heap.size := by have := HG.out; have := HZ3.out; omega
              have hI0 : PlI w g5 gN l1.length a1 c1 a5 c5 ts [] v10 := ⟨F2.out, F4.out, F5.out, F12.out, Nat.zero_le _, HLA.out, HMA.out, by have := HG.out; omega⟩
              have HI0 := Lib.hid hI0
              have hKb := KpL.putObj (w := v10) (B := gT) (by have := HG.out; omega) (tabs_lt HTA.out)
              have hSeq := each_stops 2 gT ⟨L.toArray⟩ v10 HB.out HTA.out (tabs_lt HTA.out) (show L.length < 2 ^ 30 by omega)
              clear hI0 F2 F4 F5 F12
              refine name_frame (fun T hT => ?_)
              refine wpIn_rangeFunc_ownH rfl (by omega) (gf := 21) (lb := #[.pointer (some ⟨gT, 0, none⟩)]) (by rw [hT]; rfl) trivial (enters_of Tryd.func21 (by kernel_rfl) rfl)
                hSeq (fun h k => KpL.trans h k) hKb (Below.refl _ _) (fun _ => rfl) (PlI w g5 gN l1.length a1 c1 a5 c5 ts) (PlX w (seqOf (foundL ⟨L.toArray⟩))) (plI_own _ (by omega)) (fun c => plX_own c _ (by omega)) HI0.out
                (fun x a' W => ∃ Bx, gN + 2 ≤ Bx ∧ W.heap[Bx]? = some (.cells (tokC x.1).toArray 32 (0, 0)) ∧ a' = { tmps := (((T.setIfInBounds 108 (encT x.1)).setIfInBounds 109 (.int .i64 x.2)).setIfInBounds 13 (.pointer (some ⟨Bx, 0, none⟩))).setIfInBounds 14 (.int .i64 x.2), defers := [] })
                (fun x a' _ X Y row hs hg hr => by obtain ⟨Bx, h1, h2, h3⟩ := hs; exact ⟨Bx, h1, (Mod.ofGrown hg).at h2 (fun hs => cells_ne (fun r e => (hr r e).2) h2 hs), h3⟩)
                ?assign ?body ?done ?stop
              case assign =>
                rintro l0 pre x W K hi hK
                obtain ⟨⟨xk, xt, xa⟩, xe⟩ := x
                have HW : Hid (gN + 2 ≤ W.heap.size) := hi.2.2.2.2.2.2.2
                have HK := Lib.hid hK
                have HI := Lib.hid hi
                clear hi hK hKb hSeq
                subst hT
                simp only [encI, encT]
                gi_wp2
                have h2w := H2w.out
                have hG := HG.out
                have h3 := HZ3.out
                have hW := HW.out
                refine HK.out _ _ ((KeepsOthers.alloc _ _).from _) (KpL.of_mod ((Mod.refl (fun _ => False) W).alloc _) (by omega) (by omega) id id id (fun _ _ _ h => h.elim))
                  ((plI_own w.heap.size (Nat.le_refl _)).alloc _ HI.out) ⟨W.heap.size, hW, heap_alloc_new W _, ?_⟩
                simp only [encT, List.setIfInBounds_toArray, List.set_cons_succ, List.set_cons_zero]
              case body =>
                rintro l0 pre x a' W hl1 ⟨rc, hrc⟩ hi ⟨Bx, hBx, hbx, rfl⟩ hlt
                obtain ⟨h1, h2, h3, h4, h5, h6, h7, h8⟩ := hi
                obtain ⟨⟨xk, xt, xa⟩, xe⟩ := x
                have dx0 : W.cell? ⟨Bx, 0, none⟩ = some (.int .i64 xk) := cell_at hbx rfl
                have dx1 : W.cell? ⟨Bx, 1, none⟩ = some (.string xt) := cell_at hbx rfl
                have dx2 : W.cell? ⟨Bx, 2, none⟩ = some (.int .i64 xa) := cell_at hbx rfl
                have d2 := h1.cell
                have f4 := h2.frozen
                have d4 := h2.cell
                have d5 := h3.cell
                have d12 := h4.cell
                have f12 := h4.frozen
                have H1 := Lib.hid h1; have H2b := Lib.hid h2; have H3 := Lib.hid h3; have H4 := Lib.hid h4; have H6 := Lib.hid h6; have H7 := Lib.hid h7; have H8 := Lib.hid h8
                have HRC := Lib.hid hrc; have HBX := Lib.hid hbx
                clear h1 h2 h3 h4 h6 h7 h8 hrc hbx hKb hSeq hlt
                subst hT
                simp only [encT, List.setIfInBounds_toArray, List.set_cons_succ, List.set_cons_zero]
                by_cases hn : pre.length = ts.length
                · rw [hn] at d12
                  have HNE := Lib.hid hn
                  clear f12 H4 H3 H1 H6
                  by_cases hgt : l1.length < xa
                  · by_cases hxe : xe = 0
                    · subst hxe
                      gi_wp2_with fail
                      refine CallsIn.mono (CallsIn.inRound l0 (callsIn_wide.2 (HN.out _ _))) ?_
                      rintro e w' ⟨rfl, rfl⟩
                      gi_wp2_with fail
                      all_goals first | (exfalso; rename_i h _; exact absurd (Option.some.inj h) (by unfold undef; intro hh; cases hh)) | skip
                      have hMv : Mod (fun k => k = w.heap.size + 1) W (W.setCell ⟨w.heap.size + 1, 0, none⟩ (.bool true)) := Mine.Mod.setCell (S := fun k => k = w.heap.size + 1) (p := ⟨w.heap.size + 1, 0, none⟩) (Mod.refl _ W) (fun _ => rfl) _
                      refine ⟨keepsFrom_mod hMv ?_, rfl, H7.out.step hMv (fun i hi hs => by omega), true, bx_put H2b.out _, ?_⟩
                      · rintro k rfl o ho; have := H2b.out; unfold Boxed at this; rw [this] at ho; cases ho; rfl
                      · exact fun _ => rfl
                    · have hxb : ((xe : Int) != 0) = true := by simp; omega
                      have hxc : ((xe : Int) == 0) = false := by simp; omega
                      gi_wp2_with fail
                      refine CallsIn.mono (CallsIn.inRound l0 (callsIn_wide.2 (HN.out _ _))) ?_
                      rintro e w' ⟨rfl, rfl⟩
                      gi_wp2_with fail
                      refine CallsIn.mono (CallsIn.inRound l0 (callsIn_wide.2 (HN.out _ _))) ?_
                      rintro e w' ⟨rfl, rfl⟩
                      gi_wp2_with fail
                      have hMv : Mod (fun k => k = w.heap.size + 1) W (W.setCell ⟨w.heap.size + 1, 0, none⟩ (.bool true)) := Mine.Mod.setCell (S := fun k => k = w.heap.size + 1) (p := ⟨w.heap.size + 1, 0, none⟩) (Mod.refl _ W) (fun _ => rfl) _
                      refine ⟨keepsFrom_mod hMv ?_, rfl, H7.out.step hMv (fun i hi hs => by omega), true, bx_put H2b.out _, ?_⟩
                      · rintro k rfl o ho; have := H2b.out; unfold Boxed at this; rw [this] at ho; cases ho; rfl
                      · exact fun _ => rfl
                  · have himp : pre ++ [(⟨xk, xt, xa⟩, xe)] <+: seqOf (foundL ⟨L.toArray⟩) → false = true := fun h => by
                      obtain ⟨r, hr, hr2⟩ := HRL.out
                      rw [HLe.out, hr] at h
                      exact absurd (hr2 _ (pl_tail h HNE.out)) hgt
                    have HIMP := Lib.hid himp
                    clear himp
                    by_cases hxe : xe = 0
                    · subst hxe
                      gi_wp2_with fail
                      refine CallsIn.mono (CallsIn.inRound l0 (callsIn_wide.2 (HN.out _ _))) ?_
                      rintro e w' ⟨rfl, rfl⟩
                      gi_wp2_with fail
                      refine CallsIn.mono (CallsIn.inRound l0 (callsIn_wide.2 (HN.out _ _))) ?_
                      rintro e w' ⟨rfl, rfl⟩
                      gi_wp2_with fail
                      have hMv : Mod (fun k => k = w.heap.size + 1) W (W.setCell ⟨w.heap.size + 1, 0, none⟩ (.bool false)) := Mine.Mod.setCell (S := fun k => k = w.heap.size + 1) (p := ⟨w.heap.size + 1, 0, none⟩) (Mod.refl _ W) (fun _ => rfl) _
                      refine ⟨keepsFrom_mod hMv ?_, rfl, H7.out.step hMv (fun i hi hs => by omega), false, bx_put H2b.out _, ?_⟩
                      · rintro k rfl o ho; have := H2b.out; unfold Boxed at this; rw [this] at ho; cases ho; rfl
                      · exact HIMP.out
                    · have hxb : ((xe : Int) != 0) = true := by simp; omega
                      have hxc : ((xe : Int) == 0) = false := by simp; omega
                      gi_wp2_with fail
                      refine CallsIn.mono (CallsIn.inRound l0 (callsIn_wide.2 (HN.out _ _))) ?_
                      rintro e w' ⟨rfl, rfl⟩
                      gi_wp2_with fail
                      refine CallsIn.mono (CallsIn.inRound l0 (callsIn_wide.2 (HN.out _ _))) ?_
                      rintro e w' ⟨rfl, rfl⟩
                      gi_wp2_with fail
                      have hMv : Mod (fun k => k = w.heap.size + 1) W (W.setCell ⟨w.heap.size + 1, 0, none⟩ (.bool false)) := Mine.Mod.setCell (S := fun k => k = w.heap.size + 1) (p := ⟨w.heap.size + 1, 0, none⟩) (Mod.refl _ W) (fun _ => rfl) _
                      refine ⟨keepsFrom_mod hMv ?_, rfl, H7.out.step hMv (fun i hi hs => by omega), false, bx_put H2b.out _, ?_⟩
                      · rintro k rfl o ho; have := H2b.out; unfold Boxed at this; rw [this] at ho; cases ho; rfl
                      · exact HIMP.out
                · have hnl : pre.length < ts.length := by omega
                  by_cases hxe : xe = 0
                  · subst hxe
                    obtain ⟨gL, rfl, y0, y1, y2⟩ := own_cell3 H6.out hnl
                    by_cases heq : (⟨xk, xt, xa⟩ : Tok) = ts[pre.length]
                    · rw [← heq] at y0 y1 y2
                      simp only at y0 y1 y2
                      clear heq
                      gi_wp2_with fail
                      refine wpIn_region_ord (fun w' => (w'.cell? ⟨Bx, 0, none⟩ = some (.int .i64 xk) ∧ w'.cell? ⟨Bx, 1, none⟩ = some (.string xt) ∧ w'.cell? ⟨Bx, 2, none⟩ = some (.int .i64 xa)) ∧ (w'.cell? ⟨g5, 0, none⟩ = some (.slice (some ⟨gL, 0, none⟩) ts.length c5) ∧ w'.cell? ⟨gN, 0, none⟩ = some (.int .i64 pre.length)) ∧ (w'.cell? ⟨gL, pre.length * 3, none⟩ = some (.int .i64 xk) ∧ w'.cell? ⟨gL, pre.length * 3 + 1, none⟩ = some (.string xt) ∧ w'.cell? ⟨gL, pre.length * 3 + 2, none⟩ = some (.int .i64 xa))) [(0, 0), (3, 1), (0, 2), (0, 3), (1, 4), (1, 5), (1, 6), (0, 7), (1, 8), (0, 9), (0, 10)] (by kernel_rfl) (by kernel_rfl) (by kernel_rfl) ?_
                      go_wp2_with (first
                        | (refine ord_pure rfl rfl rfl (fun K hK => ?_); go_big_quiet_op; refine hK _ ?_; clear hK K)
                        | (refine ord_skip rfl rfl ?_; simp only [Act.put, List.setIfInBounds_toArray, List.set_cons_zero, List.set_cons_succ])
                        | (refine ord_held rfl rfl rfl (⟨⟨by simpa using dx0, by simpa using dx1, by simpa using dx2⟩, ⟨by simpa using d5, by simpa using d12⟩, ⟨by simpa using y0, by simpa using y1, by simpa using y2⟩⟩) (fun K hK => ?_); apply Exists.intro; refine ⟨fun w' hs => ?_, hK _ ?_⟩; (revert hs; dsimp only; (try simp only [and_imp]); intros; go_simp; rfl); clear hK K)
                        | (refine ord_keep rfl rfl (⟨⟨by simpa using dx0, by simpa using dx1, by simpa using dx2⟩, ⟨by simpa using d5, by simpa using d12⟩, ⟨by simpa using y0, by simpa using y1, by simpa using y2⟩⟩) (fun K hK => ?_))
                        | (refine ord_drop rfl rfl (fun K hK => ?_))
                        | (refine ord_nil ?_)
                        | (go_at_call 12; refine (HN.out _ _).mono ?_; rintro e w' ⟨rfl, rfl⟩))
                      gi_wp2
                      have hMv : Mod (fun k => k = gN) W (W.setCell ⟨gN, 0, none⟩ (.int .i64 ((pre.length : Int) + 1))).drew := (Mine.Mod.setCell (S := fun k => k = gN) (p := ⟨gN, 0, none⟩) (Mod.refl _ W) (fun _ => rfl) _).drew
                      have hG := HG.out
                      have h3 := HZ3.out
                      have h8 := H8.out
                      have h2w := H2w.out
                      have hb12 : Boxed (W.setCell ⟨gN, 0, none⟩ (.int .i64 ((pre.length : Int) + 1))).drew gN 3 (.int .i64 ((pre ++ [((⟨xk, xt, xa⟩ : Tok), 0)]).length : Nat)) := by
                        have e : (((pre ++ [((⟨xk, xt, xa⟩ : Tok), 0)]).length : Nat) : Int) = (pre.length : Int) + 1 := by simp
                        rw [e]; exact bx_put H4.out _
                      refine ⟨keepsFrom_mod hMv ?_, KpL.of_mod hMv (by omega) (by omega) (by omega) (by omega) (by omega) ?_, bx_mod H1.out hMv (by omega), bx_mod H2b.out hMv (by omega), bx_mod H3.out hMv (by omega), hb12, by simp; omega, H6.out.mod hMv (fun b hb => by have := HLN.out b hb; omega), H7.out.step hMv (fun i hi hs => by omega), Nat.le_trans h8 hMv.size⟩
                      · rintro k rfl o ho; have := H4.out; unfold Boxed at this; rw [this] at ho; cases ho; rfl
                      · rintro k cs fz rfl he; have := H4.out; unfold Boxed at this; rw [this] at he; cases he
                    · have HIMP : Hid (pre ++ [((⟨xk, xt, xa⟩ : Tok), 0)] <+: seqOf (foundL ⟨L.toArray⟩) → false = true) := fun h => by
                        obtain ⟨r, hr, hr2⟩ := HRL.out
                        rw [HLe.out, hr] at h
                        exact absurd (congrArg Prod.fst (pl_head h hnl)) heq
                      have hne := tok_ne ⟨xk, xt, xa⟩ ts[pre.length] heq
                      clear heq
                      generalize ts[pre.length] = y at *
                      simp only at hne
                      gi_wp2_with fail
                      refine wpIn_region_ord (fun w' => (w'.cell? ⟨Bx, 0, none⟩ = some (.int .i64 xk) ∧ w'.cell? ⟨Bx, 1, none⟩ = some (.string xt) ∧ w'.cell? ⟨Bx, 2, none⟩ = some (.int .i64 xa)) ∧ (w'.cell? ⟨g5, 0, none⟩ = some (.slice (some ⟨gL, 0, none⟩) ts.length c5) ∧ w'.cell? ⟨gN, 0, none⟩ = some (.int .i64 pre.length)) ∧ (w'.cell? ⟨gL, pre.length * 3, none⟩ = some (.int .i64 y.kind) ∧ w'.cell? ⟨gL, pre.length * 3 + 1, none⟩ = some (.string y.text) ∧ w'.cell? ⟨gL, pre.length * 3 + 2, none⟩ = some (.int .i64 y.at_))) [(0, 0), (3, 1), (0, 2), (0, 3), (1, 4), (1, 5), (1, 6), (0, 7), (1, 8), (0, 9), (0, 10)] (by kernel_rfl) (by kernel_rfl) (by kernel_rfl) ?_
                      go_wp2_with (first
                        | (refine ord_pure rfl rfl rfl (fun K hK => ?_); go_big_quiet_op; refine hK _ ?_; clear hK K)
                        | (refine ord_skip rfl rfl ?_; simp only [Act.put, List.setIfInBounds_toArray, List.set_cons_zero, List.set_cons_succ])
                        | (refine ord_held rfl rfl rfl (⟨⟨by simpa using dx0, by simpa using dx1, by simpa using dx2⟩, ⟨by simpa using d5, by simpa using d12⟩, ⟨by simpa using y0, by simpa using y1, by simpa using y2⟩⟩) (fun K hK => ?_); apply Exists.intro; refine ⟨fun w' hs => ?_, hK _ ?_⟩; (revert hs; dsimp only; (try simp only [and_imp]); intros; go_simp; rfl); clear hK K)
                        | (refine ord_keep rfl rfl (⟨⟨by simpa using dx0, by simpa using dx1, by simpa using dx2⟩, ⟨by simpa using d5, by simpa using d12⟩, ⟨by simpa using y0, by simpa using y1, by simpa using y2⟩⟩) (fun K hK => ?_))
                        | (refine ord_drop rfl rfl (fun K hK => ?_))
                        | (refine ord_nil ?_)
                        | (go_at_call 12; refine (HN.out _ _).mono ?_; rintro e w' ⟨rfl, rfl⟩))
                      gi_wp2
                      have hMv : Mod (fun k => k = w.heap.size + 1) W (W.setCell ⟨w.heap.size + 1, 0, none⟩ (.bool false)).drew := (Mine.Mod.setCell (S := fun k => k = w.heap.size + 1) (p := ⟨w.heap.size + 1, 0, none⟩) (Mod.refl _ W) (fun _ => rfl) _).drew
                      refine ⟨keepsFrom_mod hMv ?_, rfl, H7.out.step hMv (fun i hi hs => by omega), false, bx_put H2b.out _, HIMP.out⟩
                      rintro k rfl o ho; have := H2b.out; unfold Boxed at this; rw [this] at ho; cases ho; rfl
                  · have HIMP : Hid (pre ++ [((⟨xk, xt, xa⟩ : Tok), xe)] <+: seqOf (foundL ⟨L.toArray⟩) → false = true) := fun h => by
                      obtain ⟨r, hr, hr2⟩ := HRL.out
                      rw [HLe.out, hr] at h
                      exact absurd (congrArg Prod.snd (pl_head h hnl)) hxe
                    have hxb : ((xe : Int) != 0) = true := by simp; omega
                    gi_wp2_with fail
                    refine wpIn_region_ord (fun w' => True) [(0, 0), (3, 1), (0, 2), (0, 3), (1, 4), (1, 5), (1, 6), (0, 7), (1, 8), (0, 9), (0, 10)] (by kernel_rfl) (by kernel_rfl) (by kernel_rfl) ?_
                    go_wp2_with (first
                      | (refine ord_pure rfl rfl rfl (fun K hK => ?_); go_big_quiet_op; refine hK _ ?_; clear hK K)
                        | (refine ord_skip rfl rfl ?_; simp only [Act.put, List.setIfInBounds_toArray, List.set_cons_zero, List.set_cons_succ])
                        | (refine ord_held rfl rfl rfl (trivial) (fun K hK => ?_); apply Exists.intro; refine ⟨fun w' hs => ?_, hK _ ?_⟩; (revert hs; dsimp only; (try simp only [and_imp]); intros; go_simp; rfl); clear hK K)
                        | (refine ord_keep rfl rfl (trivial) (fun K hK => ?_))
                        | (refine ord_drop rfl rfl (fun K hK => ?_))
                        | (refine ord_nil ?_)
                      | (go_at_call 12; refine (HN.out _ _).mono ?_; rintro e w' ⟨rfl, rfl⟩))
                    gi_wp2
                    have hMv : Mod (fun k => k = w.heap.size + 1) W (W.setCell ⟨w.heap.size + 1, 0, none⟩ (.bool false)).drew := (Mine.Mod.setCell (S := fun k => k = w.heap.size + 1) (p := ⟨w.heap.size + 1, 0, none⟩) (Mod.refl _ W) (fun _ => rfl) _).drew
                    refine ⟨keepsFrom_mod hMv ?_, rfl, H7.out.step hMv (fun i hi hs => by omega), false, bx_put H2b.out _, HIMP.out⟩
                    rintro k rfl o ho; have := H2b.out; unfold Boxed at this; rw [this] at ho; cases ho; rfl
              case done =>
                rintro D xs W hD rfl hi hK
                obtain ⟨h1, h2, h3, h4, h5, h6, h7, h8⟩ := hi
                have hxl : (seqOf (foundL ⟨L.toArray⟩)).length = ts.length := by
                  obtain ⟨r, hr, _⟩ := HRL.out
                  have hLL := HLe.out
                  rw [← hLL] at hr
                  have h5' := h5
                  rw [hr] at h5' ⊢
                  have : ts.length ≤ (seqOf (ts ++ r.1, r.2)).length := by unfold seqOf; simp
                  omega
                rw [hxl] at h4
                have d5 := h3.cell
                have d12 := h4.cell
                have f4 := h2.frozen
                have d4 := h2.cell
                have H2b := Lib.hid h2; have H7 := Lib.hid h7
                have HK := Lib.hid hK
                have HD := Lib.hid hD
                clear h1 h2 h3 h4 h5 h6 h7 hK hKb hSeq hD hxl
                subst hT
                go_wp2
                have hD := HD.out
                have r4 := bx_put H2b.out (.bool true)
                have hG := Mod.ofGrown (grownBy_putObj' (W.setCell ⟨w.heap.size + 1, 0, none⟩ (.bool true)) D (.deferred none))
                have hM : Mod (fun k => k = w.heap.size + 1) W (W.setCell ⟨w.heap.size + 1, 0, none⟩ (.bool true)) := Mine.Mod.setCell (S := fun k => k = w.heap.size + 1) (p := ⟨w.heap.size + 1, 0, none⟩) (Mod.refl _ W) (fun _ => rfl) _
                have hK' := hM.at HK.out (by omega)
                refine ⟨by simp, .inl ⟨_, _, rfl, run_takeDeferred hK', ?_⟩⟩
                have c4 := (bx_mod r4 hG (fun e => by cases e; omega)).cell
                have hMw := (H7.out.step hM (fun i hi hs => by omega)).step hG (fun i hi e => by cases e; omega)
                refine ⟨.bool true, ?_, rfl, hMw⟩
                simp [results, Tryd.f6, go_sem, c4]
              case stop =>
                rintro D cc pre W hD hpre ⟨rfl, h7, b, h1, himp⟩ hK
                obtain rfl : b = true := himp hpre
                have H1 := Lib.hid h1; have H7 := Lib.hid h7
                have HK := Lib.hid hK
                have HD := Lib.hid hD
                clear h1 h7 hK hKb hSeq hD hpre himp
                subst hT
                gi_wp2
                have hD := HD.out
                have hG := Mod.ofGrown (grownBy_putObj' W D (.deferred none))
                refine ⟨by simp, .inl ⟨_, _, rfl, run_takeDeferred HK.out, ?_⟩⟩
                have c4 := (bx_mod H1.out hG (fun e => by cases e; omega)).cell
                have hMw := H7.out.step hG (fun i hi e => by cases e; omega)
                refine ⟨.bool true, ?_, rfl, hMw⟩
                simp [results, Tryd.f6, go_sem, c4]
  · have hxb : ((er : Int) != 0) = true := by simp; omega
    obtain ⟨hp, rfl⟩ := HPA.out he
    have f4 := C4.out.frozen
    have d4 := C4.out.cell
    go_wp2
    have c4 := (bx_put C4.out (.bool true)).cell
    refine ⟨.bool true, ?_, rfl, HM4.out.setCell (fun h => by simp at h; omega) _⟩
    simp [results, Tryd.f6, go_sem, c4]
end Go.Proofs.YtgfekdebjafodaaDoor
