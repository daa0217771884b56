/-
  In a round of a range over a function: a region that draws its order, walked in one order; append to a slice of the call's own.
-/
import Derived.Test.YteecbbnpgmceiaaGreatDoorOrd
import Derived.RangeFuncNested
import Derived.RangeFuncBound
import Derived.RangeFuncCalls
import Derived.RangeFuncLeaves
import Derived.Shelf.Abstract
import Derived.Shelf.RegionOpen
import Derived.OwnWalkIn
import Derived.TacticsInMore
import Derived.LoopNIn
import Derived.LoopIn
import Derived.Test.YteecbbnpgmceiaaGreatDoorLexG
import Derived.Test.YteecbbnpgmceiaaGreatDoorWrdG
namespace Go.Mine
open Go Go.RowKit

/-- every activation's fence in a round: nothing is asked of a machine -/
abbrev inR (r : Nat) : Fence := Fence.wide.inRound r

section
variable {P : Program} {S : World → Prop} {Q : Exit → Act → World → Prop} {r n : Nat}
theorem rowsIn_of {row : String} {args : Array Value} {w : World} {R : Value → World → Prop} (h : Rows P row args w R) : RowsIn (inR r) n P row args w R := by
  intro c cs _
  obtain ⟨v, w', hR, hs⟩ := h c cs
  exact ⟨v, w', hR, stepsIn_wide.2 hs⟩
def noDefer (o : Oper) : Bool := match o.op with
  | .defer .. => false
  | _ => true
theorem semAt_noDefer {o : Oper} (h : noDefer o = true) (ρ : Operand → Value) (x : Option Nat) : o.semAt x ρ = execOp ρ o := by
  cases x with
  | none => rfl
  | some l =>
    refine Oper.semAt_some l ρ o fun c hc => ?_
    unfold noDefer at h
    rw [hc] at h
    cases h
/-- an operation goes in a round as anywhere -/
theorem oper_wpIn {o : Oper} (hd : noDefer o = true) {a : Act} {w : World} {K : Act → World → Prop} (h : o.wp P a w K (Strict Q)) : o.wpIn (inR r) n P a w K Q := by
  unfold Oper.wp at h
  refine ⟨fun _ _ => trivial, ?_⟩
  show o.uponIn (inR r) n P a K Q ((o.semAt (some r) a.eval).run P w)
  rw [semAt_noDefer hd]
  generalize (execOp a.eval o).run P w = x at *
  cases x with
  | ok y w' =>
    cases y <;> simp only [Oper.upon, Oper.uponIn] at *
    case value => exact h
    case skip => exact h
    case defer => exact h
    case enter =>
      refine ⟨fun h0 => ?_, CallsIn.inRound r (callsIn_wide.2 (h.mono ?_))⟩
      · cases h0
      · intro e w2 he
        cases e with
        | returned v => exact he
        | panicked c => exact (he : False).elim
        | outgrown => obtain ⟨a', w', hh⟩ := he; exact (hh : False).elim
    case row =>
      exact ⟨fun h0 => (by cases h0), rowsIn_of h⟩
  | halt y w' =>
    cases y <;> simp only [Oper.upon, Oper.uponIn] at *
    all_goals exact (h : False).elim
theorem wpOpsIn_of_wpOps {ops : Array Oper} (hd : ∀ (i : Nat) (o : Oper), ops[i]? = some o → noDefer o = true) : ∀ (l : List Nat) (a : Act) (w : World), wpOps P ops (Strict Q) l a w → wpOpsIn (inR r) n P ops Q l a w
  | [], a, w, h => h
  | i :: rest, a, w, h => by
    simp only [wpOps, wpOpsIn] at *
    cases ho : ops[i]? with
    | none => rw [ho] at h; exact wpOpsIn_of_wpOps hd rest a w h
    | some o =>
      rw [ho] at h
      simp only at *
      split
      · rename_i hw
        rw [if_pos hw] at h
        rcases h with h | ⟨_, a', w', hh⟩
        · exact Oper.wpIn_mono (fun a' w' h => wpOpsIn_of_wpOps hd rest a' w' h) (oper_wpIn (hd i o ho) h)
        · exact (hh : False).elim
      · rename_i hw
        rw [if_neg hw] at h
        exact ⟨fun _ _ => trivial, wpOpsIn_of_wpOps hd rest _ w h⟩
/-- A REGION THAT DRAWS ITS ORDER, in a round, walked in one order -/
theorem wpIn_region_ord {l : List Oper} {id : Nat} {a : Act} {w : World} (S : World → Prop) (ord : List (Nat × Nat)) (hm : P.follows .mixedOrders = true) (hB : ordOk l ord = true) (hD : l.all noDefer = true)
    (h : wpOrd P l S Q ord a w.drew) : (Code.region id l.toArray true).wpIn (inR r) n P Q a w := by
  simp only [ordOk, Bool.and_eq_true, beq_iff_eq, List.all_eq_true, decide_eq_true_eq] at hB hD
  obtain ⟨⟨⟨⟨⟨⟨⟨h1, h2⟩, h8⟩, h3⟩, h4⟩, h5⟩, h6⟩, h7⟩ := hB
  have := wpAny_of_ord (P := P) (S := S) (Q := Q) h1 h5 h6 ord.length ord (Array.replicate l.length false) a w.drew rfl ⟨by simp, h3, h4, fun i hi => ?_, fun k o hk => ?_, h7⟩ h
  · rw [h2] at this
    refine wpIn_region_draw fun t => ?_
    simp only [Region.schedule, hm, Bool.true_or, if_true]
    refine wpOpsIn_of_wpOps (fun i o ho => hD o (List.mem_of_getElem? (by simpa using ho))) _ _ _ ?_
    have h9 := wpAny_sound (md := .any) (ops := l.toArray) l.toArray.size t (Array.replicate l.toArray.size false) a w.drew (by simpa using this)
    exact h9
  · simp only [Array.getD_eq_getD_getElem?, Array.getElem?_replicate, hi, if_true, Option.getD_some, true_iff]
    have := h8 i (List.mem_range.2 hi)
    simpa using this
  · exfalso
    simp [Array.getD_eq_getD_getElem?, Array.getElem?_replicate] at hk
    split at hk <;> simp at hk

/-- append to a slice of the call's own, in a round -/
theorem wpLI_append {F : Fence} (hF : ∀ f, F.fn f) {w : World} {ops : Array Oper} {rest : List Oper} {o : Oper} {A : Act} {Q : Exit → Act → World → Prop} (hgd : o.guard = none) (s x : Operand) (t tx : TypeId)
    (ho : o.op = .call { callee := .builtin .append, args := #[s, x], argTypes := #[t, tx] }) {e : TypeId} {k bytes : Nat} (ti : TI P t e k bytes)
    {a : Option Addr} {n0 c : Nat} {xs : List Value} (hs : A.eval s = .slice a n0 c) (h : Own w e k a n0 c xs)
    {xv : Value} {m : Nat} {news : List Value} (hx : A.eval x = xv) (hsrc : Src P k tx xv m news w) (hb : (n0 + m) * bytes ≤ 140737488355328) (h63 : n0 + m ≤ maxLen)
    (hk : ∀ a' c' w', Own w' e k a' (n0 + m) c' (xs ++ news) → Grow w a w' a' → (a' = none → n0 + m = 0) →
      wpListIn F n P ops Q rest (A.put o.dst (.slice a' (n0 + m) c')) w') : wpListIn F n P ops Q (o :: rest) A w :=
  wpListIn_plain hgd fun _ hK => by
    obtain ⟨a', c', w', hr, h2, h3, h4, h5⟩ := run_append_mine (ty := o.type) ti h hsrc hb h63
    refine ⟨fun f _ => hF f, ?_⟩
    have hd : noDefer o = true := by unfold noDefer; rw [ho]
    rw [semAt_noDefer hd]
    unfold execOp
    simp only [ho, resolve, invoke, builtin, Sem.run_bind, Sem.run_pure, Result.andThen_ok, List.map_toArray, List.map_cons, List.map_nil, hs, hx, hr]
    exact hK _ _ (hk a' c' w' h2 ⟨h3, h4⟩ h5)
theorem wpLI_appendN {F : Fence} (hF : ∀ f, F.fn f) {w : World} {ops : Array Oper} {rest : List Oper} {o : Oper} {A : Act} {Q : Exit → Act → World → Prop} (hgd : o.guard = none) (s x : Operand) (t : TypeId)
    (ho : o.op = .call { callee := .builtin .append, args := #[s, x], argTypes := #[t, t] }) {e : TypeId} {k bytes : Nat} (ti : TI P t e k bytes)
    {a : Option Addr} {n0 c : Nat} {xs : List Value} (hs : A.eval s = .slice a n0 c) (h : Own w e k a n0 c xs)
    {m m' gx : Nat} {us : List Value} (hx : A.eval x = .slice (some ⟨gx, 0, none⟩) m m') (hu : us.length = m * k) (h1 : us.all Value.oneCell' = true)
    (hb : (n0 + m) * bytes ≤ 140737488355328) (h63 : n0 + m ≤ maxLen)
    (hk : ∀ a' c' w', Own w' e k a' (n0 + m) c' (xs ++ us) → Grow w a w' a' → (a' = none → n0 + m = 0) →
      wpListIn F n P ops Q rest (A.put o.dst (.slice a' (n0 + m) c')) w') (hgx : gx = w.heap.size := by first | rfl | simp) : wpListIn F n P ops Q (o :: rest) A (w.alloc (.cells us.toArray e)) := by
  subst hgx
  exact
  wpLI_append hF hgd s x t t ho ti hs (h.mod ((Mod.refl (fun _ => False) w).alloc _) (fun _ _ h => h)) hx (Src.ofRd ti.ht m m' (Rd.news w us e) hu (by simpa using h1)) hb h63
    fun a' c' w' h2 h3 h4 => hk a' c' w' h2 (h3.pre0 ((Mod.refl _ w).alloc _)) h4
end
end Go.Mine
/-
  lex.Each: the iterator's contract.
-/
namespace Go.Proofs.YteecbbnpgmceiaaGreatDoor
open Go Go.RowKit Go.Mine
set_option maxHeartbeats 4000000
set_option maxRecDepth 100000
set_option linter.unusedVariables false

def encT (t : Tok) : Value := .agg #[.int .i64 t.kind, .string t.text, .int .i64 t.at_]
def encI (x : Tok × Nat) : Array Value := #[encT x.1, .int .i64 x.2]

/-- what a round that goes on keeps: the tables, the text's box, and whatever holds a mark -/
structure KpL (B : Nat) (W W' : World) : Prop where
  size : W.heap.size ≤ W'.heap.size
  box : W'.heap[B]? = W.heap[B]?
  tab1 : W'.heap[1]? = W.heap[1]?
  tab2 : W'.heap[2]? = W.heap[2]?
  mark : ∀ (k : Nat) (cs : Array Value) (fz : Nat × Nat), W.heap[k]? = some (Obj.cells cs tMark fz) → W'.heap[k]? = W.heap[k]?
theorem KpL.trans {B : Nat} {A1 A2 A3 : World} (h : KpL B A1 A2) (k : KpL B A2 A3) : KpL B A1 A3 :=
  ⟨Nat.le_trans h.size k.size, k.box.trans h.box, k.tab1.trans h.tab1, k.tab2.trans h.tab2, fun i cs fz hi => by
    have h1 := h.mark i cs fz hi
    exact (k.mark i cs fz (h1.trans hi)).trans h1⟩
theorem KpL.of_mod {S : Nat → Prop} {B : Nat} {W W' : World} (h : Mod S W W') (hl : B < W.heap.size) (h2 : 2 < W.heap.size) (hB : ¬ S B) (h1 : ¬ S 1) (h22 : ¬ S 2) (hm : ∀ (k : Nat) (cs : Array Value) (fz : Nat × Nat), S k → W.heap[k]? ≠ some (Obj.cells cs tMark fz)) : KpL B W W' :=
  ⟨h.size, h.block B hl hB, h.block 1 (by omega) h1, h.block 2 h2 h22, fun k cs fz hk => h.block k (Array.getElem?_eq_some_iff.1 hk).1 fun hs => hm k cs fz hs hk⟩
theorem KpL.putObj {B : Nat} {w : World} (hB : B < w.heap.size) (h2 : 2 < w.heap.size) (W : World) (l : Nat) (o o' : Obj) (hl : w.heap.size ≤ l) (h : W.heap[l]? = some o) (hc : o.isCells = false) (_ : o.isWalk = false) : KpL B W (W.putObj l o') :=
  ⟨by simp, World.putObj_heap_other (by omega), World.putObj_heap_other (by omega), World.putObj_heap_other (by omega), fun k cs fz hk => World.putObj_heap_other (fun e => by subst e; rw [h] at hk; cases hk; simp [Obj.isCells] at hc)⟩
theorem Mod.grownBy {w w' : World} (h : Mod (fun _ => False) w w') : w.grownBy w' none := ⟨h.os, h.tape, h.output, h.size, fun k hk _ => h.block k hk id⟩
theorem abides_mod {β : Type} {B : Nat} {J : β → World → Prop} (hJ : AbidesFrom B J) {s : β} {w w' : World} (h : J s w) (m : Mod (fun _ => False) w w') : J s w' :=
  hJ s w w' none h (Mod.grownBy m) (fun r e => by cases e)
theorem tabs_kp {B : Nat} {w w' : World} (h : Lib.Utf8Tabs 1 2 w) (k : KpL B w w') : Lib.Utf8Tabs 1 2 w' :=
  ⟨fun c hc => (World.cell?_of_block (a := ⟨1, _, none⟩) k.tab1).trans (h.1 c hc), fun i hi => ⟨(World.cell?_of_block (a := ⟨2, _, none⟩) k.tab2).trans (h.2 i hi).1, (World.cell?_of_block (a := ⟨2, _, none⟩) k.tab2).trans (h.2 i hi).2⟩⟩

attribute [local go_sem] Oper.semAt_some
@[local go_sem, local simp] theorem wide_fn (f : FuncId) : Fence.wide.fn f = True := rfl
@[local go_sem, local simp] theorem wide_depth : Fence.wide.depth = none := rfl

theorem idx_tw : ∀ (l : List UInt8), Lib.indexByte l 10 = if (l.takeWhile (· != 10)).length = l.length then -1 else ((l.takeWhile (· != 10)).length : Int)
  | [] => rfl
  | b :: l => by
    have ih := idx_tw l
    have hle := (List.takeWhile_sublist (fun x : UInt8 => x != 10) (l := l)).length_le
    rw [Lib.indexByte]
    by_cases hb : b = 10
    · subst hb; simp
    · have hb1 : (b == 10) = false := by simpa using hb
      have hb2 : (b != 10) = true := by simpa using hb
      simp only [hb1, hb2, Bool.false_eq_true, if_false, if_true, List.takeWhile_cons, ih, List.length_cons, Nat.add_right_cancel_iff]
      split
      · rfl
      · rename_i h
        rw [if_neg (by simp)]
        omega
theorem marksC_get (j : Nat) (h : j < 10) : marksC[j * 2]? = some (.string ⟨(marksT.getD j ([], 0)).1.toArray⟩) ∧ marksC[j * 2 + 1]? = some (.int .i64 (marksT.getD j ([], 0)).2) ∧ (marksT.getD j ([], 0)).1.length ≤ 2 ∧ 1 ≤ (marksT.getD j ([], 0)).2 := by
  have hc : j = 0 ∨ j = 1 ∨ j = 2 ∨ j = 3 ∨ j = 4 ∨ j = 5 ∨ j = 6 ∨ j = 7 ∨ j = 8 ∨ j = 9 := by omega
  rcases hc with rfl | rfl | rfl | rfl | rfl | rfl | rfl | rfl | rfl | rfl <;> exact ⟨rfl, rfl, by decide, by decide⟩
theorem each1_in (n l B : Nat) (s : ByteArray) (J Jx : List (Tok × Nat) → World → Prop) (items : List (Tok × Nat)) (hit : items = seqOf (foundL s)) (W : World)
    (hJ : AbidesFrom W.heap.size J)
    (hY : ∀ pre x W1, J pre W1 → pre.length < items.length → YieldAt Fence.wide (n - 1) Tryz.prog l (encI x) W1 fun e W' =>
      (e = .returned (.bool true) ∧ J (pre ++ [x]) W' ∧ KpL B W1 W') ∨ (e = .returned (.bool false) ∧ Jx (pre ++ [x]) W'))
    (hB : W.heap[B]? = some (.cells #[.string s] 9 (0, 0))) (hT : Lib.Utf8Tabs 1 2 W) (h0 : J [] W) (hs : s.size < 2 ^ 30) :
    CallsIn Fence.wide n Tryz.prog 146 #[.func (.yield l) #[] #[], .pointer (some ⟨B, 0, none⟩)] W fun e W' => (∃ v, e = .returned v) ∧
      ((∃ ys, ys = items ∧ J ys W') ∨ (∃ pre, pre <+: items ∧ Jx pre W')) := by
  refine callsIn_of_wp Tryz.func146 rfl trivial ?_ rfl
  simp only [Tryz.ntmps146, List.size_toArray, List.length_cons, List.length_nil, Nat.reduceAdd, Nat.reduceSub, Array.replicate_succ, Array.replicate_zero, List.push_toArray, List.append_toArray, List.nil_append, List.cons_append]
  have cB : W.cell? ⟨B, 0, none⟩ = some (.string s) := cell_at hB rfl
  by_cases hlong : 65536 < s.size
  · obtain rfl : items = [(⟨0, ⟨#[]⟩, 0⟩, 3)] := by rw [hit]; unfold foundL; rw [if_pos hlong]; rfl
    obtain ⟨fn, tmps, assign, body, hy0, hR⟩ := hY [] (⟨0, ⟨#[]⟩, 0⟩, 3) W h0 (by simp)
    have hy : (Instr.yield l #[.agg #[.int .i64 0, .string ⟨#[]⟩, .int .i64 0], .int .i64 3]).run Tryz.prog W = .ok (.round l fn tmps assign body) W := hy0
    clear hit hy0 hY
    have HR := Lib.hid hR; clear hR
    refine (wpIn_wide (n := n)).2 ?_
    go_wp2
    go_step3
    refine (wpIn_wide (n := n)).1 ?_
    gi_wp2
    refine HR.out.mono ?_
    rintro e W3 (⟨rfl, hJ3, hk3⟩ | ⟨rfl, hJx3⟩)
    · gi_wp2
      rw [Exit.noGoto_ret]
      refine bodyPost_ret (results_none rfl _ _ _) rfl ?_
      exact ⟨⟨_, rfl⟩, .inl ⟨_, rfl, hJ3⟩⟩
    · gi_wp2
      rw [Exit.noGoto_ret]
      refine bodyPost_ret (results_none rfl _ _ _) rfl ?_
      exact ⟨⟨_, rfl⟩, .inr ⟨_, List.prefix_rfl, hJx3⟩⟩
  · have hf : foundL s = scanL s := by unfold foundL; rw [if_neg hlong]
    rw [hf] at hit
    have HIT := Lib.hid hit; clear hit hf
    have HTR := Lib.hid (scanL_res s)
    have HB := Lib.hid hB; clear hB
    have HT := Lib.hid hT; clear hT
    have HJ := Lib.hid hJ; clear hJ
    have HY := Lib.hid hY; clear hY
    have H0 := Lib.hid h0; clear h0
    have HLT := Lib.hid (World.block_lt_of_cell? W _ cB)
    refine (wpIn_wide (n := n)).2 ?_
    go_wp2
    go_step3
    refine (wpIn_wide (n := n)).1 ?_
    gi_wp2
    refine wpIn_label ?_
    gi_wp2
    clear cB
    gi_loopw [3] (fun at_ wr => ∃ (k : Nat) (pre : List (Tok × Nat)) (r : List Tok × Nat × Nat), at_ = .int .i64 k ∧ k ≤ s.size ∧ Hid (TRes s k r) ∧ Hid (items = pre ++ seqOf r) ∧ Hid (J pre wr) ∧ Hid (wr.heap[B]? = some (.cells #[.string s] 9 (0, 0))) ∧ Hid (Lib.Utf8Tabs 1 2 wr)) (fun at_ _ => s.size - (intOf at_).toNat)
    case atStart => exact ⟨0, [], _, rfl, by omega, HTR, HIT, H0, HB, HT⟩
    case round =>
      obtain ⟨k, pre, r, rfl, hk, hTR, hI, hJs, hBx, hTb⟩ := hrel
      have cB := cell_at (j := 0) hBx.out rfl
      by_cases hlt : k < s.size
      · obtain ⟨c, hc⟩ : ∃ c, s[k] = c := ⟨_, rfl⟩
        by_cases h32 : c = 32
        · subst h32
          have HR2 := Lib.hid (hTR.out.blank hlt (.inl hc))
          gi_wp2
          go_roundw
          case rel => exact ⟨k + 1, pre, r, by go_num, hlt, HR2, hI, hJs, hBx, hTb⟩
          case measure => simp [intOf]; omega
        by_cases h9 : c = 9
        · subst h9
          have HR2 := Lib.hid (hTR.out.blank hlt (.inr (.inl hc)))
          gi_wp2
          go_roundw
          case rel => exact ⟨k + 1, pre, r, by go_num, hlt, HR2, hI, hJs, hBx, hTb⟩
          case measure => simp [intOf]; omega
        by_cases h10 : c = 10
        · subst h10
          have HR2 := Lib.hid (hTR.out.blank hlt (.inr (.inr (.inl hc))))
          gi_wp2
          go_roundw
          case rel => exact ⟨k + 1, pre, r, by go_num, hlt, HR2, hI, hJs, hBx, hTb⟩
          case measure => simp [intOf]; omega
        by_cases h13 : c = 13
        · subst h13
          have HR2 := Lib.hid (hTR.out.blank hlt (.inr (.inr (.inr hc))))
          gi_wp2
          go_roundw
          case rel => exact ⟨k + 1, pre, r, by go_num, hlt, HR2, hI, hJs, hBx, hTb⟩
          case measure => simp [intOf]; omega
        by_cases h37 : c = 37
        · subst h37
          have HX : Hid (∀ w, Calls Tryz.prog 147 #[.string (s.extract k s.size), .int .u8 10] w fun e w' => e = .returned (.int .i64 (Lib.indexByte (s.data.toList.drop k) 10)) ∧ w = w') := fun w => by
            have := idx_any (s.extract k s.size) 10 w
            rw [ext_drop] at this
            exact this
          have HR2 := Lib.hid (hTR.out.cmt hlt hc)
          have hix := idx_tw (s.data.toList.drop k)
          have hcl := cmtE_le (Nat.le_of_lt hlt)
          have hcp := cmtE_pos hlt hc
          have hce : cmtE s k = k + ((s.data.toList.drop k).takeWhile (· != 10)).length := rfl
          have hdl : (s.data.toList.drop k).length = s.size - k := by rw [List.length_drop, ← Lib.size_eq]
          generalize Lib.indexByte (s.data.toList.drop k) 10 = ix at *
          generalize ((s.data.toList.drop k).takeWhile (· != 10)).length = tw at *
          rw [hdl] at hix
          rw [hce] at HR2 hcl hcp
          clear hce hdl
          by_cases htw : tw = s.size - k
          · rw [if_pos htw] at hix
            subst hix
            have hr := HR2.out.out (by omega)
            subst hr
            clear htw hcl hcp HR2
            gi_wp2_with fail
            refine (callsIn_wide.2 (HX.out _)).mono ?_
            rintro e w' ⟨rfl, rfl⟩
            gi_wp2
            simp only [Exit.noGoto]
            gi_wp2
            go_end0
            exact ⟨⟨_, rfl⟩, .inl ⟨pre, by have := hI.out; simpa [seqOf] using this.symm, hJs.out⟩⟩
          · rw [if_neg htw] at hix
            subst hix
            clear htw
            gi_wp2_with fail
            refine (callsIn_wide.2 (HX.out _)).mono ?_
            rintro e w' ⟨rfl, rfl⟩
            gi_wp2
            go_roundw
            case rel => exact ⟨k + tw, pre, r, by go_num, hcl, HR2, hI, hJs, hBx, hTb⟩
            case measure => simp [intOf]; omega
        by_cases h34 : c = 34
        · subst h34
          have HQ := Lib.hid (lexQuoteW_any (s.extract (k + 1) s.size) wr hTb.out (by rw [ext_size]; omega))
          have HC := Lib.hid hc
          gi_wp2_with fail
          refine (callsIn_wide.2 HQ.out).mono ?_
          rintro e w2 ⟨⟨x, m, ok, rfl, hq⟩, hm2⟩
          have hle := hq.shift0
          rw [ext_size] at hle
          simp only at hle
          have hqE := (QRes.shift (by omega) hq).eqE
          have cB2 := hm2.cell cB id
          have HM2 := Lib.hid hm2
          clear hq hm2 cB
          cases ok with
          | true =>
            obtain ⟨r', hr, hT'⟩ := hTR.out.quote1 hlt HC.out hqE
            subst hr
            have HT' := Lib.hid hT'
            clear hqE hT'
            have hI2 : items = pre ++ ((⟨3, ⟨x.toArray⟩, k⟩ : Tok), 0) :: seqOf r' := hI.out
            have HI2 := Lib.hid hI2
            obtain ⟨fn, tmps, assign, body, hy0, hR⟩ := HY.out pre ((⟨3, ⟨x.toArray⟩, k⟩ : Tok), 0) w2 (abides_mod HJ.out hJs.out HM2.out) (by rw [hI2]; simp)
            clear hI2
            dsimp only [encI, encT] at hy0
            have hy : (Instr.yield l #[.agg #[.int .i64 3, .string ⟨x.toArray⟩, .int .i64 k], .int .i64 0]).run Tryz.prog w2 = .ok (.round l fn tmps assign body) w2 := hy0
            have HR := Lib.hid hR; clear hR hy0
            gi_wp2
            refine HR.out.mono ?_
            rintro e W3 (⟨rfl, hJ3, hk3⟩ | ⟨rfl, hJx3⟩)
            · have HK3 := Lib.hid hk3; have HJ3 := Lib.hid hJ3; clear hk3 hJ3
              gi_wp2
              go_roundw
              case rel => exact ⟨k + 1 + m, pre ++ [(⟨3, ⟨x.toArray⟩, k⟩, 0)], r', by go_num, by omega, HT', Lib.hid (by rw [HI2.out, List.append_assoc]; rfl), HJ3, Lib.hid (HK3.out.box.trans (HM2.out.at hBx.out id)), Lib.hid (tabs_kp (tabs_mod hTb.out HM2.out) HK3.out)⟩
              case measure => simp [intOf]; omega
            · gi_wp2
              rw [Exit.noGoto_ret]
              refine bodyPost_ret (results_none rfl _ _ _) rfl ?_
              exact ⟨⟨_, rfl⟩, .inr ⟨_, by rw [HI2.out]; exact ⟨seqOf r', by simp⟩, hJx3⟩⟩
          | false =>
            have hr := hTR.out.quote0 hlt HC.out hqE
            subst hr
            clear hqE
            have hI2 : items = pre ++ ((⟨0, ⟨#[]⟩, k + 1 + m⟩ : Tok), 61) :: [] := hI.out
            have HI2 := Lib.hid hI2
            obtain ⟨fn, tmps, assign, body, hy0, hR⟩ := HY.out pre ((⟨0, ⟨#[]⟩, k + 1 + m⟩ : Tok), 61) w2 (abides_mod HJ.out hJs.out HM2.out) (by rw [hI2]; simp)
            clear hI2
            dsimp only [encI, encT] at hy0
            have hy : (Instr.yield l #[.agg #[.int .i64 0, .string ⟨#[]⟩, .int .i64 (k + 1 + m)], .int .i64 61]).run Tryz.prog w2 = .ok (.round l fn tmps assign body) w2 := by simpa using hy0
            have HR := Lib.hid hR; clear hR hy0
            gi_wp2
            refine HR.out.mono ?_
            rintro e W3 (⟨rfl, hJ3, hk3⟩ | ⟨rfl, hJx3⟩)
            · gi_wp2
              rw [Exit.noGoto_ret]
              refine bodyPost_ret (results_none rfl _ _ _) rfl ?_
              exact ⟨⟨_, rfl⟩, .inl ⟨_, by rw [HI2.out], hJ3⟩⟩
            · gi_wp2
              rw [Exit.noGoto_ret]
              refine bodyPost_ret (results_none rfl _ _ _) rfl ?_
              exact ⟨⟨_, rfl⟩, .inr ⟨_, by rw [HI2.out]; exact List.prefix_rfl, hJx3⟩⟩
        have hpl : plainB c := ⟨h32, h9, h10, h13, h37, h34⟩
        have HP : Hid (plainB s[k]) := by unfold Hid; rw [hc]; exact hpl
        obtain ⟨n0, hn0⟩ : ∃ n0, s[k].toNat = n0 := ⟨_, rfl⟩
        have hn1 : c.toNat = n0 := by rw [← hc, hn0]
        have e32 : ((n0 : Int) == 32) = false := by have : n0 ≠ 32 := fun h => h32 (by rw [← UInt8.toNat_inj, hn1, h]; rfl); simp; omega
        have e9 : ((n0 : Int) == 9) = false := by have : n0 ≠ 9 := fun h => h9 (by rw [← UInt8.toNat_inj, hn1, h]; rfl); simp; omega
        have e10 : ((n0 : Int) == 10) = false := by have : n0 ≠ 10 := fun h => h10 (by rw [← UInt8.toNat_inj, hn1, h]; rfl); simp; omega
        have e13 : ((n0 : Int) == 13) = false := by have : n0 ≠ 13 := fun h => h13 (by rw [← UInt8.toNat_inj, hn1, h]; rfl); simp; omega
        have e37 : ((n0 : Int) == 37) = false := by have : n0 ≠ 37 := fun h => h37 (by rw [← UInt8.toNat_inj, hn1, h]; rfl); simp; omega
        have e34 : ((n0 : Int) == 34) = false := by have : n0 ≠ 34 := fun h => h34 (by rw [← UInt8.toNat_inj, hn1, h]; rfl); simp; omega
        clear h32 h9 h10 h13 h37 h34 hpl hc hn1
        have HW := lexWord_any (s.extract k s.size) wr (by rw [ext_size]; omega)
        have hsh := wordL_shift hk
        have hpos := wordL_pos hk
        generalize wordL (s.extract k s.size) 0 = g at *
        obtain ⟨kd, m⟩ := g
        simp only at HW hsh
        have HW2 := Lib.hid HW; clear HW
        have HSH := Lib.hid hsh; clear hsh
        gi_wp2_with fail
        refine (callsIn_wide.2 HW2.out).mono ?_
        rintro e w2 ⟨rfl, hm2⟩
        have cB2 := hm2.cell cB id
        have HM2 := Lib.hid hm2
        clear hm2 cB HW2
        by_cases hkd : kd = 0
        · subst hkd
          clear hpos
          gi_wp2_with fail
          refine (callsIn_wide.2 (marks_any _)).mono ?_
          rintro e w3 ⟨rfl, hw3⟩
          have hM3 : Mod (fun _ => False) w2 w3 := by rw [hw3]; exact (Mod.refl _ w2).alloc _
          have hRd : Rd w3 (some ⟨w2.heap.size, 0, none⟩) marksC := by rw [hw3]; exact Rd.news w2 marksC tMark
          have hg3 : w2.heap.size < w3.heap.size := by rw [hw3]; simp
          have cB3 := hM3.cell cB2 id
          obtain ⟨wr0, hwr0⟩ : ∃ x, x = wr := ⟨_, rfl⟩
          rw [← hwr0] at HM2 hBx hTb hJs
          clear hwr0
          have HM3 := Lib.hid (HM2.out.trans hM3)
          have HRd := Lib.hid hRd
          clear hw3 hM3 hRd cB2 HM2
          gi_wp2_with fail
          gi_loopw [3, 99] (fun at_ i w4 => ∃ j : Nat, at_ = .int .i64 k ∧ i = .int .i64 j ∧ j ≤ 10 ∧ Hid (∀ j', j' < j → hpB (s.extract k s.size) ⟨(marksT.getD j' ([], 0)).1.toArray⟩ = false) ∧ Hid (Mod (fun _ => False) w3 w4)) (fun _ i _ => 10 - (intOf i).toNat)
          case atStart => exact ⟨0, rfl, rfl, by omega, Lib.hid (fun j' h => by omega), Lib.hid (Mod.refl _ _)⟩
          case round =>
            obtain ⟨j, rfl, rfl, hj, hno, hm4⟩ := hrel
            have cB4 := hm4.out.cell cB3 id
            by_cases hj10 : j < 10
            · obtain ⟨hc0, hc1, hlen0, hk0⟩ := marksC_get j hj10
              obtain ⟨b0, o0, e0, hc0⟩ := HRd.out _ _ hc0
              cases e0
              obtain ⟨b0, o0, e0, hc1⟩ := HRd.out _ _ hc1
              cases e0
              have hc0 := hm4.out.cell hc0 id
              have hc1 := hm4.out.cell hc1 id
              rw [Nat.zero_add] at hc0 hc1
              have HPF := Lib.hid (fun w => hasPrefix_any (s.extract k s.size) ⟨(marksT.getD j ([], 0)).1.toArray⟩ w (by rw [ext_size]; omega) (by rw [Lib.size_eq]; simp only; omega))
              have hmf := Lib.hid (markL_first (s.data.toList.drop k) j hj10)
              have hmt : ∃ mt, mt = (marksT.getD j ([], 0)).1 := ⟨_, rfl⟩
              obtain ⟨mt, hmt⟩ := hmt
              have HMT := Lib.hid hmt.symm
              rw [← hmt] at hc0 hlen0 HPF hmf
              clear hmt
              generalize (marksT.getD j ([], 0)).2 = mk at *
              clear cB3
              have hpe : hpB (s.extract k s.size) ⟨mt.toArray⟩ = mt.isPrefixOf (s.data.toList.drop k) := by unfold hpB; rw [ext_drop]
              have HNO : Hid (∀ j', j' < j → (marksT.getD j' ([], 0)).1.isPrefixOf (s.data.toList.drop k) = false) := fun j' h => by
                have := hno.out j' h
                unfold hpB at this
                rwa [ext_drop] at this
              obtain ⟨w5, hw5⟩ : ∃ w5, w5 = wr.alloc (.cells #[.string ⟨mt.toArray⟩, .int .i64 mk] tMark) := ⟨_, rfl⟩
              have hm5 : Mod (fun _ => False) wr w5 := by rw [hw5]; exact (Mod.refl _ wr).alloc _
              have hb5 : w5.heap[wr.heap.size]? = some (.cells #[.string ⟨mt.toArray⟩, .int .i64 mk] tMark (0, 0)) := by rw [hw5]; exact heap_alloc_new wr _
              have cB5 := hm5.cell cB4 id
              have cm5 : w5.cell? ⟨wr.heap.size, 0, none⟩ = some (.string ⟨mt.toArray⟩) := cell_at hb5 rfl
              have ck5 : w5.cell? ⟨wr.heap.size, 1, none⟩ = some (.int .i64 mk) := cell_at hb5 rfl
              have HM5 := Lib.hid (hm4.out.trans hm5)
              have HB5 := Lib.hid hb5
              have HPE := Lib.hid hpe
              clear hpe
              cases hbv : hpB (s.extract k s.size) ⟨mt.toArray⟩ with
              | false =>
                have HBV := Lib.hid hbv
                rw [hbv] at HPF
                clear hbv hmf
                gi_wp2_with fail
                rw [← hw5]
                clear hw5 hm5 hb5
                refine (wpIn_wide (n := n)).2 ?_
                refine wp_region_ord (fun w' => w'.cell? ⟨B, 0, none⟩ = some (.string s) ∧ w'.cell? ⟨wr.heap.size, 0, none⟩ = some (.string ⟨mt.toArray⟩)) [(1, 0), (0, 1), (0, 2), (0, 3), (1, 4), (3, 5)] (by kernel_rfl) (by kernel_rfl) ?_
                go_wp2_with (first
                  | (refine ord_pure rfl rfl rfl (fun K hK => ?_); go_big_quiet_op; refine hK _ ?_; clear hK K)
                                                                | (refine ord_skip rfl rfl ?_; simp only [Act.put, List.setIfInBounds_toArray, List.set_cons_zero, List.set_cons_succ])
                                                                | (refine ord_held rfl rfl rfl (⟨by simpa using cB5, by simpa using cm5⟩) (fun K hK => ?_); apply Exists.intro; refine ⟨fun w' hs => ?_, hK _ ?_⟩; (revert hs; dsimp only; (try simp only [and_imp]); intros; go_simp; rfl); clear hK K)
                                                                | (refine ord_keep rfl rfl (⟨by simpa using cB5, by simpa using cm5⟩) (fun K hK => ?_))
                                                                | (refine ord_drop rfl rfl (fun K hK => ?_))
                                                                | (refine ord_nil ?_)
                  | (go_at_call 151; refine (HPF.out _).mono ?_; rintro e w' ⟨rfl, rfl⟩))
                gi_wp2
                go_roundw
                case rel => exact ⟨j + 1, rfl, by go_num, hj10, Lib.hid (fun j' h => by
                  by_cases e : j' = j
                  · subst e; rw [HMT.out]; exact HBV.out
                  · exact hno.out j' (by omega)), Lib.hid HM5.out.drew⟩
                case measure => simp [intOf]; omega
              | true =>
                have hm := hmf.out HNO.out (by rw [← HPE.out]; exact hbv)
                obtain ⟨r', hr, hT'⟩ := hTR.out.mark hlt HP.out (by rw [HSH.out]) hm (by omega)
                subst hr
                have HT' := Lib.hid hT'
                have hmp := (markL_le (s.data.toList.drop k)).2.2 (by rw [hm]; simp only; omega)
                have hml := (markL_le (s.data.toList.drop k)).1
                rw [hm] at hmp
                simp only at hmp
                rw [hm, List.length_drop, ← Lib.size_eq] at hml
                simp only at hml
                rw [hbv] at HPF
                clear hbv hmf hm hT'
                have hM6 : Mod (fun _ => False) wr0 w5.drew := (HM3.out.trans HM5.out).drew
                have hI2 : items = pre ++ ((⟨mk, ⟨#[]⟩, k⟩ : Tok), 0) :: seqOf r' := hI.out
                have HI2 := Lib.hid hI2
                obtain ⟨fn, tmps, assign, body, hy0, hR⟩ := HY.out pre ((⟨mk, ⟨#[]⟩, k⟩ : Tok), 0) w5.drew (abides_mod HJ.out hJs.out hM6) (by rw [hI2]; simp)
                clear hI2
                dsimp only [encI, encT] at hy0
                have hy : (Instr.yield l #[.agg #[.int .i64 mk, .string ⟨#[]⟩, .int .i64 k], .int .i64 0]).run Tryz.prog w5.drew = .ok (.round l fn tmps assign body) w5.drew := hy0
                have HR := Lib.hid hR; clear hR hy0
                have HM6 := Lib.hid hM6; clear hM6
                gi_wp2_with fail
                rw [← hw5]
                clear hw5 hm5 hb5
                refine (wpIn_wide (n := n)).2 ?_
                refine wp_region_ord (fun w' => w'.cell? ⟨B, 0, none⟩ = some (.string s) ∧ w'.cell? ⟨wr.heap.size, 0, none⟩ = some (.string ⟨mt.toArray⟩)) [(1, 0), (0, 1), (0, 2), (0, 3), (1, 4), (3, 5)] (by kernel_rfl) (by kernel_rfl) ?_
                go_wp2_with (first
                  | (refine ord_pure rfl rfl rfl (fun K hK => ?_); go_big_quiet_op; refine hK _ ?_; clear hK K)
                                                                | (refine ord_skip rfl rfl ?_; simp only [Act.put, List.setIfInBounds_toArray, List.set_cons_zero, List.set_cons_succ])
                                                                | (refine ord_held rfl rfl rfl (⟨by simpa using cB5, by simpa using cm5⟩) (fun K hK => ?_); apply Exists.intro; refine ⟨fun w' hs => ?_, hK _ ?_⟩; (revert hs; dsimp only; (try simp only [and_imp]); intros; go_simp; rfl); clear hK K)
                                                                | (refine ord_keep rfl rfl (⟨by simpa using cB5, by simpa using cm5⟩) (fun K hK => ?_))
                                                                | (refine ord_drop rfl rfl (fun K hK => ?_))
                                                                | (refine ord_nil ?_)
                  | (go_at_call 151; refine (HPF.out _).mono ?_; rintro e w' ⟨rfl, rfl⟩))
                gi_wp2
                refine HR.out.mono ?_
                rintro e W3 (⟨rfl, hJ3, hk3⟩ | ⟨rfl, hJx3⟩)
                · have cm6 : W3.cell? ⟨wr.heap.size, 0, none⟩ = some (.string ⟨mt.toArray⟩) := cell_at ((hk3.mark wr.heap.size _ _ HB5.out).trans HB5.out) rfl
                  have HK3 := Lib.hid hk3; have HJ3 := Lib.hid hJ3; clear hk3 hJ3
                  gi_wp2
                  go_roundw
                  case rel => exact ⟨k + mt.length, pre ++ [(⟨mk, ⟨#[]⟩, k⟩, 0)], r', by go_num, by omega, HT', Lib.hid (by rw [HI2.out, List.append_assoc]; rfl), HJ3, Lib.hid (HK3.out.box.trans (HM6.out.at hBx.out id)), Lib.hid (tabs_kp (tabs_mod hTb.out HM6.out) HK3.out)⟩
                  case measure => simp [intOf]; omega
                · gi_wp2
                  rw [Exit.noGoto_ret]
                  refine bodyPost_ret (results_none rfl _ _ _) rfl ?_
                  exact ⟨⟨_, rfl⟩, .inr ⟨_, by rw [HI2.out]; exact ⟨seqOf r', by simp⟩, hJx3⟩⟩
            · obtain rfl : j = 10 := by omega
              have hmn := markL_no (s.data.toList.drop k) (fun j' h => by have := hno.out j' h; unfold hpB at this; rwa [ext_drop] at this)
              have hr := hTR.out.none hlt HP.out (by rw [HSH.out]) hmn
              subst hr
              clear hmn cB3
              have hM6 : Mod (fun _ => False) wr0 wr := HM3.out.trans hm4.out
              have hI2 : items = pre ++ ((⟨0, ⟨#[]⟩, k⟩ : Tok), 60) :: [] := hI.out
              have HI2 := Lib.hid hI2
              obtain ⟨fn, tmps, assign, body, hy0, hR⟩ := HY.out pre ((⟨0, ⟨#[]⟩, k⟩ : Tok), 60) wr (abides_mod HJ.out hJs.out hM6) (by rw [hI2]; simp)
              clear hI2
              dsimp only [encI, encT] at hy0
              have hy : (Instr.yield l #[.agg #[.int .i64 0, .string ⟨#[]⟩, .int .i64 k], .int .i64 60]).run Tryz.prog wr = .ok (.round l fn tmps assign body) wr := hy0
              have HR := Lib.hid hR; clear hR hy0
              gi_wp2
              refine HR.out.mono ?_
              rintro e W3 (⟨rfl, hJ3, hk3⟩ | ⟨rfl, hJx3⟩)
              · gi_wp2
                rw [Exit.noGoto_ret]
                refine bodyPost_ret (results_none rfl _ _ _) rfl ?_
                exact ⟨⟨_, rfl⟩, .inl ⟨_, by rw [HI2.out], hJ3⟩⟩
              · gi_wp2
                rw [Exit.noGoto_ret]
                refine bodyPost_ret (results_none rfl _ _ _) rfl ?_
                exact ⟨⟨_, rfl⟩, .inr ⟨_, by rw [HI2.out]; exact List.prefix_rfl, hJx3⟩⟩
        · have hkb : ((kd : Int) != 0) = true := by simp; omega
          have hp := hpos (by rw [HSH.out]; exact hkd)
          rw [HSH.out] at hp
          simp only at hp
          obtain ⟨r', hr, hT'⟩ := hTR.out.word hlt HP.out HSH.out hkd
          subst hr
          have HT' := Lib.hid hT'
          clear hT' hpos hkd
          have hI2 : items = pre ++ ((⟨kd, s.extract k (k + m), k⟩ : Tok), 0) :: seqOf r' := hI.out
          have HI2 := Lib.hid hI2
          obtain ⟨fn, tmps, assign, body, hy0, hR⟩ := HY.out pre ((⟨kd, s.extract k (k + m), k⟩ : Tok), 0) w2 (abides_mod HJ.out hJs.out HM2.out) (by rw [hI2]; simp)
          clear hI2
          dsimp only [encI, encT] at hy0
          have hy : (Instr.yield l #[.agg #[.int .i64 kd, .string (s.extract k (k + m)), .int .i64 k], .int .i64 0]).run Tryz.prog w2 = .ok (.round l fn tmps assign body) w2 := hy0
          have HR := Lib.hid hR; clear hR hy0
          gi_wp2
          refine HR.out.mono ?_
          rintro e W3 (⟨rfl, hJ3, hk3⟩ | ⟨rfl, hJx3⟩)
          · have HK3 := Lib.hid hk3; have HJ3 := Lib.hid hJ3; clear hk3 hJ3
            gi_wp2
            go_roundw
            case rel => exact ⟨k + m, pre ++ [(⟨kd, s.extract k (k + m), k⟩, 0)], r', by go_num, by omega, HT', Lib.hid (by rw [HI2.out, List.append_assoc]; rfl), HJ3, Lib.hid (HK3.out.box.trans (HM2.out.at hBx.out id)), Lib.hid (tabs_kp (tabs_mod hTb.out HM2.out) HK3.out)⟩
            case measure => simp [intOf]; omega
          · gi_wp2
            rw [Exit.noGoto_ret]
            refine bodyPost_ret (results_none rfl _ _ _) rfl ?_
            exact ⟨⟨_, rfl⟩, .inr ⟨_, by rw [HI2.out]; exact ⟨seqOf r', by simp⟩, hJx3⟩⟩
      · obtain rfl : k = s.size := by omega
        have hr := hTR.out.out (by omega)
        subst hr
        gi_wp2
        simp only [Exit.noGoto]
        gi_wp2
        go_end0
        exact ⟨⟨_, rfl⟩, .inl ⟨pre, by have := hI.out; simpa [seqOf] using this.symm, hJs.out⟩⟩

theorem each_any (a : Option Addr) (c : Nat) (l : List UInt8) (w : World) (h : Rd w a (bts l)) :
    Calls Tryz.prog 101 #[.slice a l.length c] w fun e w' => e = .returned (.func (.func 146) #[] #[.pointer (some ⟨w.heap.size, 0, none⟩)]) ∧ w' = w.alloc (.cells #[.string ⟨l.toArray⟩] 9) := by
  have hr := run_bytes_str (P := Tryz.prog) (w := w) (src := 34) (dst := 9) (e := 5) (by kernel_rfl) (by kernel_rfl) (by kernel_rfl) c h
  clear h
  go_enter Tryz.func101, Tryz.ntmps101
  go_wp2
  go_ret
  exact ⟨rfl, rfl⟩
/-- WHAT COMES ONE BY ONE -/
theorem each_stops (n B : Nat) (s : ByteArray) (w : World) (hB : w.heap[B]? = some (.cells #[.string s] 9 (0, 0))) (hT : Lib.Utf8Tabs 1 2 w) (h2 : 2 < w.heap.size) (hs : s.size < 2 ^ 30) :
    SeqStopsK Fence.wide n Tryz.prog 146 #[.pointer (some ⟨B, 0, none⟩)] encI (KpL B) (fun ys => ys = seqOf (foundL s)) (fun pre => pre <+: seqOf (foundL s)) (seqOf (foundL s)).length w := by
  intro l J Jx W hW hJ hJx hY h0
  have hM : Mod (fun _ => False) w W := Mod.ofBelow hW
  exact each1_in n l B s J Jx _ rfl W hJ hY (hM.at hB id) (tabs_mod hT hM) h0 hs
end Go.Proofs.YteecbbnpgmceiaaGreatDoor
/-
  lex.Scan: its contract.
-/
namespace Go.Mine
open Go Go.RowKit
theorem Mod.ofGrown {W W' : World} {row : Option Nat} (hg : W.grownBy W' row) : Mod (fun k => row = some k) W W' :=
  ⟨hg.os, hg.tape, hg.output, hg.size, fun k hk hs => hg.block k hk (fun e => hs e.symm)⟩
/-- what lies in cells lies there still, where a block that holds no cells has turned -/
theorem cells_ne {W : World} {row : Option Nat} (hr : ∀ r, row = some r → ∃ o : Obj, W.heap[r]? = some o ∧ o.isCells = false) {b : Nat} {cs : Array Value} {t : TypeId} {fz : Nat × Nat} (h : W.heap[b]? = some (.cells cs t fz)) : row ≠ some b := by
  intro e
  obtain ⟨o, ho, hc⟩ := hr b e
  rw [h] at ho; cases ho; simp [Obj.isCells] at hc
theorem Own.blk_cells {w : World} {e : TypeId} {k : Nat} {a : Option Addr} {n c : Nat} {xs : List Value} (h : Own w e k a n c xs) : ∀ b, blk a = some b → ∃ cur, w.heap[b]? = some (.cells cur e (0, 0)) := by
  intro b hb
  rcases h.2 with ⟨rfl, _⟩ | ⟨b', cur, rfl, hg, _⟩
  · simp at hb
  · simp at hb; subst hb; exact ⟨cur, hg⟩
theorem Own.turned {W W' : World} {row : Option Nat} {e : TypeId} {k : Nat} {a : Option Addr} {n c : Nat} {xs : List Value} (h : Own W e k a n c xs) (hg : W.grownBy W' row) (hr : ∀ r, row = some r → ∃ o : Obj, W.heap[r]? = some o ∧ o.isCells = false) : Own W' e k a n c xs :=
  h.mod (Mod.ofGrown hg) (fun b hb hs => by obtain ⟨cur, hc⟩ := h.blk_cells b hb; exact cells_ne hr hc hs)
theorem bx_turned {W W' : World} {row : Option Nat} {B : Nat} {t : TypeId} {v : Value} (h : Boxed W B t v) (hg : W.grownBy W' row) (hr : ∀ r, row = some r → ∃ o : Obj, W.heap[r]? = some o ∧ o.isCells = false) : Boxed W' B t v :=
  (Mod.ofGrown hg).at h (fun hs => cells_ne hr h hs)
theorem bx_mod {S : Nat → Prop} {W W' : World} {B : Nat} {t : TypeId} {v : Value} (h : Boxed W B t v) (m : Mod S W W') (hs : ¬ S B) : Boxed W' B t v := m.at h hs
theorem bx_put {W : World} {B : Nat} {t : TypeId} {v : Value} (h : Boxed W B t v) (u : Value) : Boxed (W.setCell ⟨B, 0, none⟩ u) B t u := by
  have := heap_setCell_at (j := 0) u h
  unfold Boxed
  simpa using this
theorem Mod.turned {S : Nat → Prop} {w W W' : World} {row : Option Nat} (h : Mod S w W) (hg : W.grownBy W' row) (hr : ∀ r, row = some r → w.heap.size ≤ r) : Mod S w W' :=
  h.step (Mod.ofGrown hg) (fun i hi e => by have := hr i e; omega)
theorem keepsFrom_mod {S : Nat → Prop} {B : Nat} {W W' : World} (h : Mod S W W') (hs : ∀ k, S k → ∀ o : Obj, W.heap[k]? = some o → o.isCells = true) : KeepsFrom B W W' :=
  ⟨h.size, fun k o _ hk ho => h.at hk (fun s => by rw [hs k s o hk] at ho; cases ho)⟩
theorem tabs_lt {w : World} (h : Lib.Utf8Tabs 1 2 w) : 2 < w.heap.size := World.block_lt_of_cell? w _ (h.2 0 (by omega)).1

end Go.Mine
namespace Go.Proofs.YteecbbnpgmceiaaGreatDoor
open Go Go.RowKit Go.Mine
set_option maxHeartbeats 4000000
set_option maxRecDepth 100000
set_option linter.unusedVariables false

def tokC (t : Tok) : List Value := [.int .i64 t.kind, .string t.text, .int .i64 t.at_]
def toksC (l : List Tok) : List Value := l.flatMap tokC
@[simp] theorem toksC_length (l : List Tok) : (toksC l).length = l.length * 3 := by
  induction l with
  | nil => rfl
  | cons t l ih =>
    have e : toksC (t :: l) = tokC t ++ toksC l := rfl
    rw [e, List.length_append, ih, List.length_cons]
    show 3 + _ = _
    omega
theorem toksC_append (l m : List Tok) : toksC (l ++ m) = toksC l ++ toksC m := by simp [toksC]
theorem scanGo_len (s : ByteArray) : ∀ (f i : Nat), (scanGo s f i).1.length ≤ f
  | 0, i => by simp [scanGo]
  | f + 1, i => by
    rw [scanGo]
    have h1 := scanGo_len s f (i + 1)
    have h2 := scanGo_len s f (cmtE s i)
    have h3 := scanGo_len s f (quoteE s (i + 1)).2.1
    have h4 := scanGo_len s f (wordL s i).2
    have h5 := scanGo_len s f (i + (markL (s.data.toList.drop i)).2)
    repeat' split
    all_goals (try simp only [tcons, List.length_cons, List.length_nil])
    all_goals omega
theorem foundL_len (s : ByteArray) : (foundL s).1.length ≤ s.size + 1 := by
  unfold foundL
  split
  · simp
  · exact scanGo_len s _ _
theorem seqOf_len (r : List Tok × Nat × Nat) : (seqOf r).length ≤ r.1.length + 1 := by
  unfold seqOf
  rw [List.length_append, List.length_map]
  split <;> simp
theorem seq_ok {ts : List Tok} {r : List Tok × Nat × Nat} (h : ts.map (fun t => (t, 0)) = seqOf r) : r.2.2 = 0 ∧ r.1 = ts := by
  unfold seqOf at h
  by_cases h0 : r.2.2 = 0
  · rw [if_pos h0, List.append_nil] at h
    refine ⟨h0, ?_⟩
    have := congrArg (List.map Prod.fst) h
    rw [List.map_map, List.map_map] at this
    have e : ∀ l : List Tok, l.map (Prod.fst ∘ fun x => (x, 0)) = l := fun l => by
      have : (Prod.fst ∘ fun x : Tok => (x, 0)) = id := rfl
      rw [this, List.map_id]
    rw [e, e] at this
    exact this.symm
  · rw [if_neg h0] at h
    have hm : ((⟨0, ⟨#[]⟩, r.2.1⟩, r.2.2) : Tok × Nat) ∈ ts.map (fun t => (t, 0)) := by rw [h]; simp
    obtain ⟨t, _, ht⟩ := List.mem_map.1 hm
    exact absurd (congrArg Prod.snd ht).symm h0
theorem seq_err {ts : List Tok} {t : Tok} {e : Nat} {r : List Tok × Nat × Nat} (h : ts.map (fun t => (t, 0)) ++ [(t, e)] <+: seqOf r) (he : e ≠ 0) : r.2.2 = e ∧ r.2.1 = t.at_ := by
  have hm : (t, e) ∈ seqOf r := h.subset (by simp)
  unfold seqOf at hm
  rcases List.mem_append.1 hm with hm | hm
  · obtain ⟨t', _, ht⟩ := List.mem_map.1 hm
    exact absurd (congrArg Prod.snd ht).symm he
  · split at hm
    · simp at hm
    · simp at hm
      obtain ⟨rfl, rfl⟩ := hm
      exact ⟨rfl, rfl⟩
/-- what Scan answers -/
def scanR (r : List Tok × Nat × Nat) : List Tok × Nat × Nat := if r.2.2 = 0 then (r.1, 0, 0) else ([], r.2.1, r.2.2)

@[local go_sem, local simp] theorem wide_fn2 (f : FuncId) : Fence.wide.fn f = True := rfl
@[local go_sem, local simp] theorem wide_depth2 : Fence.wide.depth = none := rfl

end Go.Proofs.YteecbbnpgmceiaaGreatDoor
