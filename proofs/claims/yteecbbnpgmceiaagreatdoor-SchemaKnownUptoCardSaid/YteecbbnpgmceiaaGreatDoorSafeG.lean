/-
  The plain law of schema: where a rule is not safe; arities; the first rule that breaks a law.
-/
import Derived.Test.YteecbbnpgmceiaaGreatDoorMayL
import Derived.Test.YteecbbnpgmceiaaGreatDoorMayG
import Derived.Laws.StructEq
namespace Go.Proofs.YteecbbnpgmceiaaGreatDoor
open Go Go.RowKit Go.Mine
set_option linter.unusedVariables false

structure Br where
  kind : Int
  lit : Int
  place : Int
  var : ByteArray
def br0 : Br := ⟨0, 0, 0, emptyB⟩
def brV (b : Br) : Value := .agg #[.int .i64 b.kind, .int .i64 b.lit, .int .i64 b.place, .string b.var]
/-- a breach is nothing, or bears a kind -/
def BrOk (b : Br) : Prop := b = br0 ∨ b.kind ≠ 0
/-- the variables of positive atoms -/
def boundT (l : Lm) : List ByteArray := (l.atom.terms.filter fun t => decide (l.kind = 1 ∧ t.kind = 1)).map (·.text)
def boundL (ls : List Lm) : List ByteArray := ls.flatMap boundT
def hasS (ns : List ByteArray) (x : ByteArray) : Bool := ns.any fun y => decide (x = y)
def breachL (ns : List ByteArray) (blank : Bool) (t : Tm) : Br :=
  if t.kind = 2 then (if blank = true then br0 else ⟨1, 0, 0, emptyB⟩)
  else if t.kind = 1 ∨ t.kind = 5 ∨ t.kind = 6 ∨ t.kind = 7 then (if hasS ns t.text = true then br0 else ⟨2, 0, 0, t.text⟩) else br0
def firstL (f : Tm → Br) (lit : Int) : Nat → List Tm → Br
  | _, [] => br0
  | i, t :: ts => if (f t).kind ≠ 0 then ⟨(f t).kind, lit, i, (f t).var⟩ else firstL f lit (i + 1) ts
def headF (ns : List ByteArray) (bare : Bool) (t : Tm) : Br :=
  if (breachL ns false t).kind = 0 ∧ 4 ≤ t.kind ∧ t.kind ≤ 7 ∧ bare = true then ⟨3, 0, 0, emptyB⟩ else breachL ns false t
def negF (ns : List ByteArray) (t : Tm) : Br := if t.kind ≠ 1 then br0 else breachL ns true t
def cmpF (ns : List ByteArray) (t : Tm) : Br := if t.kind ≠ 1 ∧ t.kind ≠ 2 then br0 else breachL ns false t
def litB (ns : List ByteArray) (i : Nat) (l : Lm) : Br :=
  if l.kind = 2 then firstL (negF ns) i 0 l.atom.terms else if l.kind = 3 then firstL (cmpF ns) i 0 [l.left, l.right] else br0
def bodyB (ns : List ByteArray) : Nat → List Lm → Br
  | _, [] => br0
  | i, l :: ls => if (litB ns i l).kind ≠ 0 then litB ns i l else bodyB ns (i + 1) ls
def bare (ls : List Lm) : Bool := decide (ls.length = 0)
def safeB (r : Rm) : Br :=
  if (firstL (headF (boundL r.body) (bare r.body)) (-1) 0 r.head.terms).kind ≠ 0 then firstL (headF (boundL r.body) (bare r.body)) (-1) 0 r.head.terms
  else bodyB (boundL r.body) 0 r.body
theorem br0_ok : BrOk br0 := .inl rfl
theorem breachL_ok (ns : List ByteArray) (blank : Bool) (t : Tm) : BrOk (breachL ns blank t) := by
  unfold breachL
  repeat' split
  all_goals first
    | exact .inl rfl
    | exact .inr (by simp)
theorem headF_ok (ns : List ByteArray) (b : Bool) (t : Tm) : BrOk (headF ns b t) := by
  unfold headF
  split
  · exact .inr (by simp)
  · exact breachL_ok _ _ _
theorem negF_ok (ns : List ByteArray) (t : Tm) : BrOk (negF ns t) := by
  unfold negF
  split
  · exact .inl rfl
  · exact breachL_ok _ _ _
theorem cmpF_ok (ns : List ByteArray) (t : Tm) : BrOk (cmpF ns t) := by
  unfold cmpF
  split
  · exact .inl rfl
  · exact breachL_ok _ _ _
theorem firstL_ok {f : Tm → Br} (lit : Int) : ∀ (i : Nat) (ts : List Tm), BrOk (firstL f lit i ts)
  | _, [] => .inl rfl
  | i, t :: ts => by
    rw [firstL]
    split
    · rename_i h; exact .inr h
    · exact firstL_ok lit (i + 1) ts
theorem litB_ok (ns : List ByteArray) (i : Nat) (l : Lm) : BrOk (litB ns i l) := by
  unfold litB
  repeat' split
  · exact firstL_ok _ _ _
  · exact firstL_ok _ _ _
  · exact .inl rfl
theorem bodyB_ok (ns : List ByteArray) : ∀ (i : Nat) (ls : List Lm), BrOk (bodyB ns i ls)
  | _, [] => .inl rfl
  | i, l :: ls => by
    rw [bodyB]
    split
    · exact litB_ok _ _ _
    · exact bodyB_ok ns (i + 1) ls
theorem safeB_ok (r : Rm) : BrOk (safeB r) := by
  unfold safeB
  split
  · exact firstL_ok _ _ _
  · exact bodyB_ok _ _ _

/-- names with how many terms they are used, in the order in which they came -/
abbrev Ar := List (ByteArray × Nat)
def usesL (r : Rm) : Ar := (r.head.pred, r.head.terms.length) :: (r.body.filter fun l => decide (l.kind = 1 ∨ l.kind = 2)).map fun l => (l.atom.pred, l.atom.terms.length)
def arOf (l : Ar) (x : ByteArray) : Option Nat := (l.find? fun y => decide (y.1 = x)).map (·.2)
def noteL (l : Ar) (x : ByteArray × Nat) : Ar := match arOf l x.1 with
  | some _ => l
  | none => l ++ [x]
def fitsL (l : Ar) (x : ByteArray × Nat) : Bool := match arOf l x.1 with
  | some n => decide (n = x.2)
  | none => true
/-- all of them noted; none: one does not fit -/
def notedL : Ar → Ar → Option Ar
  | l, [] => some l
  | l, x :: xs => if fitsL l x = true then notedL (noteL l x) xs else none
def checkGo : Nat → Ar → List Rm → Int × Int
  | _, _, [] => (0, 0)
  | i, l, r :: rs => if mayRm r ≠ 0 then (i, mayRm r) else match notedL l (usesL r) with
    | none => (i, 110)
    | some l' => if 512 < l'.length then (i, 112) else if (safeB r).kind ≠ 0 then (i, 111) else checkGo (i + 1) l' rs
def checkL (rs : List Rm) : Int × Int := if 1024 < rs.length then (0, 81) else checkGo 0 [] rs
end Go.Proofs.YteecbbnpgmceiaaGreatDoor
/-
  schema: bound, breach, the closures of Safe, walked.
-/
namespace Go.Proofs.YteecbbnpgmceiaaGreatDoor
open Go Go.RowKit Go.Mine
set_option linter.unusedVariables false
set_option maxHeartbeats 4000000
set_option maxRecDepth 100000

def idxS : List ByteArray → ByteArray → Nat → Int
  | [], _, _ => -1
  | x :: l, v, i => if v = x then i else idxS l v (i + 1)
theorem idxS_ge : ∀ (l : List ByteArray) (v : ByteArray) (i : Nat), (0 ≤ idxS l v i) ↔ hasS l v = true
  | [], v, i => by simp [idxS, hasS]
  | x :: l, v, i => by
    have := idxS_ge l v (i + 1)
    rw [idxS]
    by_cases h : v = x
    · subst h; rw [if_pos rfl]; simp [hasS]
    · rw [if_neg h, this]; simp [h, hasS]
theorem sts_getS {w : World} {a : Option Addr} {l : List ByteArray} (h : Rd w a (sts l)) {k : Nat} (hk : k < l.length) : ∃ b o, a = some ⟨b, o, none⟩ ∧ w.cell? ⟨b, o + k, none⟩ = some (.string l[k]) :=
  h k (.string l[k]) (by rw [sts, List.getElem?_map, List.getElem?_eq_getElem hk]; rfl)
theorem indexS_any (a : Option Addr) (c : Nat) (ks : List ByteArray) (v : ByteArray) (w : World) (h : Rd w a (sts ks)) (hl : ks.length < 2 ^ 42) :
    Calls Tryz.prog 194 #[.slice a ks.length c, .string v] w fun e w' => e = .returned (.int .i64 (idxS ks v 0)) ∧ w = w' := by
  have HR := Lib.hid h; clear h
  go_enter Tryz.func194, Tryz.ntmps194
  go_wp2
  go_loop [8] (fun iv => ∃ k : Nat, iv = .int .i64 k ∧ k ≤ ks.length ∧ Hid (idxS ks v 0 = idxS (ks.drop k) v k)) (fun iv => ks.length - (intOf iv).toNat)
  case atStart => exact ⟨0, rfl, Nat.zero_le _, rfl⟩
  case round =>
    obtain ⟨k, rfl, hk, hI⟩ := hrel
    by_cases hlt : k < ks.length
    · obtain ⟨b, o, rfl, hc⟩ := sts_getS HR.out hlt
      have hd : ks.drop k = ks[k] :: ks.drop (k + 1) := List.drop_eq_getElem_cons hlt
      have HD := Lib.hid hd; clear hd
      generalize ks[k] = x at *
      by_cases hx : v = x
      · subst hx
        go_wp2
        go_ret
        refine ⟨?_, rfl⟩
        rw [hI.out, HD.out, idxS, if_pos rfl]; rfl
      · have hb : (v.toList == x.toList) = false := by rw [baEq, decide_eq_false hx]
        go_wp2
        go_round
        case rel => exact ⟨k + 1, by go_num, hlt, by have := hI.out; rw [HD.out, idxS, if_neg hx] at this; exact this⟩
        case measure => simp [intOf]; omega
    · obtain rfl : k = ks.length := by omega
      go_wp2
      go_ret
      refine ⟨?_, rfl⟩
      rw [hI.out, List.drop_length]; rfl
theorem containsS_any (a : Option Addr) (c : Nat) (ks : List ByteArray) (v : ByteArray) (w : World) (h : Rd w a (sts ks)) (hl : ks.length < 2 ^ 42) :
    Calls Tryz.prog 164 #[.slice a ks.length c, .string v] w fun e w' => e = .returned (.bool (hasS ks v)) ∧ w = w' := by
  have HI := Lib.hid (indexS_any a c ks v w h hl)
  have hg := idxS_ge ks v 0
  generalize idxS ks v 0 = z at *
  generalize hasS ks v = b at *
  clear h
  by_cases hz : 0 ≤ z
  · obtain rfl := hg.1 hz
    clear hg
    go_enter Tryz.func164, Tryz.ntmps164
    go_wp2_with (go_at_call 194; refine HI.out.mono ?_; rintro e w' ⟨rfl, rfl⟩)
    go_ret
    exact ⟨ret_bool (by simp), rfl⟩
  · obtain rfl : b = false := by cases b with
      | false => rfl
      | true => exact absurd (hg.2 rfl) hz
    clear hg
    go_enter Tryz.func164, Tryz.ntmps164
    go_wp2_with (go_at_call 194; refine HI.out.mono ?_; rintro e w' ⟨rfl, rfl⟩)
    go_ret
    exact ⟨ret_bool (by simp; omega), rfl⟩

/-- '==' between a breach and none -/
theorem br_eq (a b c : Int) (s : ByteArray) (w : World) : (Op.equalIn 10000 76 (.agg #[.int .i64 a, .int .i64 b, .int .i64 c, .string s]) (.agg #[.int .i64 0, .int .i64 0, .int .i64 0, .string ⟨#[]⟩])).run Tryz.prog w = .ok (a == 0 && (b == 0 && (c == 0 && s.toList == []))) w := by
  have u3 := Tryz.underlying3
  have hS : Tryz.prog.underlying 76 = some (.struct (Tryz.prog.fieldsOf 76)) := by kernel_rfl
  have hp : Tryz.prog.stoodInHeld 76 = false := by kernel_rfl
  rw [show (10000 : Nat) = 9999 + 1 from rfl, run_equalIn_agg w 9999 76 _ _ hS hp]
  simp only [Program.fieldsOf, Tryz.underlying76]
  go_simp
  have he : (⟨#[]⟩ : ByteArray).toList = [] := by kernel_rfl
  by_cases h1 : a = 0 <;> by_cases h2 : b = 0 <;> by_cases h3 : c = 0 <;> by_cases h4 : s.toList = [] <;> simp [h1, h2, h3, h4]
theorem br_nz {a : Int} (h : a ≠ 0) (b c : Int) (s : ByteArray) (w : World) : (binOp .neq 76 (.agg #[.int .i64 a, .int .i64 b, .int .i64 c, .string s]) (.agg #[.int .i64 0, .int .i64 0, .int .i64 0, .string ⟨#[]⟩])).run Tryz.prog w = .ok (.bool true) w := by
  rw [run_neq_struct, br_eq]
  have : (a == 0) = false := by simpa using h
  simp [this]
theorem br_nz0 (w : World) : (binOp .neq 76 (.agg #[.int .i64 0, .int .i64 0, .int .i64 0, .string ⟨#[]⟩]) (.agg #[.int .i64 0, .int .i64 0, .int .i64 0, .string ⟨#[]⟩])).run Tryz.prog w = .ok (.bool false) w := by
  rw [run_neq_struct, br_eq]
  kernel_rfl
theorem br_ez {a : Int} (h : a ≠ 0) (b c : Int) (s : ByteArray) (w : World) : (binOp .eql 76 (.agg #[.int .i64 a, .int .i64 b, .int .i64 c, .string s]) (.agg #[.int .i64 0, .int .i64 0, .int .i64 0, .string ⟨#[]⟩])).run Tryz.prog w = .ok (.bool false) w := by
  rw [run_eql_struct, br_eq]
  have : (a == 0) = false := by simpa using h
  simp [this]
theorem br_ez0 (w : World) : (binOp .eql 76 (.agg #[.int .i64 0, .int .i64 0, .int .i64 0, .string ⟨#[]⟩]) (.agg #[.int .i64 0, .int .i64 0, .int .i64 0, .string ⟨#[]⟩])).run Tryz.prog w = .ok (.bool true) w := by
  rw [run_eql_struct, br_eq]
  kernel_rfl
/-- what a term breaks -/
theorem breach_any (t : Tm) (ns : List ByteArray) (a : Option Addr) (c : Nat) (bl : Bool) (w : World) (h : Rd w a (sts ns)) (hl : ns.length < 2 ^ 42) :
    Calls Tryz.prog 131 #[tmV t, .slice a ns.length c, .bool bl] w fun e w' => e = .returned (brV (breachL ns bl t)) ∧ Mod (fun _ => False) w w' := by
  obtain ⟨k, s⟩ := t
  unfold tmV
  simp only
  have hm : Mod (fun _ => False) w ((w.alloc (.cells #[.int .i64 k, .string s] 100)).alloc (.cells #[.int .i64 0, .int .i64 0, .int .i64 0, .string ⟨#[]⟩] 76)) := ((Mod.refl _ w).alloc _).alloc _
  have HC := Lib.hid (containsS_any a c ns s _ (h.mod hm (fun _ _ => id)) hl)
  obtain ⟨b, hb⟩ : ∃ b, b = breachL ns bl ⟨k, s⟩ := ⟨_, rfl⟩
  rw [← hb]
  unfold breachL at hb
  simp only at hb
  clear h hm
  by_cases h2 : k = 2
  · subst h2
    rw [if_pos rfl] at hb
    clear HC
    cases bl
    · rw [if_neg (by simp)] at hb
      subst hb
      go_enter Tryz.func131, Tryz.ntmps131
      go_wp2
      refine bodyPost_ret (v := .agg #[.int .i64 1, .int .i64 0, .int .i64 0, .string ⟨#[]⟩]) (by simp [results, Tryz.results131, go_sem]) rfl ⟨rfl, ((Mod.refl _ w).alloc _).alloc _⟩
    · rw [if_pos rfl] at hb
      subst hb
      go_enter Tryz.func131, Tryz.ntmps131
      go_wp2
      refine bodyPost_ret (v := .agg #[.int .i64 0, .int .i64 0, .int .i64 0, .string ⟨#[]⟩]) (by simp [results, Tryz.results131, go_sem]) rfl ⟨rfl, ((Mod.refl _ w).alloc _).alloc _⟩
  rw [if_neg h2] at hb
  by_cases h1 : k = 1 ∨ k = 5 ∨ k = 6 ∨ k = 7
  · rw [if_pos h1] at hb
    cases hh : hasS ns s
    · rw [hh] at HC
      rw [if_neg (by rw [hh]; simp)] at hb
      subst hb
      clear h2 hh
      rcases h1 with rfl | rfl | rfl | rfl
      all_goals
        go_enter Tryz.func131, Tryz.ntmps131
        go_wp2_with (go_at_call 164; refine HC.out.mono ?_; rintro e w' ⟨rfl, rfl⟩)
        refine bodyPost_ret (v := .agg #[.int .i64 2, .int .i64 0, .int .i64 0, .string s]) (by simp [results, Tryz.results131, go_sem]) rfl ⟨rfl, ((Mod.refl _ w).alloc _).alloc _⟩
    · rw [hh] at HC
      rw [if_pos hh] at hb
      subst hb
      clear h2 hh
      rcases h1 with rfl | rfl | rfl | rfl
      all_goals
        go_enter Tryz.func131, Tryz.ntmps131
        go_wp2_with (go_at_call 164; refine HC.out.mono ?_; rintro e w' ⟨rfl, rfl⟩)
        refine bodyPost_ret (v := .agg #[.int .i64 0, .int .i64 0, .int .i64 0, .string ⟨#[]⟩]) (by simp [results, Tryz.results131, go_sem]) rfl ⟨rfl, ((Mod.refl _ w).alloc _).alloc _⟩
  · rw [if_neg h1] at hb
    subst hb
    clear HC
    have e1 : (k == 1) = false := by simp; omega
    have e2 : (k == 2) = false := by simp; omega
    have e5 : (k == 5) = false := by simp; omega
    have e6 : (k == 6) = false := by simp; omega
    have e7 : (k == 7) = false := by simp; omega
    clear h1 h2
    go_enter Tryz.func131, Tryz.ntmps131
    go_wp2
    refine bodyPost_ret (v := .agg #[.int .i64 0, .int .i64 0, .int .i64 0, .string ⟨#[]⟩]) (by simp [results, Tryz.results131, go_sem]) rfl ⟨rfl, ((Mod.refl _ w).alloc _).alloc _⟩
theorem boundT_take (l : Lm) (k : Nat) (hk : k < l.atom.terms.length) (ns : List ByteArray) :
    ns ++ ((l.atom.terms.take (k + 1)).filter fun t => decide (l.kind = 1 ∧ t.kind = 1)).map (·.text) = (ns ++ ((l.atom.terms.take k).filter fun t => decide (l.kind = 1 ∧ t.kind = 1)).map (·.text)) ++ (if l.kind = 1 ∧ l.atom.terms[k].kind = 1 then [l.atom.terms[k].text] else []) := by
  rw [List.take_add_one, List.getElem?_eq_getElem hk, List.filter_append, List.map_append, List.append_assoc]
  congr 2
  simp only [Option.toList, List.filter_cons, List.filter_nil]
  split
  · rename_i h
    rw [if_pos (by simpa using h)]; rfl
  · rename_i h
    rw [if_neg (by simpa using h)]; rfl
theorem boundT_le (l : Lm) : (boundT l).length ≤ l.atom.terms.length := by
  unfold boundT
  rw [List.length_map]
  exact List.length_filter_le _ _
theorem boundL_le {ls : List Lm} {B : Nat} (h : ∀ l ∈ ls, l.atom.terms.length ≤ B) : (boundL ls).length ≤ ls.length * B := by
  induction ls with
  | nil => simp [boundL]
  | cons l ls ih =>
    have e : boundL (l :: ls) = boundT l ++ boundL ls := rfl
    have h1 := boundT_le l
    have h2 := h l (List.mem_cons_self ..)
    have h3 := ih (fun x hx => h x (List.mem_cons_of_mem _ hx))
    rw [e, List.length_append, List.length_cons, Nat.add_mul]
    omega
theorem boundL_take {ls : List Lm} {i : Nat} (h : i < ls.length) : boundL (ls.take (i + 1)) = boundL (ls.take i) ++ boundT ls[i] := by
  unfold boundL
  rw [List.take_add_one, List.getElem?_eq_getElem h, List.flatMap_append]
  simp
/-- the first of an atom's -/
def bT (l : Lm) (k : Nat) : List ByteArray := ((l.atom.terms.take k).filter fun t => decide (l.kind = 1 ∧ t.kind = 1)).map (·.text)
theorem bT_zero (l : Lm) : bT l 0 = [] := rfl
theorem bT_all (l : Lm) : bT l l.atom.terms.length = boundT l := by unfold bT; rw [List.take_length]; rfl
theorem bT_le (l : Lm) (k : Nat) : (bT l k).length ≤ l.atom.terms.length := by
  unfold bT
  rw [List.length_map]
  refine Nat.le_trans (List.length_filter_le _ _) ?_
  rw [List.length_take]; omega
theorem bT_yes {l : Lm} {k : Nat} (hk : k < l.atom.terms.length) (h1 : l.kind = 1) (h2 : l.atom.terms[k].kind = 1) : bT l (k + 1) = bT l k ++ [l.atom.terms[k].text] := by
  unfold bT
  rw [List.take_add_one, List.getElem?_eq_getElem hk, List.filter_append, List.map_append]
  simp [h1, h2]
theorem bT_no {l : Lm} {k : Nat} (hk : k < l.atom.terms.length) (h : ¬ (l.kind = 1 ∧ l.atom.terms[k].kind = 1)) : bT l (k + 1) = bT l k := by
  unfold bT
  rw [List.take_add_one, List.getElem?_eq_getElem hk, List.filter_append, List.map_append]
  simp [h]
theorem tiStr : TI Tryz.prog 93 9 1 16 := TI.mk' (z := .string ByteArray.empty) (by kernel_rfl) (by kernel_rfl) rfl (by omega)
theorem bound_any (r : Rm) (s b : Value) (w : World) (hl : LsAt w b r.body) (hn : r.body.length ≤ 2 ^ 20) (hn2 : ∀ l ∈ r.body, l.atom.terms.length ≤ 2 ^ 20) :
    Calls Tryz.prog 128 #[rmV r s b] w fun e w' => ∃ a c, e = .returned (.slice a (boundL r.body).length c) ∧ Mine.Own w' 9 1 a (boundL r.body).length c (sts (boundL r.body)) ∧ (∀ x, blk a = some x → w.heap.size ≤ x) ∧ Mod (fun _ => False) w w' := by
  obtain ⟨⟨pr, hts⟩, ls⟩ := r
  unfold rmV
  simp only at *
  obtain ⟨d1, k1, xs1, rfl, hx1, hr1, ht1⟩ := hl
  have HX1 := Lib.hid hx1; have HR1 := Lib.hid hr1; have HXT1 := Lib.hid ht1
  have HN2 := Lib.hid hn2
  have hm0 : Mod (fun _ => False) w (w.alloc (.cells #[.string pr, s, .slice d1 ls.length k1] 46)) := (Mod.refl _ w).alloc _
  have q1 : (w.alloc (.cells #[.string pr, s, .slice d1 ls.length k1] 46)).cell? ⟨w.heap.size, 2, none⟩ = some (.slice d1 ls.length k1) := cell_new rfl
  clear hx1 hr1 ht1 hn2
  go_enter Tryz.func128, Tryz.ntmps128
  go_wp2_with fail
  generalize (w.alloc (.cells #[.string pr, s, .slice d1 ls.length k1] 46)) = w0 at *
  have HM0 := Lib.hid hm0
  clear hm0 q1
  go_loopw [3, 11] (fun lv iv wr => ∃ (i : Nat) (a : Option Addr) (c : Nat), lv = .slice a (boundL (ls.take i)).length c ∧ iv = .int .i64 i ∧ i ≤ ls.length ∧ Hid (Mine.Own wr 9 1 a (boundL (ls.take i)).length c (sts (boundL (ls.take i)))) ∧
      Hid (∀ x, blk a = some x → w.heap.size ≤ x) ∧ Hid (Mod (fun _ => False) w wr)) (fun _ iv _ => ls.length - (intOf iv).toNat)
  case atStart => exact ⟨0, none, 0, rfl, rfl, Nat.zero_le _, Mine.Own.nil _ _ _, Lib.hid (fun b h => by simp at h), HM0⟩
  case round =>
    obtain ⟨i, a, c, rfl, rfl, hi, hO, hF, hM⟩ := hrel
    by_cases hlt : i < ls.length
    · obtain ⟨sk1, hx1, hmem1⟩ := xs_get HX1.out hlt
      obtain ⟨b1, o1, rfl, x0, x1, x2, x3, x4, x5, x6, x7⟩ := rd_cell8 (HR1.out.mod hM.out (fun _ _ => id)) hx1
      have htn := HN2.out _ (List.getElem_mem hlt)
      obtain ⟨sa, sc, hsk, hrt⟩ := HXT1.out _ hmem1
      simp only at hsk
      subst hsk
      have HRT := Lib.hid hrt
      have HBT := Lib.hid (boundL_take hlt)
      have HBL : Hid ((boundL (ls.take i)).length ≤ 2 ^ 40) := Lib.hid (by
        have h := boundL_le (ls := ls.take i) (B := 2 ^ 20) (fun l hl => HN2.out l (List.mem_of_mem_take hl))
        rw [List.length_take] at h
        have h2 : min i ls.length * 2 ^ 20 ≤ 2 ^ 20 * 2 ^ 20 := Nat.mul_le_mul_right _ (by omega)
        omega)
      clear hx1 hmem1 hrt
      generalize boundL (ls.take i) = pre at *
      generalize ls[i] = t at *
      obtain ⟨lk, ⟨lp, lts⟩, lo, ⟨ll1, ll2⟩, ⟨lr1, lr2⟩⟩ := t
      simp only at *
      have hb5 := heap_alloc_new wr (.cells #[.int .i64 lk, .string lp, .slice sa lts.length sc, .int .i64 lo, .int .i64 ll1, .string ll2, .int .i64 lr1, .string lr2] 102)
      have hm5 : Mod (fun _ => False) wr (wr.alloc (.cells #[.int .i64 lk, .string lp, .slice sa lts.length sc, .int .i64 lo, .int .i64 ll1, .string ll2, .int .i64 lr1, .string lr2] 102)) := (Mod.refl _ wr).alloc _
      have hO5 := hO.out.mod hm5 (fun _ _ => id)
      go_wp2_with fail
      obtain ⟨wo, rfl⟩ : ∃ wo, wo = wr := ⟨_, rfl⟩
      obtain ⟨w5, hw5⟩ : ∃ v, v = wo.alloc (.cells #[.int .i64 lk, .string lp, .slice sa lts.length sc, .int .i64 lo, .int .i64 ll1, .string ll2, .int .i64 lr1, .string lr2] 102) := ⟨_, rfl⟩
      rw [← hw5] at hb5 hm5 hO5 ⊢
      have hz5 : wo.heap.size < w5.heap.size := by rw [hw5]; simp
      have hne5 : blk a ≠ some wo.heap.size := fun e => by have := hO.out.lt _ e; omega
      have HB5 := Lib.hid hb5; have HM5 := Lib.hid (hM.out.trans hm5); have HO5 := Lib.hid hO5; have HZ5 := Lib.hid hz5; have HNE := Lib.hid hne5
      clear hb5 hm5 hO5 hw5 hO x0 x1 x2 x3 x4 x5 x6 x7 hz5 hne5
      go_loopw [3, 19] (fun lv iv v => ∃ (k : Nat) (a' : Option Addr) (c' : Nat), lv = .slice a' (pre ++ bT ⟨lk, ⟨lp, lts⟩, lo, ⟨ll1, ll2⟩, ⟨lr1, lr2⟩⟩ k).length c' ∧ iv = .int .i64 k ∧ k ≤ lts.length ∧
          Hid (Mine.Own v 9 1 a' (pre ++ bT ⟨lk, ⟨lp, lts⟩, lo, ⟨ll1, ll2⟩, ⟨lr1, lr2⟩⟩ k).length c' (sts (pre ++ bT ⟨lk, ⟨lp, lts⟩, lo, ⟨ll1, ll2⟩, ⟨lr1, lr2⟩⟩ k))) ∧ Hid (∀ x, blk a' = some x → w.heap.size ≤ x) ∧ Hid (blk a' ≠ some wo.heap.size) ∧
          Hid (Mod (fun _ => False) w v) ∧ Hid (v.heap[wo.heap.size]? = some (.cells #[.int .i64 lk, .string lp, .slice sa lts.length sc, .int .i64 lo, .int .i64 ll1, .string ll2, .int .i64 lr1, .string lr2] 102 (0, 0))) ∧ Hid (wo.heap.size < v.heap.size)) (fun _ iv _ => lts.length - (intOf iv).toNat)
      case atStart => exact ⟨0, a, c, by rw [bT_zero, List.append_nil], rfl, Nat.zero_le _, by rw [bT_zero, List.append_nil]; exact HO5, hF, HNE, HM5, HB5, HZ5⟩
      case round =>
        obtain ⟨k, a', c', rfl, rfl, hk, hO, hF', hne, hM', hB, hz⟩ := hrel
        have y0 := cell_at (j := 0) hB.out rfl
        by_cases hlk : k < lts.length
        · obtain ⟨b2, o2, rfl, t0, t1⟩ := rd_cell2 (HRT.out.mod hM'.out (fun _ _ => id)) hlk
          have HY := Lib.hid (fun (h1 : lk = 1) (h2 : lts[k].kind = 1) => bT_yes (l := ⟨lk, ⟨lp, lts⟩, lo, ⟨ll1, ll2⟩, ⟨lr1, lr2⟩⟩) hlk h1 h2)
          have HNo := Lib.hid (fun h => bT_no (l := ⟨lk, ⟨lp, lts⟩, lo, ⟨ll1, ll2⟩, ⟨lr1, lr2⟩⟩) hlk h)
          simp only at HY HNo
          have hle : (pre ++ bT ⟨lk, ⟨lp, lts⟩, lo, ⟨ll1, ll2⟩, ⟨lr1, lr2⟩⟩ k).length ≤ 2 ^ 41 := by
            have h1 := bT_le ⟨lk, ⟨lp, lts⟩, lo, ⟨ll1, ll2⟩, ⟨lr1, lr2⟩⟩ k
            have h2 := HBL.out
            simp only at h1
            rw [List.length_append]; omega
          generalize lts[k] = t at *
          obtain ⟨tk, tx⟩ := t
          simp only at *
          have hma : Mod (fun _ => False) wr (wr.alloc (.cells #[.int .i64 tk, .string tx] 100)) := (Mod.refl _ wr).alloc _
          have hba := hma.at hB.out id
          have z0 := cell_at (j := 0) hba rfl
          have hOa := hO.out.mod hma (fun _ _ => id)
          have HMA := Lib.hid hma; have HBA := Lib.hid hba; have HOA := Lib.hid hOa
          clear hma hba hOa
          by_cases h1 : lk = 1
          · subst h1
            by_cases h2 : tk = 1
            · subst h2
              have HY1 := HY.out rfl rfl
              go_wp2_with (at_builtin; refine wpL_appendN (us := [.string tx]) rfl (.tmp 31) (.tmp 34) 93 rfl tiStr rfl HOA.out rfl rfl rfl (by omega) (by unfold maxLen; omega) ?_; intro a3 c3 w3 hO3 hG3 _; have HO3 := Lib.hid hO3; have HG3 := Lib.hid hG3; clear hO3 hG3)
              go_roundw
              case rel =>
                refine ⟨k + 1, a3, c3, by rw [HY1]; simp [Nat.add_assoc], by go_num, hlk, ?_, Lib.hid (fun x hx => ?_), Lib.hid (HG3.out.ne (Nat.lt_of_lt_of_le hz.out HMA.out.size) hne.out), Lib.hid ((hM'.out.trans HMA.out).step HG3.out.mod (fun j hj e => by have := hF'.out j e; omega)), Lib.hid (HG3.out.mod.at HBA.out (fun e => hne.out e)), Lib.hid (Nat.lt_of_lt_of_le hz.out (Nat.le_trans HMA.out.size HG3.out.mod.size))⟩
                · unfold Hid
                  rw [HY1, ← List.append_assoc]
                  have h := HO3.out
                  simpa [sts, Nat.add_assoc] using h
                · rcases HG3.out.pos with e | ⟨g, e, hg⟩
                  · exact hF'.out x (by rw [← e]; exact hx)
                  · rw [e] at hx
                    have hx2 : g = x := Option.some.inj hx
                    have h1 := hM'.out.size
                    have h2 := HMA.out.size
                    omega
              case measure => simp [intOf]; omega
            · have e2 : (tk == 1) = false := by simpa using h2
              have HNo1 := HNo.out (fun h => h2 h.2)
              go_wp2_with fail
              go_roundw
              case rel => exact ⟨k + 1, a', c', by rw [HNo1], by go_num, hlk, by rw [HNo1]; exact HOA, hF', hne, Lib.hid (hM'.out.trans HMA.out), HBA, Lib.hid (Nat.lt_of_lt_of_le hz.out HMA.out.size)⟩
              case measure => simp [intOf]; omega
          · have e1 : (lk == 1) = false := by simpa using h1
            have HNo1 := HNo.out (fun h => h1 h.1)
            go_wp2_with fail
            go_roundw
            case rel => exact ⟨k + 1, a', c', by rw [HNo1], by go_num, hlk, by rw [HNo1]; exact HOA, hF', hne, Lib.hid (hM'.out.trans HMA.out), HBA, Lib.hid (Nat.lt_of_lt_of_le hz.out HMA.out.size)⟩
            case measure => simp [intOf]; omega
        · obtain rfl : k = lts.length := by omega
          have hba := bT_all ⟨lk, ⟨lp, lts⟩, lo, ⟨ll1, ll2⟩, ⟨lr1, lr2⟩⟩
          simp only at hba
          rw [hba, ← HBT.out] at hO
          have hln : (boundL (ls.take (i + 1))).length = pre.length + (bT ⟨lk, ⟨lp, lts⟩, lo, ⟨ll1, ll2⟩, ⟨lr1, lr2⟩⟩ lts.length).length := by rw [HBT.out, hba, List.length_append]
          have HLN := Lib.hid hln
          clear hba hln
          go_wp2_with fail
          go_roundw
          case rel => exact ⟨i + 1, a', c', by rw [HLN.out, List.length_append], by go_num, hlt, hO, hF', hM'⟩
          case measure => simp [intOf]; omega
    · obtain rfl : i = ls.length := by omega
      have hO2 := hO.out
      rw [List.take_length] at hO2 ⊢
      have HO2 := Lib.hid hO2
      clear hO2 hO
      go_wp2_with fail
      go_ret
      exact ⟨_, _, rfl, HO2.out, hF.out, hM.out⟩
end Go.Proofs.YteecbbnpgmceiaaGreatDoor
/-
  schema.Safe: its closures, first, and itself, walked.
-/
namespace Go.Proofs.YteecbbnpgmceiaaGreatDoor
open Go Go.RowKit Go.Mine
set_option linter.unusedVariables false
set_option maxHeartbeats 4000000
set_option maxRecDepth 100000

/-- the box of the names, and the names -/
structure NsAt (w : World) (g : Nat) (ns : List ByteArray) (a : Option Addr) (c : Nat) : Prop where
  box : w.heap[g]? = some (.cells #[.slice a ns.length c] 93 (0, 0))
  rd : Rd w a (sts ns)
  few : ns.length ≤ 2 ^ 41
theorem NsAt.mod {w w' : World} {g : Nat} {ns : List ByteArray} {a : Option Addr} {c : Nat} (h : NsAt w g ns a c) (m : Mod (fun _ => False) w w') : NsAt w' g ns a c := ⟨m.at h.box id, h.rd.mod m (fun _ _ => id), h.few⟩
theorem two_new (w : World) (a b : Obj) : ((w.alloc a).alloc b).heap[w.heap.size]? = some a ∧ ((w.alloc a).alloc b).heap[w.heap.size + 1]? = some b := by
  refine ⟨((Mod.refl (fun _ => False) _).alloc _).at (heap_alloc_new w a) id, ?_⟩
  have h := heap_alloc_new (w.alloc a) b
  rw [World.size_alloc] at h
  exact h
/-- a breach stored whole into a box reads so -/
theorem store_br {S : Nat → Prop} {w w3 : World} {p : Nat} {t : TypeId} (b : Br) {c : Array Value} (hc : c.size = 4) (hb : w3.heap[p]? = some (.cells c t (0, 0))) (hm : Mod S w w3) (hp : p < w.heap.size → S p) :
    Mod S w ((((w3.setCell ⟨p, 0, none⟩ (.int .i64 b.kind)).setCell ⟨p, 1, none⟩ (.int .i64 b.lit)).setCell ⟨p, 2, none⟩ (.int .i64 b.place)).setCell ⟨p, 3, none⟩ (.string b.var)) ∧
    ((((w3.setCell ⟨p, 0, none⟩ (.int .i64 b.kind)).setCell ⟨p, 1, none⟩ (.int .i64 b.lit)).setCell ⟨p, 2, none⟩ (.int .i64 b.place)).setCell ⟨p, 3, none⟩ (.string b.var)).heap[p]? = some (.cells #[.int .i64 b.kind, .int .i64 b.lit, .int .i64 b.place, .string b.var] t (0, 0)) := by
  refine ⟨(((hm.setCell (p := ⟨p, 0, none⟩) hp _).setCell (p := ⟨p, 1, none⟩) hp _).setCell (p := ⟨p, 2, none⟩) hp _).setCell (p := ⟨p, 3, none⟩) hp _, ?_⟩
  have h := heap_setCell_at (j := 3) (.string b.var) (heap_setCell_at (j := 2) (.int .i64 b.place) (heap_setCell_at (j := 1) (.int .i64 b.lit) (heap_setCell_at (j := 0) (.int .i64 b.kind) hb)))
  rw [h]
  obtain ⟨l⟩ := c
  match l, hc with
  | [_, _, _, _], _ => rfl
theorem neg_any (t : Tm) (g : Nat) (ns : List ByteArray) (a : Option Addr) (c : Nat) (w : World) (h : NsAt w g ns a c) :
    Calls Tryz.prog 132 #[tmV t, .pointer (some ⟨g, 0, none⟩)] w fun e w' => e = .returned (brV (negF ns t)) ∧ Mod (fun _ => False) w w' := by
  obtain ⟨k, s⟩ := t
  unfold negF
  simp only
  have hm : Mod (fun _ => False) w ((w.alloc (.cells #[.int .i64 k, .string s] 100)).alloc (.cells #[.int .i64 0, .int .i64 0, .int .i64 0, .string ⟨#[]⟩] 76)) := ((Mod.refl _ w).alloc _).alloc _
  have h2 := h.mod hm
  have c0 := cell_at (j := 0) h2.box rfl
  have HB := Lib.hid (breach_any ⟨k, s⟩ ns a c true _ h2.rd (by have := h.few; omega))
  have HN := Lib.hid (two_new w (.cells #[.int .i64 k, .string s] 100) (.cells #[.int .i64 0, .int .i64 0, .int .i64 0, .string ⟨#[]⟩] 76)).2
  have HM := Lib.hid hm
  unfold tmV at HB ⊢
  simp only at HB ⊢
  generalize breachL ns true ⟨k, s⟩ = b at *
  unfold brV at HB ⊢
  clear hm h2
  by_cases hk : k = 1
  · subst hk
    rw [if_neg (by simp)]
    go_enter Tryz.func132, Tryz.ntmps132
    go_wp2_with fail
    refine HB.out.mono ?_
    rintro e w3 ⟨rfl, hM3⟩
    have hb := hM3.at HN.out id
    have c0 := cell_at (j := 0) hb rfl
    have c1 := cell_at (j := 1) hb rfl
    have c2 := cell_at (j := 2) hb rfl
    have c3 := cell_at (j := 3) hb rfl
    have f0 : w3.frozen? ⟨w.heap.size + 1, 0, none⟩ = false := frozen_at hb
    have f1 : w3.frozen? ⟨w.heap.size + 1, 1, none⟩ = false := frozen_at hb
    have f2 : w3.frozen? ⟨w.heap.size + 1, 2, none⟩ = false := frozen_at hb
    have f3 : w3.frozen? ⟨w.heap.size + 1, 3, none⟩ = false := frozen_at hb
    have HST := Lib.hid (store_br b rfl hb (HM.out.trans hM3) (by omega))
    clear hb hM3 HN HM HB
    go_wp2
    refine bodyPost_ret (v := .agg #[.int .i64 b.kind, .int .i64 b.lit, .int .i64 b.place, .string b.var]) ?_ rfl ⟨rfl, HST.out.1⟩
    have hc := HST.out.2
    have q0 := cell_at (j := 0) hc rfl
    have q1 := cell_at (j := 1) hc rfl
    have q2 := cell_at (j := 2) hc rfl
    have q3 := cell_at (j := 3) hc rfl
    clear hc HST c0 c1 c2 c3 f0 f1 f2 f3
    generalize ((((w3.setCell ⟨w.heap.size + 1, 0, none⟩ (.int .i64 b.kind)).setCell ⟨w.heap.size + 1, 1, none⟩ (.int .i64 b.lit)).setCell ⟨w.heap.size + 1, 2, none⟩ (.int .i64 b.place)).setCell ⟨w.heap.size + 1, 3, none⟩ (.string b.var)) = W at *
    simp [results, Tryz.results132, go_sem, q0, q1, q2, q3]
  · have e1 : (k == 1) = false := by simpa using hk
    rw [if_pos hk]
    clear hk
    go_enter Tryz.func132, Tryz.ntmps132
    go_wp2_with fail
    exact bodyPost_ret (v := .agg #[.int .i64 0, .int .i64 0, .int .i64 0, .string ⟨#[]⟩]) (by simp [results, Tryz.results132, go_sem]) rfl ⟨rfl, HM.out⟩
theorem cmp_any (t : Tm) (g : Nat) (ns : List ByteArray) (a : Option Addr) (c : Nat) (w : World) (h : NsAt w g ns a c) :
    Calls Tryz.prog 133 #[tmV t, .pointer (some ⟨g, 0, none⟩)] w fun e w' => e = .returned (brV (cmpF ns t)) ∧ Mod (fun _ => False) w w' := by
  obtain ⟨k, s⟩ := t
  unfold cmpF
  simp only
  have hm : Mod (fun _ => False) w ((w.alloc (.cells #[.int .i64 k, .string s] 100)).alloc (.cells #[.int .i64 0, .int .i64 0, .int .i64 0, .string ⟨#[]⟩] 76)) := ((Mod.refl _ w).alloc _).alloc _
  have h2 := h.mod hm
  have c0 := cell_at (j := 0) h2.box rfl
  have HB := Lib.hid (breach_any ⟨k, s⟩ ns a c false _ h2.rd (by have := h.few; omega))
  have HN := Lib.hid (two_new w (.cells #[.int .i64 k, .string s] 100) (.cells #[.int .i64 0, .int .i64 0, .int .i64 0, .string ⟨#[]⟩] 76)).2
  have HM := Lib.hid hm
  unfold tmV at HB ⊢
  simp only at HB ⊢
  generalize breachL ns false ⟨k, s⟩ = b at *
  unfold brV at HB ⊢
  clear hm h2
  by_cases hk : k = 1 ∨ k = 2
  · rw [if_neg (by omega)]
    rcases hk with rfl | rfl
    · go_enter Tryz.func133, Tryz.ntmps133
      go_wp2_with fail
      refine HB.out.mono ?_
      rintro e w3 ⟨rfl, hM3⟩
      have hb := hM3.at HN.out id
      have c0 := cell_at (j := 0) hb rfl
      have c1 := cell_at (j := 1) hb rfl
      have c2 := cell_at (j := 2) hb rfl
      have c3 := cell_at (j := 3) hb rfl
      have f0 : w3.frozen? ⟨w.heap.size + 1, 0, none⟩ = false := frozen_at hb
      have f1 : w3.frozen? ⟨w.heap.size + 1, 1, none⟩ = false := frozen_at hb
      have f2 : w3.frozen? ⟨w.heap.size + 1, 2, none⟩ = false := frozen_at hb
      have f3 : w3.frozen? ⟨w.heap.size + 1, 3, none⟩ = false := frozen_at hb
      have HST := Lib.hid (store_br b rfl hb (HM.out.trans hM3) (by omega))
      clear hb hM3 HN HM HB
      go_wp2
      refine bodyPost_ret (v := .agg #[.int .i64 b.kind, .int .i64 b.lit, .int .i64 b.place, .string b.var]) ?_ rfl ⟨rfl, HST.out.1⟩
      have hc := HST.out.2
      have q0 := cell_at (j := 0) hc rfl
      have q1 := cell_at (j := 1) hc rfl
      have q2 := cell_at (j := 2) hc rfl
      have q3 := cell_at (j := 3) hc rfl
      clear hc HST c0 c1 c2 c3 f0 f1 f2 f3
      generalize ((((w3.setCell ⟨w.heap.size + 1, 0, none⟩ (.int .i64 b.kind)).setCell ⟨w.heap.size + 1, 1, none⟩ (.int .i64 b.lit)).setCell ⟨w.heap.size + 1, 2, none⟩ (.int .i64 b.place)).setCell ⟨w.heap.size + 1, 3, none⟩ (.string b.var)) = W at *
      simp [results, Tryz.results133, go_sem, q0, q1, q2, q3]
    · go_enter Tryz.func133, Tryz.ntmps133
      go_wp2_with fail
      refine HB.out.mono ?_
      rintro e w3 ⟨rfl, hM3⟩
      have hb := hM3.at HN.out id
      have c0 := cell_at (j := 0) hb rfl
      have c1 := cell_at (j := 1) hb rfl
      have c2 := cell_at (j := 2) hb rfl
      have c3 := cell_at (j := 3) hb rfl
      have f0 : w3.frozen? ⟨w.heap.size + 1, 0, none⟩ = false := frozen_at hb
      have f1 : w3.frozen? ⟨w.heap.size + 1, 1, none⟩ = false := frozen_at hb
      have f2 : w3.frozen? ⟨w.heap.size + 1, 2, none⟩ = false := frozen_at hb
      have f3 : w3.frozen? ⟨w.heap.size + 1, 3, none⟩ = false := frozen_at hb
      have HST := Lib.hid (store_br b rfl hb (HM.out.trans hM3) (by omega))
      clear hb hM3 HN HM HB
      go_wp2
      refine bodyPost_ret (v := .agg #[.int .i64 b.kind, .int .i64 b.lit, .int .i64 b.place, .string b.var]) ?_ rfl ⟨rfl, HST.out.1⟩
      have hc := HST.out.2
      have q0 := cell_at (j := 0) hc rfl
      have q1 := cell_at (j := 1) hc rfl
      have q2 := cell_at (j := 2) hc rfl
      have q3 := cell_at (j := 3) hc rfl
      clear hc HST c0 c1 c2 c3 f0 f1 f2 f3
      generalize ((((w3.setCell ⟨w.heap.size + 1, 0, none⟩ (.int .i64 b.kind)).setCell ⟨w.heap.size + 1, 1, none⟩ (.int .i64 b.lit)).setCell ⟨w.heap.size + 1, 2, none⟩ (.int .i64 b.place)).setCell ⟨w.heap.size + 1, 3, none⟩ (.string b.var)) = W at *
      simp [results, Tryz.results133, go_sem, q0, q1, q2, q3]
  · have e1 : (k == 1) = false := by simp; omega
    have e2 : (k == 2) = false := by simp; omega
    have n1 : (k != 1) = true := by simp; omega
    have n2 : (k != 2) = true := by simp; omega
    have k1 : ¬ k = 1 := by omega
    have k2 : ¬ k = 2 := by omega
    rw [if_pos (by omega)]
    clear hk
    go_enter Tryz.func133, Tryz.ntmps133
    go_wp2_with fail
    exact bodyPost_ret (v := .agg #[.int .i64 0, .int .i64 0, .int .i64 0, .string ⟨#[]⟩]) (by simp [results, Tryz.results133, go_sem]) rfl ⟨rfl, HM.out⟩
theorem head_any (t : Tm) (g : Nat) (ns : List ByteArray) (a : Option Addr) (c : Nat) (g2 : Nat) (pr : ByteArray) (sv : Value) (ba : Option Addr) (n bc : Nat) (w : World) (h : NsAt w g ns a c) (hr : w.heap[g2]? = some (.cells #[.string pr, sv, .slice ba n bc] 46 (0, 0))) (hn : n < 2 ^ 40) :
    Calls Tryz.prog 130 #[tmV t, .pointer (some ⟨g, 0, none⟩), .pointer (some ⟨g2, 0, none⟩)] w fun e w' => e = .returned (brV (headF ns (decide (n = 0)) t)) ∧ Mod (fun _ => False) w w' := by
  obtain ⟨k, s⟩ := t
  have hok := breachL_ok ns false ⟨k, s⟩
  unfold headF
  simp only
  have HR := Lib.hid hr
  clear hr
  have hm : Mod (fun _ => False) w ((w.alloc (.cells #[.int .i64 k, .string s] 100)).alloc (.cells #[.int .i64 0, .int .i64 0, .int .i64 0, .string ⟨#[]⟩] 76)) := ((Mod.refl _ w).alloc _).alloc _
  have h2 := h.mod hm
  have c0 := cell_at (j := 0) h2.box rfl
  have HB := Lib.hid (breach_any ⟨k, s⟩ ns a c false _ h2.rd (by have := h.few; omega))
  have HN := Lib.hid (two_new w (.cells #[.int .i64 k, .string s] 100) (.cells #[.int .i64 0, .int .i64 0, .int .i64 0, .string ⟨#[]⟩] 76)).2
  have HM := Lib.hid hm
  unfold tmV at HB ⊢
  simp only at HB ⊢
  generalize breachL ns false ⟨k, s⟩ = b at *
  unfold brV at HB ⊢
  clear hm h2
  have hHN := HN.out
  have HN0 := Lib.hid (two_new w (.cells #[.int .i64 k, .string s] 100) (.cells #[.int .i64 0, .int .i64 0, .int .i64 0, .string ⟨#[]⟩] 76)).1
  have b0 := br_ez0
  rcases hok with rfl | hk0
  · unfold br0 emptyB at HB ⊢
    simp only at HB ⊢
    by_cases h47 : (4 ≤ k ∧ k ≤ 7) ∧ n = 0
    · obtain ⟨⟨h4, h7⟩, rfl⟩ := h47
      have g4 : (decide ((4 : Int) ≤ k)) = true := decide_eq_true h4
      have g7 : (decide (k ≤ (7 : Int))) = true := decide_eq_true h7
      rw [if_pos ⟨trivial, h4, h7, by decide⟩]
      go_enter Tryz.func130, Tryz.ntmps130
      go_wp2_with fail
      refine HB.out.mono ?_
      rintro e w3 ⟨rfl, hM3⟩
      have c5 := ((HM.out.trans hM3).alloc (.cells #[.int .i64 0, .int .i64 0, .int .i64 0, .string ⟨#[]⟩] 76)).cell (cell_at (j := 2) HR.out rfl) id
      have d0 := cell_at (j := 0) ((hM3.alloc (.cells #[.int .i64 0, .int .i64 0, .int .i64 0, .string ⟨#[]⟩] 76)).at HN0.out id) rfl
      have hb := (hM3.alloc (.cells #[.int .i64 3, .int .i64 0, .int .i64 0, .string ⟨#[]⟩] 76)).at hHN id
      have c0 := cell_at (j := 0) hb rfl
      have c1 := cell_at (j := 1) hb rfl
      have c2 := cell_at (j := 2) hb rfl
      have c3 := cell_at (j := 3) hb rfl
      have f0 : (w3.alloc (.cells #[.int .i64 3, .int .i64 0, .int .i64 0, .string ⟨#[]⟩] 76)).frozen? ⟨w.heap.size + 1, 0, none⟩ = false := frozen_at hb
      have f1 : (w3.alloc (.cells #[.int .i64 3, .int .i64 0, .int .i64 0, .string ⟨#[]⟩] 76)).frozen? ⟨w.heap.size + 1, 1, none⟩ = false := frozen_at hb
      have f2 : (w3.alloc (.cells #[.int .i64 3, .int .i64 0, .int .i64 0, .string ⟨#[]⟩] 76)).frozen? ⟨w.heap.size + 1, 2, none⟩ = false := frozen_at hb
      have f3 : (w3.alloc (.cells #[.int .i64 3, .int .i64 0, .int .i64 0, .string ⟨#[]⟩] 76)).frozen? ⟨w.heap.size + 1, 3, none⟩ = false := frozen_at hb
      have HST := Lib.hid (store_br (⟨3, 0, 0, ⟨#[]⟩⟩ : Br) rfl hb ((HM.out.trans hM3).alloc _) (by omega))
      clear hb hM3
      go_wp2_with fail
      have hc := HST.out.2
      have q0 := cell_at (j := 0) hc rfl
      have q1 := cell_at (j := 1) hc rfl
      have q2 := cell_at (j := 2) hc rfl
      have q3 := cell_at (j := 3) hc rfl
      have hmm := HST.out.1
      clear hc HST c0 c1 c2 c3 f0 f1 f2 f3
      refine bodyPost_ret (v := .agg #[.int .i64 ((⟨3, 0, 0, ⟨#[]⟩⟩ : Br)).kind, .int .i64 ((⟨3, 0, 0, ⟨#[]⟩⟩ : Br)).lit, .int .i64 ((⟨3, 0, 0, ⟨#[]⟩⟩ : Br)).place, .string ((⟨3, 0, 0, ⟨#[]⟩⟩ : Br)).var]) ?_ rfl ⟨rfl, hmm⟩
      simp [results, Tryz.results130, go_sem, q0, q1, q2, q3]
    · rw [if_neg (by rintro ⟨_, h4, h7, h0⟩; exact h47 ⟨⟨h4, h7⟩, by simpa using h0⟩)]
      by_cases h4 : 4 ≤ k
      · have g4 : (decide ((4 : Int) ≤ k)) = true := decide_eq_true h4
        by_cases h7 : k ≤ 7
        · have g7 : (decide (k ≤ (7 : Int))) = true := decide_eq_true h7
          have hn0 : n ≠ 0 := fun e => h47 ⟨⟨h4, h7⟩, e⟩
          have en : ((n : Int) == 0) = false := by simp; omega
          go_enter Tryz.func130, Tryz.ntmps130
          go_wp2_with fail
          refine HB.out.mono ?_
          rintro e w3 ⟨rfl, hM3⟩
          have c5 := ((HM.out.trans hM3).alloc (.cells #[.int .i64 0, .int .i64 0, .int .i64 0, .string ⟨#[]⟩] 76)).cell (cell_at (j := 2) HR.out rfl) id
          have d0 := cell_at (j := 0) ((hM3.alloc (.cells #[.int .i64 0, .int .i64 0, .int .i64 0, .string ⟨#[]⟩] 76)).at HN0.out id) rfl
          have hb := (hM3.alloc (.cells #[.int .i64 0, .int .i64 0, .int .i64 0, .string ⟨#[]⟩] 76)).at hHN id
          have c0 := cell_at (j := 0) hb rfl
          have c1 := cell_at (j := 1) hb rfl
          have c2 := cell_at (j := 2) hb rfl
          have c3 := cell_at (j := 3) hb rfl
          have f0 : (w3.alloc (.cells #[.int .i64 0, .int .i64 0, .int .i64 0, .string ⟨#[]⟩] 76)).frozen? ⟨w.heap.size + 1, 0, none⟩ = false := frozen_at hb
          have f1 : (w3.alloc (.cells #[.int .i64 0, .int .i64 0, .int .i64 0, .string ⟨#[]⟩] 76)).frozen? ⟨w.heap.size + 1, 1, none⟩ = false := frozen_at hb
          have f2 : (w3.alloc (.cells #[.int .i64 0, .int .i64 0, .int .i64 0, .string ⟨#[]⟩] 76)).frozen? ⟨w.heap.size + 1, 2, none⟩ = false := frozen_at hb
          have f3 : (w3.alloc (.cells #[.int .i64 0, .int .i64 0, .int .i64 0, .string ⟨#[]⟩] 76)).frozen? ⟨w.heap.size + 1, 3, none⟩ = false := frozen_at hb
          have HST := Lib.hid (store_br (⟨0, 0, 0, ⟨#[]⟩⟩ : Br) rfl hb ((HM.out.trans hM3).alloc _) (by omega))
          clear hb hM3
          go_wp2_with fail
          have hc := HST.out.2
          have q0 := cell_at (j := 0) hc rfl
          have q1 := cell_at (j := 1) hc rfl
          have q2 := cell_at (j := 2) hc rfl
          have q3 := cell_at (j := 3) hc rfl
          have hmm := HST.out.1
          clear hc HST c0 c1 c2 c3 f0 f1 f2 f3
          refine bodyPost_ret (v := .agg #[.int .i64 ((⟨0, 0, 0, ⟨#[]⟩⟩ : Br)).kind, .int .i64 ((⟨0, 0, 0, ⟨#[]⟩⟩ : Br)).lit, .int .i64 ((⟨0, 0, 0, ⟨#[]⟩⟩ : Br)).place, .string ((⟨0, 0, 0, ⟨#[]⟩⟩ : Br)).var]) ?_ rfl ⟨rfl, hmm⟩
          simp [results, Tryz.results130, go_sem, q0, q1, q2, q3]
        · have g7 : (decide (k ≤ (7 : Int))) = false := decide_eq_false h7
          go_enter Tryz.func130, Tryz.ntmps130
          go_wp2_with fail
          refine HB.out.mono ?_
          rintro e w3 ⟨rfl, hM3⟩
          have c5 := ((HM.out.trans hM3).alloc (.cells #[.int .i64 0, .int .i64 0, .int .i64 0, .string ⟨#[]⟩] 76)).cell (cell_at (j := 2) HR.out rfl) id
          have d0 := cell_at (j := 0) ((hM3.alloc (.cells #[.int .i64 0, .int .i64 0, .int .i64 0, .string ⟨#[]⟩] 76)).at HN0.out id) rfl
          have hb := (hM3.alloc (.cells #[.int .i64 0, .int .i64 0, .int .i64 0, .string ⟨#[]⟩] 76)).at hHN id
          have c0 := cell_at (j := 0) hb rfl
          have c1 := cell_at (j := 1) hb rfl
          have c2 := cell_at (j := 2) hb rfl
          have c3 := cell_at (j := 3) hb rfl
          have f0 : (w3.alloc (.cells #[.int .i64 0, .int .i64 0, .int .i64 0, .string ⟨#[]⟩] 76)).frozen? ⟨w.heap.size + 1, 0, none⟩ = false := frozen_at hb
          have f1 : (w3.alloc (.cells #[.int .i64 0, .int .i64 0, .int .i64 0, .string ⟨#[]⟩] 76)).frozen? ⟨w.heap.size + 1, 1, none⟩ = false := frozen_at hb
          have f2 : (w3.alloc (.cells #[.int .i64 0, .int .i64 0, .int .i64 0, .string ⟨#[]⟩] 76)).frozen? ⟨w.heap.size + 1, 2, none⟩ = false := frozen_at hb
          have f3 : (w3.alloc (.cells #[.int .i64 0, .int .i64 0, .int .i64 0, .string ⟨#[]⟩] 76)).frozen? ⟨w.heap.size + 1, 3, none⟩ = false := frozen_at hb
          have HST := Lib.hid (store_br (⟨0, 0, 0, ⟨#[]⟩⟩ : Br) rfl hb ((HM.out.trans hM3).alloc _) (by omega))
          clear hb hM3
          go_wp2_with fail
          have hc := HST.out.2
          have q0 := cell_at (j := 0) hc rfl
          have q1 := cell_at (j := 1) hc rfl
          have q2 := cell_at (j := 2) hc rfl
          have q3 := cell_at (j := 3) hc rfl
          have hmm := HST.out.1
          clear hc HST c0 c1 c2 c3 f0 f1 f2 f3
          refine bodyPost_ret (v := .agg #[.int .i64 ((⟨0, 0, 0, ⟨#[]⟩⟩ : Br)).kind, .int .i64 ((⟨0, 0, 0, ⟨#[]⟩⟩ : Br)).lit, .int .i64 ((⟨0, 0, 0, ⟨#[]⟩⟩ : Br)).place, .string ((⟨0, 0, 0, ⟨#[]⟩⟩ : Br)).var]) ?_ rfl ⟨rfl, hmm⟩
          simp [results, Tryz.results130, go_sem, q0, q1, q2, q3]
      · have g4 : (decide ((4 : Int) ≤ k)) = false := decide_eq_false h4
        go_enter Tryz.func130, Tryz.ntmps130
        go_wp2_with fail
        refine HB.out.mono ?_
        rintro e w3 ⟨rfl, hM3⟩
        have c5 := ((HM.out.trans hM3).alloc (.cells #[.int .i64 0, .int .i64 0, .int .i64 0, .string ⟨#[]⟩] 76)).cell (cell_at (j := 2) HR.out rfl) id
        have d0 := cell_at (j := 0) ((hM3.alloc (.cells #[.int .i64 0, .int .i64 0, .int .i64 0, .string ⟨#[]⟩] 76)).at HN0.out id) rfl
        have hb := (hM3.alloc (.cells #[.int .i64 0, .int .i64 0, .int .i64 0, .string ⟨#[]⟩] 76)).at hHN id
        have c0 := cell_at (j := 0) hb rfl
        have c1 := cell_at (j := 1) hb rfl
        have c2 := cell_at (j := 2) hb rfl
        have c3 := cell_at (j := 3) hb rfl
        have f0 : (w3.alloc (.cells #[.int .i64 0, .int .i64 0, .int .i64 0, .string ⟨#[]⟩] 76)).frozen? ⟨w.heap.size + 1, 0, none⟩ = false := frozen_at hb
        have f1 : (w3.alloc (.cells #[.int .i64 0, .int .i64 0, .int .i64 0, .string ⟨#[]⟩] 76)).frozen? ⟨w.heap.size + 1, 1, none⟩ = false := frozen_at hb
        have f2 : (w3.alloc (.cells #[.int .i64 0, .int .i64 0, .int .i64 0, .string ⟨#[]⟩] 76)).frozen? ⟨w.heap.size + 1, 2, none⟩ = false := frozen_at hb
        have f3 : (w3.alloc (.cells #[.int .i64 0, .int .i64 0, .int .i64 0, .string ⟨#[]⟩] 76)).frozen? ⟨w.heap.size + 1, 3, none⟩ = false := frozen_at hb
        have HST := Lib.hid (store_br (⟨0, 0, 0, ⟨#[]⟩⟩ : Br) rfl hb ((HM.out.trans hM3).alloc _) (by omega))
        clear hb hM3
        go_wp2_with fail
        have hc := HST.out.2
        have q0 := cell_at (j := 0) hc rfl
        have q1 := cell_at (j := 1) hc rfl
        have q2 := cell_at (j := 2) hc rfl
        have q3 := cell_at (j := 3) hc rfl
        have hmm := HST.out.1
        clear hc HST c0 c1 c2 c3 f0 f1 f2 f3
        refine bodyPost_ret (v := .agg #[.int .i64 ((⟨0, 0, 0, ⟨#[]⟩⟩ : Br)).kind, .int .i64 ((⟨0, 0, 0, ⟨#[]⟩⟩ : Br)).lit, .int .i64 ((⟨0, 0, 0, ⟨#[]⟩⟩ : Br)).place, .string ((⟨0, 0, 0, ⟨#[]⟩⟩ : Br)).var]) ?_ rfl ⟨rfl, hmm⟩
        simp [results, Tryz.results130, go_sem, q0, q1, q2, q3]
  · rw [if_neg (fun e => hk0 e.1)]
    obtain ⟨b1, b2, b3, b4⟩ := b
    simp only at HB hk0 ⊢
    have b5 := fun w => br_ez hk0 b2 b3 b4 w
    go_enter Tryz.func130, Tryz.ntmps130
    go_wp2_with fail
    refine HB.out.mono ?_
    rintro e w3 ⟨rfl, hM3⟩
    have c5 := ((HM.out.trans hM3).alloc (.cells #[.int .i64 b1, .int .i64 b2, .int .i64 b3, .string b4] 76)).cell (cell_at (j := 2) HR.out rfl) id
    have d0 := cell_at (j := 0) ((hM3.alloc (.cells #[.int .i64 b1, .int .i64 b2, .int .i64 b3, .string b4] 76)).at HN0.out id) rfl
    have hb := (hM3.alloc (.cells #[.int .i64 b1, .int .i64 b2, .int .i64 b3, .string b4] 76)).at hHN id
    have c0 := cell_at (j := 0) hb rfl
    have c1 := cell_at (j := 1) hb rfl
    have c2 := cell_at (j := 2) hb rfl
    have c3 := cell_at (j := 3) hb rfl
    have f0 : (w3.alloc (.cells #[.int .i64 b1, .int .i64 b2, .int .i64 b3, .string b4] 76)).frozen? ⟨w.heap.size + 1, 0, none⟩ = false := frozen_at hb
    have f1 : (w3.alloc (.cells #[.int .i64 b1, .int .i64 b2, .int .i64 b3, .string b4] 76)).frozen? ⟨w.heap.size + 1, 1, none⟩ = false := frozen_at hb
    have f2 : (w3.alloc (.cells #[.int .i64 b1, .int .i64 b2, .int .i64 b3, .string b4] 76)).frozen? ⟨w.heap.size + 1, 2, none⟩ = false := frozen_at hb
    have f3 : (w3.alloc (.cells #[.int .i64 b1, .int .i64 b2, .int .i64 b3, .string b4] 76)).frozen? ⟨w.heap.size + 1, 3, none⟩ = false := frozen_at hb
    have HST := Lib.hid (store_br (⟨b1, b2, b3, b4⟩ : Br) rfl hb ((HM.out.trans hM3).alloc _) (by omega))
    clear hb hM3
    go_wp2_with fail
    have hc := HST.out.2
    have q0 := cell_at (j := 0) hc rfl
    have q1 := cell_at (j := 1) hc rfl
    have q2 := cell_at (j := 2) hc rfl
    have q3 := cell_at (j := 3) hc rfl
    have hmm := HST.out.1
    clear hc HST c0 c1 c2 c3 f0 f1 f2 f3
    refine bodyPost_ret (v := .agg #[.int .i64 ((⟨b1, b2, b3, b4⟩ : Br)).kind, .int .i64 ((⟨b1, b2, b3, b4⟩ : Br)).lit, .int .i64 ((⟨b1, b2, b3, b4⟩ : Br)).place, .string ((⟨b1, b2, b3, b4⟩ : Br)).var]) ?_ rfl ⟨rfl, hmm⟩
    simp [results, Tryz.results130, go_sem, q0, q1, q2, q3]
end Go.Proofs.YteecbbnpgmceiaaGreatDoor
