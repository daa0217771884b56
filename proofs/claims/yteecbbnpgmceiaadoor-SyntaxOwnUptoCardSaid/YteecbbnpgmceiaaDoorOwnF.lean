/-
  SyntaxOwn: lists that were told; all of them marked.
-/
import Derived.Test.YteecbbnpgmceiaaDoorOwnC
import Derived.Test.YteecbbnpgmceiaaDoorOwnD
import Derived.Test.YteecbbnpgmceiaaDoorOwnE
namespace Go.Proofs.YteecbbnpgmceiaaDoor
open Go Go.RowKit Go.Mine
set_option linter.unusedVariables false
set_option maxHeartbeats 4000000
set_option maxRecDepth 100000

theorem Apart.mod {w w' : World} {e : TypeId} {K : Nat} {L : Ps} {S : Nat → Prop} (h : Apart w e K L) (m : Mod S w w') (hs : ∀ b, inPs L b → ¬ S b) : Apart w' e K L where
  clp := fun p hp => by
    obtain ⟨xs, hx⟩ := h.clp p hp
    exact ⟨xs, hx.mod m (fun b hb => hs b ⟨p, hp, hb⟩)⟩
  nd := h.nd
  sm := h.sm
  len := h.len
/-- what was told -/
structure TD (w : World) (lo tb : Nat) (a1 : Option Addr) (c1 : Nat) (a2 : Option Addr) (c2 : Nat) (a3 : Option Addr) (c3 : Nat) (Lt Ll Lr : Ps) : Prop where
  at_ : w.heap[tb]? = some (.cells #[.slice a1 Lt.length c1, .slice a2 Ll.length c2, .slice a3 Lr.length c3] 30 (0, 0))
  tlt : tb < lo
  o1 : Mine.Own w 37 1 a1 Lt.length c1 (psV Lt)
  o2 : Mine.Own w 40 1 a2 Ll.length c2 (psV Ll)
  o3 : Mine.Own w 31 1 a3 Lr.length c3 (psV Lr)
  g1 : ∀ b, blk a1 = some b → lo ≤ b
  g2 : ∀ b, blk a2 = some b → lo ≤ b
  g3 : ∀ b, blk a3 = some b → lo ≤ b
  d12 : ∀ b, blk a1 = some b → blk a2 ≠ some b
  d13 : ∀ b, blk a1 = some b → blk a3 ≠ some b
  d23 : ∀ b, blk a2 = some b → blk a3 ≠ some b
theorem apart_true {w : World} {lo tb : Nat} {a1 : Option Addr} {c1 : Nat} {a2 : Option Addr} {c2 : Nat} {a3 : Option Addr} {c3 : Nat} {Lt Ll Lr : Ps} (hT : TD w lo tb a1 c1 a2 c2 a3 c3 Lt Ll Lr)
    (hAt : Apart w 72 2 Lt) (hAl : Apart w 74 8 Ll) (hAr : Apart w 42 3 Lr) (hn : Lr.length ≤ 1000)
    (hlo : ∀ b, inPs Lt b ∨ inPs Ll b ∨ inPs Lr b → b < lo ∧ b ≠ tb) (htl : ∀ b, inPs Lt b → ¬ inPs Ll b) (htr : ∀ b, inPs Lt b → ¬ inPs Lr b) (hlr : ∀ b, inPs Ll b → ¬ inPs Lr b) :
    Calls Tryd.prog 18 #[.pointer (some ⟨tb, 0, none⟩)] w fun e w' => e = .returned (.bool true) ∧ Mod (fun b => inPs Lt b ∨ inPs Ll b ∨ inPs Lr b) w w' := by
  have n1 : ∀ b, blk a1 = some b → ¬ (inPs Lt b ∨ inPs Ll b ∨ inPs Lr b) := fun b hb h => by have := hT.g1 b hb; have := (hlo b h).1; omega
  have n2 : ∀ b, blk a2 = some b → ¬ (inPs Lt b ∨ inPs Ll b ∨ inPs Lr b) := fun b hb h => by have := hT.g2 b hb; have := (hlo b h).1; omega
  have n3 : ∀ b, blk a3 = some b → ¬ (inPs Lt b ∨ inPs Ll b ∨ inPs Lr b) := fun b hb h => by have := hT.g3 b hb; have := (hlo b h).1; omega
  have HT := Lib.hid hT; have HL := Lib.hid hAl; have HR := Lib.hid hAr; have HN2 := Lib.hid n2; have HN3 := Lib.hid n3
  have HTB : Hid (¬ (inPs Lt tb ∨ inPs Ll tb ∨ inPs Lr tb)) := Lib.hid (fun h => (hlo tb h).2 rfl)
  have H1 := Lib.hid (markTerms_true a1 c1 Lt w hT.o1.rd hAt (fun b hb h => n1 b hb (.inl h)))
  have t0 := cell_at (j := 0) hT.at_ rfl
  clear hT hAt hAl hAr n1 n2 n3 hlo
  have HTL := Lib.hid htl; have HTR := Lib.hid htr; have HLR := Lib.hid hlr
  clear htl htr hlr
  go_enter Tryd.func18, Tryd.ntmps18
  go_wp2_with fail
  refine H1.out.mono ?_
  rintro e w1 ⟨rfl, hM1⟩
  have HM1 := Lib.hid hM1
  have HB1 := Lib.hid (hM1.at HT.out.at_ (fun h => HTB.out (.inl h)))
  have t1 := cell_at (j := 1) HB1.out rfl
  have H2 := Lib.hid (markLiterals_true a2 c2 Ll w1 (HT.out.o2.rd.mod hM1 (fun b hb h => HN2.out b hb (.inl h))) (HL.out.mod hM1 (fun b hb h => HTL.out b h hb)) (fun b hb h => HN2.out b hb (.inr (.inl h))))
  clear hM1 t0 H1
  go_wp2_with fail
  refine H2.out.mono ?_
  rintro e w2 ⟨rfl, hM2⟩
  have HM2 := Lib.hid hM2
  have HB2 := Lib.hid (hM2.at HB1.out (fun h => HTB.out (.inr (.inl h))))
  have t2 := cell_at (j := 2) HB2.out rfl
  have H3 := Lib.hid (markRules_true a3 c3 Lr w2 ((HT.out.o3.rd.mod HM1.out (fun b hb h => HN3.out b hb (.inl h))).mod hM2 (fun b hb h => HN3.out b hb (.inr (.inl h)))) ((HR.out.mod HM1.out (fun b hb h => HTR.out b h hb)).mod hM2 (fun b hb h => HLR.out b h hb)) (fun b hb h => HN3.out b hb (.inr (.inr h))) hn)
  clear hM2 t1 H2
  go_wp2_with fail
  refine H3.out.mono ?_
  rintro e w3 ⟨rfl, hM3⟩
  have HM3 := Lib.hid hM3
  clear hM3 t2 H3
  go_wp2_with fail
  go_ret
  exact ⟨rfl, ((HM1.out.mono (fun _ _ h => .inl h)).trans (HM2.out.mono (fun _ _ h => .inr (.inl h)))).trans (HM3.out.mono (fun _ _ h => .inr (.inr h)))⟩
end Go.Proofs.YteecbbnpgmceiaaDoor
