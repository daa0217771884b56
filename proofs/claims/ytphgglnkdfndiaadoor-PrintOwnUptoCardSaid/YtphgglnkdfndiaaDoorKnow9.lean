/-
  sibyllaw09.known: a rule that the document names, its text, its normal form.
-/
import Derived.Test.YtphgglnkdfndiaaDoorNmG
import Derived.Test.YtphgglnkdfndiaaDoorTxG
import Derived.Test.YtphgglnkdfndiaaDoorRenL
namespace Go.Proofs.YtphgglnkdfndiaaDoor
open Go Go.RowKit Go.Mine
set_option linter.unusedVariables false
set_option maxHeartbeats 8000000
set_option maxRecDepth 100000

def knR : Rm := ⟨⟨⟨#[116]⟩, [⟨1, ⟨#[88]⟩⟩, ⟨5, ⟨#[89]⟩⟩]⟩, [⟨1, ⟨⟨#[101]⟩, [⟨1, ⟨#[88]⟩⟩, ⟨1, ⟨#[89]⟩⟩]⟩, 0, ⟨0, ⟨#[]⟩⟩, ⟨0, ⟨#[]⟩⟩⟩, ⟨3, ⟨⟨#[]⟩, []⟩, 3, ⟨1, ⟨#[88]⟩⟩, ⟨3, ⟨#[49, 48]⟩⟩⟩]⟩
def knN : Rm := ⟨⟨⟨#[116]⟩, [⟨1, ⟨#[86, 49]⟩⟩, ⟨5, ⟨#[86, 50]⟩⟩]⟩, [⟨1, ⟨⟨#[101]⟩, [⟨1, ⟨#[86, 49]⟩⟩, ⟨1, ⟨#[86, 50]⟩⟩]⟩, 0, ⟨0, ⟨#[]⟩⟩, ⟨0, ⟨#[]⟩⟩⟩, ⟨3, ⟨⟨#[]⟩, []⟩, 3, ⟨1, ⟨#[86, 49]⟩⟩, ⟨3, ⟨#[49, 48]⟩⟩⟩]⟩
theorem vN_1 : vN 1 = ⟨#[86, 49]⟩ := by unfold vN; rw [Lib.decDigits, dif_pos (by decide)]; rfl
theorem vN_2 : vN 2 = ⟨#[86, 50]⟩ := by unfold vN; rw [Lib.decDigits, dif_pos (by decide)]; rfl
theorem kn_may (x y : ByteArray) (hx : Word x = 2 ∧ x ≠ blankB ∧ x.size ≤ 4096) (hy : Word y = 2 ∧ y ≠ blankB ∧ y.size ≤ 4096) :
    mayRm ⟨⟨⟨#[116]⟩, [⟨1, x⟩, ⟨5, y⟩]⟩, [⟨1, ⟨⟨#[101]⟩, [⟨1, x⟩, ⟨1, y⟩]⟩, 0, ⟨0, ⟨#[]⟩⟩, ⟨0, ⟨#[]⟩⟩⟩, ⟨3, ⟨⟨#[]⟩, []⟩, 3, ⟨1, x⟩, ⟨3, ⟨#[49, 48]⟩⟩⟩]⟩ = 0 := by
  have tv : ∀ (k : Int) (z : ByteArray), (k = 1 ∨ k = 5) → Word z = 2 ∧ z ≠ blankB ∧ z.size ≤ 4096 → mayTm ⟨k, z⟩ = 0 := fun k z hk hz => by
    unfold mayTm
    simp only
    rw [if_neg (by omega), if_neg (by omega), if_pos (by omega), if_neg (by rintro (h | h); exact hz.2.1 h; exact h hz.1), if_neg (by omega)]
  have t1 := tv 1 x (.inl rfl) hx
  have t2 := tv 5 y (.inr rfl) hy
  have t3 := tv 1 y (.inl rfl) hy
  have t4 : mayTm ⟨3, ⟨#[49, 48]⟩⟩ = 0 := by kernel_rfl
  have w1 : Word ⟨#[116]⟩ = 1 := by kernel_rfl
  have w2 : Word ⟨#[101]⟩ = 1 := by kernel_rfl
  have z1 : (⟨#[116]⟩ : ByteArray).size = 1 := rfl
  have z2 : (⟨#[101]⟩ : ByteArray).size = 1 := rfl
  have l1 : mayLm ⟨1, ⟨⟨#[101]⟩, [⟨1, x⟩, ⟨1, y⟩]⟩, 0, ⟨0, ⟨#[]⟩⟩, ⟨0, ⟨#[]⟩⟩⟩ = 0 := by
    unfold mayLm
    rw [if_pos ⟨.inl rfl, rfl, ⟨rfl, rfl⟩, rfl, rfl⟩]
    unfold mayAm
    simp [w2, z2, mayTs, t1, t3]
  have l2 : mayLm ⟨3, ⟨⟨#[]⟩, []⟩, 3, ⟨1, x⟩, ⟨3, ⟨#[49, 48]⟩⟩⟩ = 0 := by
    unfold mayLm
    rw [if_neg (by rintro ⟨h | h, _⟩ <;> cases h), if_neg (by
      rintro (h | h | h | h)
      · exact h rfl
      · exact h ⟨rfl, rfl⟩
      · simp at h
      · simp at h)]
    simp [t1, t4]
  unfold mayRm
  simp [mayAm, w1, z1, mayTs, t1, t2, mayLs, l1, l2]
theorem knR_may : mayRm knR = 0 := kn_may ⟨#[88]⟩ ⟨#[89]⟩ ⟨by kernel_rfl, by decide, by decide⟩ ⟨by kernel_rfl, by decide, by decide⟩
theorem knN_may : mayRm knN = 0 := kn_may ⟨#[86, 49]⟩ ⟨#[86, 50]⟩ ⟨by kernel_rfl, by decide, by decide⟩ ⟨by kernel_rfl, by decide, by decide⟩
theorem knR_text : fitT (rmT knR) = ([116, 40, 88, 44, 32, 115, 117, 109, 40, 89, 41, 41, 32, 58, 45, 32, 101, 40, 88, 44, 32, 89, 41, 44, 32, 88, 32, 60, 32, 49, 48, 46], 0) := by kernel_rfl
theorem knN_text : fitT (rmT knN) = ([116, 40, 86, 49, 44, 32, 115, 117, 109, 40, 86, 50, 41, 41, 32, 58, 45, 32, 101, 40, 86, 49, 44, 32, 86, 50, 41, 44, 32, 86, 49, 32, 60, 32, 49, 48, 46], 0) := by kernel_rfl
theorem kn_form (f1 f2 : ByteArray) (h1 : vN 1 = f1) (h2 : vN 2 = f2) : nmRm knR = ⟨⟨⟨#[116]⟩, [⟨1, f1⟩, ⟨5, f2⟩]⟩, [⟨1, ⟨⟨#[101]⟩, [⟨1, f1⟩, ⟨1, f2⟩]⟩, 0, ⟨0, ⟨#[]⟩⟩, ⟨0, ⟨#[]⟩⟩⟩, ⟨3, ⟨⟨#[]⟩, []⟩, 3, ⟨1, f1⟩, ⟨3, ⟨#[49, 48]⟩⟩⟩]⟩ := by
  subst h1 h2
  rfl
theorem kn_norm : nmR0 knR = knN := by
  unfold nmR0
  rw [if_pos knR_may]
  exact kn_form _ _ vN_1 vN_2
theorem kn_small (x y : ByteArray) (hx : x.size < 2 ^ 30) (hy : y.size < 2 ^ 30) : SmallRm ⟨⟨⟨#[116]⟩, [⟨1, x⟩, ⟨5, y⟩]⟩, [⟨1, ⟨⟨#[101]⟩, [⟨1, x⟩, ⟨1, y⟩]⟩, 0, ⟨0, ⟨#[]⟩⟩, ⟨0, ⟨#[]⟩⟩⟩, ⟨3, ⟨⟨#[]⟩, []⟩, 3, ⟨1, x⟩, ⟨3, ⟨#[49, 48]⟩⟩⟩]⟩ := by
  have e : (⟨#[]⟩ : ByteArray).size = 0 := rfl
  have e1 : (⟨#[116]⟩ : ByteArray).size = 1 := rfl
  have e2 : (⟨#[101]⟩ : ByteArray).size = 1 := rfl
  have e3 : (⟨#[49, 48]⟩ : ByteArray).size = 2 := rfl
  refine ⟨⟨by rw [e1]; decide, by simp, fun t ht => ?_⟩, by simp, fun l hl => ?_⟩
  · simp only [List.mem_cons, List.not_mem_nil, or_false] at ht
    rcases ht with rfl | rfl
    · exact hx
    · exact hy
  · simp only [List.mem_cons, List.not_mem_nil, or_false] at hl
    rcases hl with rfl | rfl
    · refine ⟨⟨by rw [e2]; decide, by simp, fun t ht => ?_⟩, by rw [e]; decide, by rw [e]; decide⟩
      simp only [List.mem_cons, List.not_mem_nil, or_false] at ht
      rcases ht with rfl | rfl
      · exact hx
      · exact hy
    · exact ⟨⟨by rw [e]; decide, by simp, fun t ht => by cases ht⟩, hx, by rw [e3]; decide⟩
theorem num9_any (z : Int) (w : World) : Calls Tryd.prog 10 #[.int .i64 z] w fun e w' => e = .returned (.int .i64 z) ∧ w = w' := by
  go_enter Tryd.func10, Tryd.ntmps10
  go_wp2
  go_ret
  exact ⟨rfl, rfl⟩
theorem know9_any (w : World) (hp : Pow w) : Calls Tryd.prog 5 #[] w fun e w' => e = .returned (.bool true) ∧ Mod (fun _ => False) w w' := by
  have HM0 : Hid (Mod (fun _ => False) w ((((((w.alloc (.cells #[.int .i64 1, .string ⟨#[88]⟩] 42)).alloc (.cells #[.int .i64 1, .string ⟨#[89]⟩] 42)).alloc (.cells #[.int .i64 1, .string ⟨#[88]⟩, .int .i64 5, .string ⟨#[89]⟩] 42)).alloc (.cells #[.int .i64 1, .string ⟨#[88]⟩, .int .i64 1, .string ⟨#[89]⟩] 42)).alloc (.cells #[.int .i64 1, .string ⟨#[101]⟩, .slice (some ⟨w.heap.size + 1 + 1 + 1, 0, none⟩) 2 2, .int .i64 0, .int .i64 0, .string ⟨#[]⟩, .int .i64 0, .string ⟨#[]⟩, .int .i64 3, .string ⟨#[]⟩, .slice none 0 0, .int .i64 3, .int .i64 1, .string ⟨#[88]⟩, .int .i64 3, .string ⟨#[49, 48]⟩] 44)).alloc (.cells #[.string ⟨#[116]⟩, .slice (some ⟨w.heap.size + 1 + 1, 0, none⟩) 2 2, .slice (some ⟨w.heap.size + 1 + 1 + 1 + 1, 0, none⟩) 2 2] 38))) := Lib.hid ((((((((Mod.refl _ w).alloc _).alloc _).alloc _).alloc _).alloc _).alloc _))
  have hz : ((w.alloc (.cells #[.int .i64 1, .string ⟨#[88]⟩] 42)).alloc (.cells #[.int .i64 1, .string ⟨#[89]⟩] 42)).heap.size = w.heap.size + 1 + 1 := by simp
  have hT : TsAt ((((((w.alloc (.cells #[.int .i64 1, .string ⟨#[88]⟩] 42)).alloc (.cells #[.int .i64 1, .string ⟨#[89]⟩] 42)).alloc (.cells #[.int .i64 1, .string ⟨#[88]⟩, .int .i64 5, .string ⟨#[89]⟩] 42)).alloc (.cells #[.int .i64 1, .string ⟨#[88]⟩, .int .i64 1, .string ⟨#[89]⟩] 42)).alloc (.cells #[.int .i64 1, .string ⟨#[101]⟩, .slice (some ⟨w.heap.size + 1 + 1 + 1, 0, none⟩) 2 2, .int .i64 0, .int .i64 0, .string ⟨#[]⟩, .int .i64 0, .string ⟨#[]⟩, .int .i64 3, .string ⟨#[]⟩, .slice none 0 0, .int .i64 3, .int .i64 1, .string ⟨#[88]⟩, .int .i64 3, .string ⟨#[49, 48]⟩] 44)).alloc (.cells #[.string ⟨#[116]⟩, .slice (some ⟨w.heap.size + 1 + 1, 0, none⟩) 2 2, .slice (some ⟨w.heap.size + 1 + 1 + 1 + 1, 0, none⟩) 2 2] 38)) (.slice (some ⟨w.heap.size + 1 + 1, 0, none⟩) 2 2) knR.head.terms := by
    have h := Rd.news ((w.alloc (.cells #[.int .i64 1, .string ⟨#[88]⟩] 42)).alloc (.cells #[.int .i64 1, .string ⟨#[89]⟩] 42)) (tmsC knR.head.terms) 42
    rw [hz] at h
    exact ⟨_, _, rfl, h.mod ((((Mod.refl (fun _ => False) _).alloc _).alloc _).alloc _) (fun _ _ => id)⟩
  have hL : LsAt ((((((w.alloc (.cells #[.int .i64 1, .string ⟨#[88]⟩] 42)).alloc (.cells #[.int .i64 1, .string ⟨#[89]⟩] 42)).alloc (.cells #[.int .i64 1, .string ⟨#[88]⟩, .int .i64 5, .string ⟨#[89]⟩] 42)).alloc (.cells #[.int .i64 1, .string ⟨#[88]⟩, .int .i64 1, .string ⟨#[89]⟩] 42)).alloc (.cells #[.int .i64 1, .string ⟨#[101]⟩, .slice (some ⟨w.heap.size + 1 + 1 + 1, 0, none⟩) 2 2, .int .i64 0, .int .i64 0, .string ⟨#[]⟩, .int .i64 0, .string ⟨#[]⟩, .int .i64 3, .string ⟨#[]⟩, .slice none 0 0, .int .i64 3, .int .i64 1, .string ⟨#[88]⟩, .int .i64 3, .string ⟨#[49, 48]⟩] 44)).alloc (.cells #[.string ⟨#[116]⟩, .slice (some ⟨w.heap.size + 1 + 1, 0, none⟩) 2 2, .slice (some ⟨w.heap.size + 1 + 1 + 1 + 1, 0, none⟩) 2 2] 38)) (.slice (some ⟨w.heap.size + 1 + 1 + 1 + 1, 0, none⟩) 2 2) knR.body := by
    refine ⟨_, _, [((⟨1, ⟨⟨#[101]⟩, [⟨1, ⟨#[88]⟩⟩, ⟨1, ⟨#[89]⟩⟩]⟩, 0, ⟨0, ⟨#[]⟩⟩, ⟨0, ⟨#[]⟩⟩⟩ : Lm), (.slice (some ⟨w.heap.size + 1 + 1 + 1, 0, none⟩) 2 2 : Value)), (⟨3, ⟨⟨#[]⟩, []⟩, 3, ⟨1, ⟨#[88]⟩⟩, ⟨3, ⟨#[49, 48]⟩⟩⟩, .slice none 0 0)], rfl, rfl, ?_, fun x hx => ?_⟩
    · have h := Rd.news ((((w.alloc (.cells #[.int .i64 1, .string ⟨#[88]⟩] 42)).alloc (.cells #[.int .i64 1, .string ⟨#[89]⟩] 42)).alloc (.cells #[.int .i64 1, .string ⟨#[88]⟩, .int .i64 5, .string ⟨#[89]⟩] 42)).alloc (.cells #[.int .i64 1, .string ⟨#[88]⟩, .int .i64 1, .string ⟨#[89]⟩] 42)) (lmsC [((⟨1, ⟨⟨#[101]⟩, [⟨1, ⟨#[88]⟩⟩, ⟨1, ⟨#[89]⟩⟩]⟩, 0, ⟨0, ⟨#[]⟩⟩, ⟨0, ⟨#[]⟩⟩⟩ : Lm), (.slice (some ⟨w.heap.size + 1 + 1 + 1, 0, none⟩) 2 2 : Value)), (⟨3, ⟨⟨#[]⟩, []⟩, 3, ⟨1, ⟨#[88]⟩⟩, ⟨3, ⟨#[49, 48]⟩⟩⟩, .slice none 0 0)]) 44
      rw [World.size_alloc, World.size_alloc, hz] at h
      exact h.mod ((Mod.refl (fun _ => False) _).alloc _) (fun _ _ => id)
    · simp only [List.mem_cons, List.not_mem_nil, or_false] at hx
      rcases hx with rfl | rfl
      · have h := Rd.news (((w.alloc (.cells #[.int .i64 1, .string ⟨#[88]⟩] 42)).alloc (.cells #[.int .i64 1, .string ⟨#[89]⟩] 42)).alloc (.cells #[.int .i64 1, .string ⟨#[88]⟩, .int .i64 5, .string ⟨#[89]⟩] 42)) (tmsC [⟨1, ⟨#[88]⟩⟩, ⟨1, ⟨#[89]⟩⟩]) 42
        rw [World.size_alloc, hz] at h
        exact ⟨_, _, rfl, h.mod (((Mod.refl (fun _ => False) _).alloc _).alloc _) (fun _ _ => id)⟩
      · exact TsAt.nil _
  have hb : ((((((w.alloc (.cells #[.int .i64 1, .string ⟨#[88]⟩] 42)).alloc (.cells #[.int .i64 1, .string ⟨#[89]⟩] 42)).alloc (.cells #[.int .i64 1, .string ⟨#[88]⟩, .int .i64 5, .string ⟨#[89]⟩] 42)).alloc (.cells #[.int .i64 1, .string ⟨#[88]⟩, .int .i64 1, .string ⟨#[89]⟩] 42)).alloc (.cells #[.int .i64 1, .string ⟨#[101]⟩, .slice (some ⟨w.heap.size + 1 + 1 + 1, 0, none⟩) 2 2, .int .i64 0, .int .i64 0, .string ⟨#[]⟩, .int .i64 0, .string ⟨#[]⟩, .int .i64 3, .string ⟨#[]⟩, .slice none 0 0, .int .i64 3, .int .i64 1, .string ⟨#[88]⟩, .int .i64 3, .string ⟨#[49, 48]⟩] 44)).alloc (.cells #[.string ⟨#[116]⟩, .slice (some ⟨w.heap.size + 1 + 1, 0, none⟩) 2 2, .slice (some ⟨w.heap.size + 1 + 1 + 1 + 1, 0, none⟩) 2 2] 38)).heap[w.heap.size + 1 + 1 + 1 + 1 + 1]? = some (.cells #[.string ⟨#[116]⟩, .slice (some ⟨w.heap.size + 1 + 1, 0, none⟩) 2 2, .slice (some ⟨w.heap.size + 1 + 1 + 1 + 1, 0, none⟩) 2 2] 38 (0, 0)) := by
    have h := heap_alloc_new (((((w.alloc (.cells #[.int .i64 1, .string ⟨#[88]⟩] 42)).alloc (.cells #[.int .i64 1, .string ⟨#[89]⟩] 42)).alloc (.cells #[.int .i64 1, .string ⟨#[88]⟩, .int .i64 5, .string ⟨#[89]⟩] 42)).alloc (.cells #[.int .i64 1, .string ⟨#[88]⟩, .int .i64 1, .string ⟨#[89]⟩] 42)).alloc (.cells #[.int .i64 1, .string ⟨#[101]⟩, .slice (some ⟨w.heap.size + 1 + 1 + 1, 0, none⟩) 2 2, .int .i64 0, .int .i64 0, .string ⟨#[]⟩, .int .i64 0, .string ⟨#[]⟩, .int .i64 3, .string ⟨#[]⟩, .slice none 0 0, .int .i64 3, .int .i64 1, .string ⟨#[88]⟩, .int .i64 3, .string ⟨#[49, 48]⟩] 44)) (.cells #[.string ⟨#[116]⟩, .slice (some ⟨w.heap.size + 1 + 1, 0, none⟩) 2 2, .slice (some ⟨w.heap.size + 1 + 1 + 1 + 1, 0, none⟩) 2 2] 38)
    rw [World.size_alloc, World.size_alloc, World.size_alloc, hz] at h
    exact h
  have HT := Lib.hid hT; have HL := Lib.hid hL; have HB := Lib.hid hb
  have HP := Lib.hid hp
  clear hz hT hL hb hp
  have HR1 := Lib.hid (fun W (m1 : TsAt W (.slice (some ⟨w.heap.size + 1 + 1, 0, none⟩) 2 2) knR.head.terms) (m2 : LsAt W (.slice (some ⟨w.heap.size + 1 + 1 + 1 + 1, 0, none⟩) 2 2) knR.body) => Rule_any knR (.slice (some ⟨w.heap.size + 1 + 1, 0, none⟩) 2 2) (.slice (some ⟨w.heap.size + 1 + 1 + 1 + 1, 0, none⟩) 2 2) W (kn_small _ _ (by decide) (by decide)) m1 m2)
  have HN1 := Lib.hid (fun W (m1 : TsAt W (.slice (some ⟨w.heap.size + 1 + 1, 0, none⟩) 2 2) knR.head.terms) (m2 : LsAt W (.slice (some ⟨w.heap.size + 1 + 1 + 1 + 1, 0, none⟩) 2 2) knR.body) (m3 : Pow W) => Normal_any knR (.slice (some ⟨w.heap.size + 1 + 1, 0, none⟩) 2 2) (.slice (some ⟨w.heap.size + 1 + 1 + 1 + 1, 0, none⟩) 2 2) W (kn_small _ _ (by decide) (by decide)) m1 m2 m3)
  have HR2 := Lib.hid (fun W s b (m1 : TsAt W s knN.head.terms) (m2 : LsAt W b knN.body) => Rule_any knN s b W (kn_small _ _ (by decide) (by decide)) m1 m2)
  rw [knR_may] at HR1
  rw [knN_may] at HR2
  unfold SayP outP at HR1 HR2
  rw [if_neg (by simp), knR_text] at HR1
  rw [if_neg (by simp), knN_text] at HR2
  unfold NormRes at HN1
  rw [kn_norm, knR_may] at HN1
  unfold rmV at HR1 HR2 HN1
  go_enter Tryd.func5, Tryd.ntmps5
  go_wp2_with fail
  obtain ⟨w1, hw1⟩ : ∃ v, v = ((((((w.alloc (.cells #[.int .i64 1, .string ⟨#[88]⟩] 42)).alloc (.cells #[.int .i64 1, .string ⟨#[89]⟩] 42)).alloc (.cells #[.int .i64 1, .string ⟨#[88]⟩, .int .i64 5, .string ⟨#[89]⟩] 42)).alloc (.cells #[.int .i64 1, .string ⟨#[88]⟩, .int .i64 1, .string ⟨#[89]⟩] 42)).alloc (.cells #[.int .i64 1, .string ⟨#[101]⟩, .slice (some ⟨w.heap.size + 1 + 1 + 1, 0, none⟩) 2 2, .int .i64 0, .int .i64 0, .string ⟨#[]⟩, .int .i64 0, .string ⟨#[]⟩, .int .i64 3, .string ⟨#[]⟩, .slice none 0 0, .int .i64 3, .int .i64 1, .string ⟨#[88]⟩, .int .i64 3, .string ⟨#[49, 48]⟩] 44)).alloc (.cells #[.string ⟨#[116]⟩, .slice (some ⟨w.heap.size + 1 + 1, 0, none⟩) 2 2, .slice (some ⟨w.heap.size + 1 + 1 + 1 + 1, 0, none⟩) 2 2] 38)) := ⟨_, rfl⟩
  rw [← hw1] at HT HL HB HM0 ⊢
  clear hw1
  refine (HR1.out w1 HT.out HL.out).mono ?_
  rintro e w2 ⟨rfl, hM2⟩
  have hb := hM2.at HB.out id
  have c0 := cell_at (j := 0) hb rfl
  have c1 := cell_at (j := 1) hb rfl
  have c2 := cell_at (j := 2) hb rfl
  have HB2 := Lib.hid hb
  have HM2 := Lib.hid hM2
  clear hb hM2 HR1
  go_wp2_with fail
  refine (HN1.out w2 (HT.out.mod0 HM2.out) (HL.out.mod0 HM2.out) (HP.out.mod0 (HM0.out.trans HM2.out))).mono ?_
  rintro e w3 ⟨s', b', rfl, hRF, hM3⟩
  obtain ⟨w4, hw4⟩ : ∃ v, v = w3.alloc (.cells #[.string knN.head.pred, s', b'] 38) := ⟨_, rfl⟩
  have hm4 : Mod (fun _ => False) w3 w4 := by rw [hw4]; exact (Mod.refl _ w3).alloc _
  have hb4 : w4.heap[w3.heap.size]? = some (.cells #[.string knN.head.pred, s', b'] 38 (0, 0)) := by rw [hw4]; exact heap_alloc_new w3 _
  have HT4 := Lib.hid ((hRF.1.mod0 hm4).at)
  have HL4 := Lib.hid (hRF.2.at.mod0 hm4)
  have HM4 := Lib.hid ((HM0.out.trans HM2.out).trans (hM3.trans hm4))
  obtain ⟨sa, sc, hse, _⟩ := hRF.1
  obtain ⟨ba, bc, _, hbe, _⟩ := hRF.2
  subst hse hbe
  have d0 := cell_at (j := 0) hb4 rfl
  have d1 := cell_at (j := 1) hb4 rfl
  have d2 := cell_at (j := 2) hb4 rfl
  have HW4 := Lib.hid hw4
  rw [hw4] at d0 d1 d2
  clear hRF hM3 hm4 hb4 HN1 c0 c1 c2 hw4
  go_wp2_with fail
  rw [← HW4.out]
  clear HW4 d0 d1 d2
  refine (HR2.out w4 _ _ HT4.out HL4.out).mono ?_
  rintro e w5 ⟨rfl, hM5⟩
  have HM5 := Lib.hid (HM4.out.trans hM5)
  clear hM5 HR2
  go_wp2_with (first
    | (go_at_call 10; refine (num9_any _ _).mono ?_; rintro e w' ⟨rfl, rfl⟩))
  go_ret
  exact ⟨rfl, HM5.out⟩
end Go.Proofs.YtphgglnkdfndiaaDoor
