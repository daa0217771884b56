import Derived.Test.YtcmgeiohcgngeaaPut
import Derived.WalkLawsBesides
import Derived.Sort.Walk0
namespace Go.Proofs.Ytcmgeiohcgngeaa
open Go Go.RowKit Go.Mine
set_option maxHeartbeats 400000
set_option maxRecDepth 100000
set_option linter.unusedVariables false

def blt (q s : ByteArray) : Bool := Op.bytesLess q.toList s.toList
theorem ble_not (q s : ByteArray) : (Op.bytesLess s.toList q.toList || s.toList == q.toList) = !blt q s := by
  unfold blt
  rw [bytesLess_eq, bytesLess_eq, Bool.eq_iff_iff]
  simp [Std.not_lt, Std.le_iff_lt_or_eq]
def pgErr : Option ByteArray → List ByteArray → Nat
  | _, [] => 0
  | p, s :: r => if 4096 < s.size then 3 else if (match p with | none => false | some q => !blt q s) then 2 else pgErr (some s) r
theorem pgErr_cons (p : Option ByteArray) (s : ByteArray) (r : List ByteArray) : pgErr p (s :: r) = if 4096 < s.size then 3 else if (match p with | none => false | some q => !blt q s) then 2 else pgErr (some s) r := by cases p <;> rfl
def pgBody (l : List ByteArray) : List UInt8 := l.flatMap fun s => lebl s.size ++ s.data.toList
def pgBytes (l : List ByteArray) : List UInt8 := lebl l.length ++ pgBody l
def prevAt (l : List ByteArray) (k : Nat) : Option ByteArray := if k = 0 then none else l[k - 1]?
/-- what Page answers -/
structure PgRes (w w' : World) (l : List ByteArray) (v : Value) : Prop where
  mod : Mod (fun _ => False) w w'
  val : ∃ a c, v = .slice a (if pgErr none l = 0 then pgBytes l else []).length c ∧ Rd w' a (bts (if pgErr none l = 0 then pgBytes l else []))
theorem PgRes.err {w w' : World} {l : List ByteArray} (m : Mod (fun _ => False) w w') (h : pgErr none l ≠ 0) : PgRes w w' l (.slice none 0 0) :=
  ⟨m, none, 0, by rw [if_neg h]; rfl, by rw [if_neg h]; exact Rd.nil _ _⟩
theorem PgRes.ok {w w' : World} {l : List ByteArray} {a : Option Addr} {c : Nat} (m : Mod (fun _ => False) w w') (h : pgErr none l = 0) (hr : Rd w' a (bts (pgBytes l))) : PgRes w w' l (.slice a (pgBytes l).length c) :=
  ⟨m, a, c, by rw [if_pos h], by rw [if_pos h]; exact hr⟩
theorem pgBody_len {l : List ByteArray} (h : ∀ s ∈ l, s.size ≤ 4096) : (pgBody l).length ≤ 4106 * l.length := by
  induction l with
  | nil => simp [pgBody]
  | cons s l ih =>
    have h1 := h s (by simp)
    have h2 := ih (fun x hx => h x (by simp [hx]))
    have h3 := lebl_len64 s.size (by omega)
    have h4 : s.data.toList.length = s.size := (Lib.size_eq s).symm
    simp only [pgBody, List.flatMap_cons, List.length_append, List.length_cons] at h2 ⊢
    omega
theorem pgBody_snoc (l : List ByteArray) (k : Nat) (h : k < l.length) : pgBody (l.take (k + 1)) = pgBody (l.take k) ++ lebl l[k].size ++ l[k].data.toList := by
  unfold pgBody
  rw [List.take_succ_eq_append_getElem h, List.flatMap_append]; simp

theorem symPage_any (a : Option Addr) (l : List ByteArray) (c : Nat) (w : World) (hr : Rd w a (sts l)) (hl : l.length ≤ 4194304) (hsz : ∀ s ∈ l, s.size < 2^40) :
    Calls Try.prog 38 #[.slice a l.length c] w fun e w' => ∃ v, e = .returned (.tuple #[v, .int .i64 (pgErr none l)]) ∧ PgRes w w' l v := by
  have HR := Lib.hid hr; have HS := Lib.hid hsz; clear hr hsz
  go_enter Try.func38, Try.ntmps38
  have W0 : WrAt (w.alloc (.cells #[.slice none 0 0, .bool true] 98)) w.heap.size none [] := ⟨by simp, 0, heap_alloc_new w _, Own.nil _ _ _⟩
  have HW0 := Lib.hid W0; clear W0
  have M0 := (Mod.refl (fun _ => False) w).alloc (.cells #[.slice none 0 0, .bool true] 98)
  have HM0 := Lib.hid M0; clear M0
  go_wp2_with (first
    | (go_at_call 48; refine (newWriter_any _).mono ?_; rintro e w' ⟨rfl, rfl⟩)
    | (go_at_call 49; refine (num_any w.heap.size none [] [l.length] _ 1 _ (HW0.out.mod ((Mod.refl (fun _ => False) _).alloc _) id (fun _ _ => id)) (Rd.new _ _ _) (by simp) (by rintro b hb; simp) (by simp; omega) (by simp)).mono ?_; rintro e w1 ⟨rfl, a1, h1, h2⟩
       have H1 := Lib.hid h1; have HM1 := Lib.hid ((HM0.out.alloc (.cells #[.int .u64 l.length] 82)).step h2.mod (fun i hi hs => by simp at hs; omega))
       have HP1 := Lib.hid h2.pos; clear h1 h2))
  go_loopw [19] (fun i wr => ∃ (k : Nat) (a' : Option Addr), i = .int .i64 k ∧ k ≤ l.length ∧ Hid (WrAt wr w.heap.size a' (lebl l.length ++ pgBody (l.take k))) ∧ Hid (∀ b, blk a' = some b → w.heap.size ≤ b) ∧ Hid (Mod (fun _ => False) w wr)
     ∧ Hid (pgErr none l = pgErr (prevAt l k) (l.drop k)) ∧ Hid (∀ s ∈ l.take k, s.size ≤ 4096)) (fun i _ => l.length - (intOf i).toNat)
  case atStart => exact ⟨0, a1, rfl, by omega, by simpa [pgBody] using H1, by
    intro b hb
    rcases HP1.out with e | ⟨b', e, hb'⟩
    · rw [e] at hb; simp at hb
    · rw [e] at hb; cases hb; simp at hb'; omega, HM1, Lib.hid (by simp [prevAt]), Lib.hid (by simp)⟩
  case round =>
    obtain ⟨k, a', rfl, hk, hW, hb, hM, hE, hZ⟩ := hrel
    by_cases hlt : k < l.length
    · obtain ⟨b, o, e, hc⟩ := (HR.out.mod hM.out (fun _ _ => id)) k (.string l[k]) (by simp [sts, hlt])
      subst e
      have hdrop : l.drop k = l[k] :: l.drop (k + 1) := List.drop_eq_getElem_cons hlt
      have HD := Lib.hid hdrop; clear hdrop
      have hsz := HS.out l[k] (List.getElem_mem _)
      generalize hs : l[k] = s at *
      have HSK := Lib.hid hs; clear hs
      by_cases hbig : 4096 < s.size
      · go_wp2
        go_ret2
        have e : pgErr none l = 3 := by rw [hE.out, HD.out, pgErr_cons, if_pos hbig]
        exact ⟨.slice none 0 0, by rw [e]; rfl, PgRes.err hM.out (by rw [e]; omega)⟩
      · have htext : ∀ w2 : World, Hid (WrAt w2 w.heap.size a' (lebl l.length ++ pgBody (l.take k))) → Calls Try.prog 50 #[.pointer (some ⟨w.heap.size, 0, none⟩), .string s] w2 fun e w' => e = .returned (.tuple #[]) ∧
            ∃ a2, Hid (WrAt w' w.heap.size a2 (lebl l.length ++ pgBody (l.take k) ++ lebl s.size ++ s.data.toList)) ∧ Hid (WrGo w2 w.heap.size a' w' a2) := fun w2 h =>
          text_any w.heap.size a' _ s w2 h.out hsz (by
            have h1 := lebl_len64 l.length (by omega)
            have h2 := pgBody_len hZ.out
            simp only [List.length_append, List.length_take] at h2 ⊢
            omega)
        have hZ2 : pgErr none l = pgErr (some s) (l.drop (k + 1)) → ∀ s' ∈ l.take (k + 1), s'.size ≤ 4096 := fun _ s' hs' => by
          rw [List.take_succ_eq_append_getElem hlt] at hs'
          rcases List.mem_append.1 hs' with h | h
          · exact hZ.out s' h
          · simp at h; subst h; rw [HSK.out]; omega
        have HZ2 := Lib.hid hZ2; clear hZ2
        have HT := Lib.hid htext; clear htext
        have hprev : prevAt l (k + 1) = some s := by simp [prevAt, HSK.out, hlt]
        have HPV := Lib.hid hprev; clear hprev
        by_cases hk0 : 0 < k
        · have hq1 : k - 1 < l.length := by omega
          obtain ⟨b2, o2, e2, hcq⟩ := (HR.out.mod hM.out (fun _ _ => id)) (k - 1) (.string l[k - 1]) (by simp [sts, hq1])
          cases e2
          generalize hq : l[k - 1] = q at *
          have HQ := Lib.hid hq; clear hq
          have hkn : ((k : Int) - 1).toNat = k - 1 := by omega
          have hpk : prevAt l k = some q := by unfold prevAt; rw [if_neg (by omega), ← HQ.out]; simp [hq1]
          have HPK := Lib.hid hpk; clear hpk
          by_cases hb2 : blt q s = true
          · have hb3 : (Op.bytesLess s.toList q.toList || s.toList == q.toList) = false := by rw [ble_not, hb2]; rfl
            have HB2 := Lib.hid hb2; clear hb2
            go_wp2_with (go_at_call 50; refine (HT.out _ hW).mono ?_; rintro e w2 ⟨rfl, a2, hW2, hG2⟩)
            go_roundw
            case rel =>
              have e : pgErr none l = pgErr (some s) (l.drop (k + 1)) := by rw [hE.out, HD.out, pgErr_cons, if_neg hbig]; rw [HPK.out]; simp [HB2.out]
              refine ⟨k + 1, a2, by go_num, by omega, ?_, ?_, ?_, ?_, ?_⟩
              · have := hW2.out
                unfold Hid; rw [pgBody_snoc l k hlt, HSK.out]; simpa [List.append_assoc] using this
              · intro b' hb'
                rcases hG2.out.pos with e' | ⟨b2, e', h2⟩
                · rw [e'] at hb'; exact hb.out b' hb'
                · rw [e'] at hb'; cases hb'; have := hM.out.size; omega
              · exact hM.out.step hG2.out.mod (fun i hi hs => by
                  rcases hs with rfl | hs
                  · omega
                  · have := hb.out i hs; omega)
              · unfold Hid; rw [HPV.out]; exact e
              · exact HZ2.out e
            case measure => simp [intOf]; omega
          · have hb3 : (Op.bytesLess s.toList q.toList || s.toList == q.toList) = true := by rw [ble_not]; simpa using hb2
            have HB2 := Lib.hid hb2; clear hb2
            go_wp2
            go_ret2
            have e : pgErr none l = 2 := by rw [hE.out, HD.out, pgErr_cons, if_neg hbig, HPK.out]; simp [HB2.out]
            exact ⟨.slice none 0 0, by rw [e]; rfl, PgRes.err hM.out (by rw [e]; omega)⟩
        · have hkz : decide (0 < k) = false := by simpa using hk0
          go_wp2_with (go_at_call 50; refine (HT.out _ hW).mono ?_; rintro e w2 ⟨rfl, a2, hW2, hG2⟩)
          go_roundw
          case rel =>
            have hk00 : k = 0 := by omega
            have e : pgErr none l = pgErr (some s) (l.drop (k + 1)) := by rw [hE.out, HD.out, pgErr_cons, if_neg hbig]; simp [prevAt, hk00]
            refine ⟨k + 1, a2, by go_num, by omega, ?_, ?_, ?_, ?_, ?_⟩
            · have := hW2.out
              unfold Hid; rw [pgBody_snoc l k hlt, HSK.out]; simpa [List.append_assoc] using this
            · intro b' hb'
              rcases hG2.out.pos with e' | ⟨b2, e', h2⟩
              · rw [e'] at hb'; exact hb.out b' hb'
              · rw [e'] at hb'; cases hb'; have := hM.out.size; omega
            · exact hM.out.step hG2.out.mod (fun i hi hs => by
                rcases hs with rfl | hs
                · omega
                · have := hb.out i hs; omega)
            · unfold Hid; rw [HPV.out]; exact e
            · exact HZ2.out e
          case measure => simp [intOf]; omega
    · obtain rfl : k = l.length := by omega
      have hlen : (lebl l.length ++ pgBody (l.take l.length)).length < 2^40 := by
        have h1 := lebl_len64 l.length (by omega)
        have h2 := pgBody_len hZ.out
        simp only [List.length_append, List.length_take] at h2 ⊢
        omega
      have e : pgErr none l = 0 := by rw [hE.out, List.drop_length]; cases prevAt l l.length <;> rfl
      have HE := Lib.hid e; clear e
      go_wp2_with (go_at_call 51; refine (bytes_any w.heap.size a' _ _ hW.out hlen (by have := lebl_pos l.length; intro h; simp at h; rw [h.1] at this; simp at this)).mono ?_; rintro e w2 ⟨g, c', rfl, h1, h2, h3⟩; have H2 := Lib.hid h2; have H3 := Lib.hid h3; clear h2 h3)
      go_ret2
      have h2 := H2.out
      rw [List.take_length] at h2
      have hres := PgRes.ok (c := c') (hM.out.step H3.out (fun _ _ => id)) HE.out h2.rd
      rw [show (pgBytes l).length = (lebl l.length).length + (pgBody l).length from by simp [pgBytes]] at hres
      exact ⟨_, by rw [HE.out]; rfl, hres⟩
end Go.Proofs.Ytcmgeiohcgngeaa
