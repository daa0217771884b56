/- SyntaxPlaces: both ways; how its bytes are opened with their room. -/
import Derived.Test.YtgplagdehfhffaaDoorPlcW
import Derived.Test.YtgplagdehfhffaaDoorArgs
namespace Go.Proofs.YtgplagdehfhffaaDoor
open Go Go.RowKit Go.Mine Go.ChangeShapes Go.WideShapes Go.ChangeAt
set_option linter.unusedVariables false
set_option maxRecDepth 100000

theorem synPlaces_walk (a : Option Addr) (c : Nat) (l : List UInt8) (a2 : Option Addr) (c2 : Nat) (l2 : List UInt8) (w : World) (hr : Rd w a (bts l)) (hr2 : Rd w a2 (bts l2)) (hT : Lib.Utf8Tabs 1 2 w) (hlc : l.length ≤ c) (hn : l.length + l2.length ≤ 1048576) :
    Calls Tryd.prog 8 #[.slice a l.length c, .slice a2 l2.length c2] w fun e w' => e = .returned (.bool true) ∧ Mod (fun _ => False) w w' := by
  have hP : ∀ (a0 : Option Addr) (c0 : Nat) (w : World), Rd w a0 (bts l) → Lib.Utf8Tabs 1 2 w → Calls Tryd.prog 12 #[.slice a0 l.length c0] w fun e w' => ∃ s, e = .returned (.tuple #[.agg #[s], .int .i64 (atOf (progS ⟨l.toArray⟩)), .int .i64 (noOf (progS ⟨l.toArray⟩))]) ∧ RsAt w' s (valOf [] (progS ⟨l.toArray⟩)) ∧ Mod (fun _ => False) w w' :=
    fun a0 c0 w h1 h2 => parse_says l l.length rfl (by omega) a0 c0 w h1 h2
  have hz : (⟨l.toArray⟩ : ByteArray).size = l.length := rfl
  have hlaw := places_law ⟨l.toArray⟩
  rw [hz] at hlaw
  rcases hlaw with ⟨_, h⟩ | ⟨h80, _, hsz, h | ⟨hat, j, hj, hJ, hL⟩⟩
  · exact plc_early a c l a2 c2 l2 w _ _ _ hP hr hT (.inl h)
  · exact plc_early a c l a2 c2 l2 w _ _ _ hP hr hT (.inr ⟨h.2, h.1⟩)
  · have hf : foundL ⟨l.toArray⟩ = ((scanL ⟨l.toArray⟩).1, (scanL ⟨l.toArray⟩).2.1, (scanL ⟨l.toArray⟩).2.2) := by
      unfold foundL
      rw [if_neg (by rw [hz]; omega)]
    refine plc_main a c l a2 c2 l2 w _ _ _ (scanL ⟨l.toArray⟩).1 (scanL ⟨l.toArray⟩).2.1 (scanL ⟨l.toArray⟩).2.2 j hP hr hr2 hT h80 hat hf hj (fun i hi => toksOf_lt ⟨l.toArray⟩ _ (List.getElem_mem hi)) hJ (fun h o h0 ho => ?_) hlc hsz (by omega)
    have hlt : (scanL ⟨l.toArray⟩).1[j + 1].at_ < l.length := toksOf_lt ⟨l.toArray⟩ _ (List.getElem_mem h)
    refine hL h ⟨o.toArray⟩ _ (by simp) h0 ?_
    show (l.take _ ++ 10 :: o).toArray.size ≤ 65536
    rw [List.size_toArray, List.length_append, List.length_take, List.length_cons]
    omega
theorem arg_bytesC {H : Type} {enc : TypeId × Value → H} {W : World} {a0 : Option Addr} {len cap : Nat} {d : DataW H} {p : List MemPlace} (h : DataW.Trod enc Tryd.prog W 0 (fun _ => true) true 22 (.slice a0 len cap) d p) :
    ∃ l : List UInt8, l.length = len ∧ Rd W a0 (bts l) ∧ l.length ≤ Rows.uptoBulk d ∧ l.length ≤ cap := by
  obtain ⟨l, h1, h2, h3⟩ := arg_bytes h
  refine ⟨l, h1, h2, h3, ?_⟩
  obtain ⟨fuel, hf⟩ := h
  rcases open_ints Tryd.underlying22 Tryd.underlying5 (by kernel_rfl) hf with ⟨hcs, hx⟩ | ⟨a, len', cap', zs, hcs, _, hl, hm, hz, hx, hcell, hws⟩
  · simp [Value.cells] at hcs
    obtain ⟨rfl, rfl, rfl⟩ := hcs
    omega
  · simp [Value.cells] at hcs
    obtain ⟨rfl, rfl, rfl⟩ := hcs
    omega
end Go.Proofs.YtgplagdehfhffaaDoor
