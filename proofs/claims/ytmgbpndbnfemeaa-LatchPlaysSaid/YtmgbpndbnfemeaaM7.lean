/- Numbers that come in. -/
import Derived.Test.YtmgbpndbnfemeaaM6
import Derived.ChangeSlices
namespace Go.Proofs.Ytmgbpndbnfemeaa.L
open Go.ChangeShapes Go.WideShapes Go.ChangeAt Go.RowKit Go.Maps Go.Proofs.Ytmgbpndbnfemeaa.G
set_option linter.unusedVariables false

/-- what comes in: numbers -/
theorem ints_of {H : Type} {enc : TypeId × Value → H} {W : World} {base fuel : Nat} {spare : Nat → Bool} {held : Bool} {a : Option Addr} {len cap : Nat} {y : DataW H × List MemPlace}
    (h : DataW.trod enc Try.prog W base spare held fuel 23 [.slice a len cap] = some y) : ∃ ask : List Int, SlAt W a len (ask.map (Value.int .i64)) ∧ (∀ x ∈ ask, I64 x) ∧ len ≤ maxLen := by
  rcases open_ints Try.underlying23 Try.underlying3 (by kernel_rfl) h with ⟨e, _⟩ | ⟨x, l, c, zs, e, _, hl, hm, hz, _, hcell, hwz⟩
  · simp at e; obtain ⟨rfl, rfl, rfl⟩ := e
    exact ⟨[], SlAt.nil _ _, by simp, by decide⟩
  · simp at e; obtain ⟨rfl, rfl, rfl⟩ := e
    have hlz : len ≤ zs.length := by rw [hz]; split <;> omega
    refine ⟨zs.take len, ⟨by simp; omega, ?_⟩, fun x hx => fits64 (hwz x (List.mem_of_mem_take hx)), by omega⟩
    by_cases h0 : len = 0
    · exact .inl h0
    · right
      have hsp : ∀ (z : Addr) (v : Value), W.cell? z = some v → z.spot = none := by
        intro z v hv
        unfold World.cell? at hv
        split at hv
        · split at hv
          · cases hv
          · rename_i hs; simpa using hs
        · cases hv
      have hs := hsp _ _ (hcell 0 (by omega))
      obtain ⟨b, off, sp⟩ := x
      have hs' : sp = none := hs
      subst hs'
      refine ⟨b, off, rfl, fun i hi => ?_⟩
      have hk := hcell i (by omega)
      rw [add_none] at hk
      rw [hk, List.getElem?_map, List.getElem?_take, if_pos hi, List.getElem?_eq_getElem (by omega)]
      simp [List.getD, List.getElem?_eq_getElem (show i < zs.length by omega)]

end Go.Proofs.Ytmgbpndbnfemeaa.L
