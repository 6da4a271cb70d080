/- Slots: how slots are compared: first their extents, then their indices. -/
import Derived.Test.YtaikapgpkkpdjaaDoorSE
import Derived.Deep.RegionHeld3
namespace Go.Proofs.YtaikapgpkkpdjaaDoor.L
open Go.ChangeShapes Go.WideShapes Go.ChangeAt Go.RowKit Go.Maps Go.Proofs.YtaikapgpkkpdjaaDoor.G
set_option linter.unusedVariables false
set_option linter.unusedSimpArgs false

def orI (x y : Int) : Int := if x = 0 then y else x
theorem or2 (x y : Int) (b : Nat) (w : World) (h0 : w.cell? ⟨b, 0, none⟩ = some (.int .i64 x)) (h1 : w.cell? ⟨b, 1, none⟩ = some (.int .i64 y)) :
    Calls Tryd.prog 50 #[.slice (some ⟨b, 0, none⟩) 2 2] w fun e' w' => e' = .returned (.int .i64 (orI x y)) ∧ w = w' := by
  obtain ⟨R, hR⟩ : ∃ R, orI x y = R := ⟨_, rfl⟩
  rw [hR]
  have HR := Lib.hid hR
  clear hR
  go_enter Tryd.func50, Tryd.ntmps50
  go_wp2
  go_loop [8] (fun i => i = .int .i64 0 ∨ (i = .int .i64 1 ∧ x = 0) ∨ (i = .int .i64 2 ∧ x = 0 ∧ y = 0)) (fun i => 2 - (intOf i).toNat)
  case atStart => exact .inl rfl
  case round =>
    rcases hrel with rfl | ⟨rfl, hx⟩ | ⟨rfl, hx, hy⟩
    · by_cases hx : x = 0
      · have hxb : (x == 0) = true := by simpa using hx
        have HX := Lib.hid hx
        clear hx
        go_wp2
        go_round
        case rel => exact .inr (.inl ⟨rfl, HX.out⟩)
        case measure => simp [intOf]
      · have hxb : (x == 0) = false := by simpa using hx
        have HX := Lib.hid hx
        clear hx
        go_wp2
        go_ret
        exact ⟨ret1 (by rw [← HR.out]; exact (if_neg HX.out).symm), rfl⟩
    · by_cases hy : y = 0
      · have hyb : (y == 0) = true := by simpa using hy
        have HX := Lib.hid hx
        have HY := Lib.hid hy
        clear hx hy
        go_wp2
        go_round
        case rel => exact .inr (.inr ⟨rfl, HX.out, HY.out⟩)
        case measure => simp [intOf]
      · have hyb : (y == 0) = false := by simpa using hy
        have HX := Lib.hid hx
        clear hx hy
        go_wp2
        go_ret
        exact ⟨ret1 (by rw [← HR.out]; exact (if_pos HX.out).symm), rfl⟩
    · have HX := Lib.hid (And.intro hx hy)
      clear hx hy
      go_wp2
      go_ret
      exact ⟨ret1 (by rw [← HR.out]; unfold orI; rw [if_pos HX.out.1, HX.out.2]), rfl⟩
end Go.Proofs.YtaikapgpkkpdjaaDoor.L
