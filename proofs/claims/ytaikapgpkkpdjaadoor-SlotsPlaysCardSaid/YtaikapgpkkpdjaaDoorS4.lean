/- Slots: the least free index: the walk. -/
import Derived.Test.YtaikapgpkkpdjaaDoorS3
namespace Go.Proofs.YtaikapgpkkpdjaaDoor.L
open Go.ChangeShapes Go.WideShapes Go.ChangeAt Go.RowKit Go.Maps Go.Proofs.YtaikapgpkkpdjaaDoor.G
set_option linter.unusedVariables false
set_option linter.unusedSimpArgs false

theorem least_zero : leastBit 0 = 64 := by decide +kernel
theorem off_of (x t : Nat) (hx : x < 2 ^ 64) (ht : t < 64) (h2 : x.testBit t = true) (h3 : ∀ i, i < t → x.testBit i = false) :
    ∃ off : Nat, off < 64 ∧ tabL.getD off 0 = t ∧ IntKind.u64.wrap (bits BinOp.and IntKind.u64 (x : Int) (IntKind.u64.wrap (-(x : Int))) * 285870213051353865) / 288230376151711744 = (off : Int) := by
  obtain ⟨hr1, hr2⟩ := tab_right ⟨t, ht⟩
  refine ⟨_, hr2, hr1, ?_⟩
  rw [and_neg x t hx h2 h3]
  simp only
  generalize 2 ^ t = P
  rw [IntKind.wrap_u64]
  omega

theorem tz0 (w : World) : Calls Tryd.prog 53 #[.int .u64 0] w fun e w' => e = .returned (.int .i64 64) ∧ w = w' := by
  go_enter Tryd.func53, Tryd.ntmps53
  go_wp2
  go_ret
  exact ⟨rfl, rfl⟩

theorem tz1 (x t off : Nat) (hx0 : ((x : Int) == 0) = false) (hr2 : off < 64) (ht : (t : Int) < 64)
    (hw : IntKind.u64.wrap (bits BinOp.and IntKind.u64 (x : Int) (IntKind.u64.wrap (-(x : Int))) * 285870213051353865) / 288230376151711744 = (off : Int))
    (w : World) (hcell : w.cell? ⟨0, off, none⟩ = some (.int .u8 (t : Int))) : Calls Tryd.prog 53 #[.int .u64 x] w fun e w' => e = .returned (.int .i64 t) ∧ w = w' := by
  go_enter Tryd.func53, Tryd.ntmps53
  go_wp2
  go_ret
  exact ⟨rfl, rfl⟩

theorem tz (x : Nat) (hx : x < 2 ^ 64) (w : World) (hT : Tab w) :
    Calls Tryd.prog 53 #[.int .u64 x] w fun e w' => e = .returned (.int .i64 (leastBit x : Nat)) ∧ w = w' := by
  by_cases h0 : x = 0
  · subst h0
    rw [least_zero]
    exact tz0 w
  · obtain ⟨h1, h2, h3⟩ := leastBit_spec x hx h0
    obtain ⟨off, o1, o2, o3⟩ := off_of x _ hx h1 h2 h3
    generalize leastBit x = t at *
    have hcell := hT off o1
    rw [o2] at hcell
    exact tz1 x t off (by simpa using h0) o1 (by omega) o3 w hcell
end Go.Proofs.YtaikapgpkkpdjaaDoor.L
