/- Slots: which slot is the first that is free, of an extent. -/
import Derived.Test.YtaikapgpkkpdjaaDoorS4
import Derived.Lib.Zigzag
namespace Go.Proofs.YtaikapgpkkpdjaaDoor.L
open Go.ChangeShapes Go.WideShapes Go.ChangeAt Go.RowKit Go.Maps Go.Proofs.YtaikapgpkkpdjaaDoor.G
set_option linter.unusedVariables false
set_option linter.unusedSimpArgs false

theorem retT {a b : Value} (h : a = b) : Ending.returned a = .returned b := by rw [h]
/-- the least index that is not used -/
def freeI (u : Nat) : Nat := leastBit (2 ^ 64 - 1 - u)
/-- an extent -/
def encX (c : Int) (u : Nat) : Value := .agg #[.int .i64 c, .int .u64 u]

theorem not_u64 (u : Nat) (hu : u < 2 ^ 64) : bits BinOp.xor IntKind.u64 IntKind.u64.max (u : Int) = ((2 ^ 64 - 1 - u : Nat) : Int) := by
  have e1 : IntKind.u64.max = ((2 ^ 64 - 1 : Nat) : Int) := by decide
  rw [e1, bits_xor_u64_nat _ _ (by decide) (by omega), Go.Lib.xor_ones64 _ hu]

theorem first (c : Int) (u : Nat) (hc : 0 ≤ c ∧ c ≤ 6) (hu : u < 2 ^ 64) (w : World) (hT : Tab w) :
    Calls Tryd.prog 41 #[.agg #[.int .i64 c, .int .u64 u]] w fun e w' => e = .returned (.tuple #[.int .i64 (freeI u : Nat), .bool (decide ((freeI u : Int) < slotsC (c - 1)))]) ∧ Below w.heap.size w w' := by
  have hw := not_u64 u hu
  have CT := Lib.hid (fun w hT => tz (2 ^ 64 - 1 - u) (by omega) w hT)
  have CS := Lib.hid (slots (c - 1))
  have HT : Hid (∀ o, Tab (w.alloc o)) := fun o => hT.turned ((Turned.refl [] w).alloc o) (by simp)
  unfold freeI
  generalize 2 ^ 64 - 1 - u = x at *
  generalize leastBit x = t at *
  generalize slotsC (c - 1) = s at *
  go_enter Tryd.func41, Tryd.ntmps41
  go_wp2_with (first | (go_at_call 53; ((with_reducible refine (CT.out _ (HT.out _)).mono ?_); rintro e ww ⟨rfl, rfl⟩)) | (go_at_call 21; ((with_reducible refine (CS.out _).mono ?_); rintro e ww ⟨rfl, hb⟩)))
  go_ret2
  exact ⟨rfl, (((Below.refl _ w).alloc (Nat.le_refl _) _).trans (hb.mono (by simp)))⟩
end Go.Proofs.YtaikapgpkkpdjaaDoor.L
