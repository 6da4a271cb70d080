/- Slots: which states are asked; how slots are compared. -/
import Derived.Test.YtaikapgpkkpdjaaDoorSD
namespace Go.Proofs.YtaikapgpkkpdjaaDoor.L
open Go.ChangeShapes Go.WideShapes Go.ChangeAt Go.RowKit Go.Maps Go.Proofs.YtaikapgpkkpdjaaDoor.G
set_option linter.unusedVariables false
set_option linter.unusedSimpArgs false

theorem closure36 (v : Bool) (e : Nat) (w : World) : Calls Tryd.prog 36 #[.agg #[.bool v, .int .u64 e]] w fun e' w' => e' = .returned (.bool (!v)) ∧ Below w.heap.size w w' := by
  have HB : Hid (Below w.heap.size w (w.alloc (.cells #[.bool v, .int .u64 e] 80))) := (Below.refl _ w).alloc (Nat.le_refl _) _
  go_enter Tryd.func36, Tryd.ntmps36
  go_wp2
  go_ret
  exact ⟨rfl, HB.out⟩
theorem closure37 (v : Bool) (e : Nat) (w : World) : Calls Tryd.prog 37 #[.agg #[.bool v, .int .u64 e]] w fun e' w' => e' = .returned (.bool v) ∧ Below w.heap.size w w' := by
  have HB : Hid (Below w.heap.size w (w.alloc (.cells #[.bool v, .int .u64 e] 80))) := (Below.refl _ w).alloc (Nat.le_refl _) _
  go_enter Tryd.func37, Tryd.ntmps37
  go_wp2
  go_ret
  exact ⟨rfl, HB.out⟩
theorem closure43 (v : Bool) (e ep : Nat) (a : Addr) (w : World) (ha : w.cell? a = some (.int .u64 ep)) : Calls Tryd.prog 43 #[.agg #[.bool v, .int .u64 e], .pointer (some a)] w fun e' w' => e' = .returned (.bool (v && decide (e ≤ ep))) ∧ Below w.heap.size w w' := by
  have HB : Hid (Below w.heap.size w (w.alloc (.cells #[.bool v, .int .u64 e] 80))) := (Below.refl _ w).alloc (Nat.le_refl _) _
  have ha' : (w.alloc (.cells #[.bool v, .int .u64 e] 80)).cell? a = some (.int .u64 ep) := ((Turned.refl [] w).alloc _).cell ha (by simp)
  have hlt : a.block < w.heap.size := lt_of_cell ha
  cases v with
  | false =>
    go_enter Tryd.func43, Tryd.ntmps43
    go_wp2
    go_ret
    exact ⟨rfl, HB.out⟩
  | true =>
    have hd : decide ((e : Int) ≤ ep) = decide (e ≤ ep) := by simp
    obtain ⟨D, hD⟩ : ∃ D, decide (e ≤ ep) = D := ⟨_, rfl⟩
    rw [hD] at hd
    rw [hD]
    have HD := Lib.hid hd
    clear hD hd
    go_enter Tryd.func43, Tryd.ntmps43
    go_wp2
    go_ret
    exact ⟨retB (by first | exact HD.out | (rw [Bool.true_and]; exact HD.out) | simpa using HD.out), HB.out⟩

/-- cmp.Compare -/
def cmpI (a b : Int) : Int := if a < b then -1 else if b < a then 1 else 0
theorem isnan (a : Int) (w : World) : Calls Tryd.prog 56 #[.int .i64 a] w fun e' w' => e' = .returned (.bool false) ∧ w = w' := by
  go_enter Tryd.func56, Tryd.ntmps56
  go_wp2
  go_ret
  exact ⟨rfl, rfl⟩
theorem compare (a b : Int) (w : World) : Calls Tryd.prog 51 #[.int .i64 a, .int .i64 b] w fun e' w' => e' = .returned (.int .i64 (cmpI a b)) ∧ w = w' := by
  have CN := Lib.hid isnan
  have h3 : a < b ∨ b < a ∨ a = b := by omega
  rcases h3 with h | h | rfl
  · rw [show cmpI a b = -1 from if_pos h]
    go_enter Tryd.func51, Tryd.ntmps51
    go_wp2_with (go_at_call 56; ((with_reducible refine (CN.out _ _).mono ?_); rintro e ww ⟨rfl, rfl⟩))
    go_ret
    exact ⟨rfl, rfl⟩
  · rw [show cmpI a b = 1 by unfold cmpI; rw [if_neg (by omega), if_pos h]]
    have h' : ¬ a < b := by omega
    go_enter Tryd.func51, Tryd.ntmps51
    go_wp2_with (go_at_call 56; ((with_reducible refine (CN.out _ _).mono ?_); rintro e ww ⟨rfl, rfl⟩))
    go_ret
    exact ⟨rfl, rfl⟩
  · rw [show cmpI a a = 0 by unfold cmpI; rw [if_neg (by omega), if_neg (by omega)]]
    go_enter Tryd.func51, Tryd.ntmps51
    go_wp2_with (go_at_call 56; ((with_reducible refine (CN.out _ _).mono ?_); rintro e ww ⟨rfl, rfl⟩))
    go_ret
    exact ⟨rfl, rfl⟩
end Go.Proofs.YtaikapgpkkpdjaaDoor.L
