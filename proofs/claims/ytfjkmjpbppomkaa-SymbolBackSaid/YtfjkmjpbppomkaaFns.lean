/- The functions of package symbol and of its reference: what each call answers. -/
import Derived.Test.YtfjkmjpbppomkaaRows
import Derived.WalkKit
import Derived.ProofKit
import Derived.OpenShut
import Derived.Outline
import Derived.IntWalk
import Derived.Deep.QuietTactic
import Derived.BigQuiet
namespace Go.Proofs.Ytfjkmjpbppomkaa.S
open Go.ChangeShapes Go.WideShapes Go.ChangeAt Go.RowKit
set_option linter.unusedVariables false
set_option linter.unusedSimpArgs false

/-- bits besides of a length's symbol -/
def lb (s : Int) : Int := if s < 257 ∨ 285 < s then 0 else if s < 265 ∨ s = 285 then 0 else (s - 265) / 4 + 1
def lbOk (s : Int) : Bool := decide (257 ≤ s ∧ s ≤ 285)


theorem ret2 {k : IntKind} {a b : Int} {x y : Bool} (h : a = b) (g : x = y) : Ending.returned (.tuple #[.int k a, .bool x]) = .returned (.tuple #[.int k b, .bool y]) := by rw [h, g]
theorem ret1 {k : IntKind} {a b : Int} (h : a = b) : Ending.returned (.int k a) = .returned (.int k b) := by rw [h]

theorem lengthBits (s : Int) (w : World) :
    Calls Try.prog 12 #[.int .i64 s] w fun e w' => e = .returned (.tuple #[.int .i64 (lb s), .bool (lbOk s)]) ∧ w = w' := by
  by_cases h1 : s < 257
  · go_enter Try.func12, Try.ntmps12
    go_wp2
    go_ret2
    exact ⟨ret2 (by unfold lb; rw [if_pos (Or.inl h1)]) (by unfold lbOk; exact (decide_eq_false (by omega)).symm), rfl⟩
  · by_cases h2 : 285 < s
    · go_enter Try.func12, Try.ntmps12
      go_wp2
      go_ret2
      exact ⟨ret2 (by unfold lb; rw [if_pos (Or.inr h2)]) (by unfold lbOk; exact (decide_eq_false (by omega)).symm), rfl⟩
    · by_cases h3 : s < 265
      · go_enter Try.func12, Try.ntmps12
        go_wp2
        go_ret2
        exact ⟨ret2 (by unfold lb; rw [if_neg (by omega), if_pos (Or.inl h3)]) (by unfold lbOk; exact (decide_eq_true (by omega)).symm), rfl⟩
      · by_cases h4 : s = 285
        · subst h4
          go_enter Try.func12, Try.ntmps12
          go_wp2
          go_ret2
          exact ⟨ret2 (by decide) (by decide), rfl⟩
        · go_enter Try.func12, Try.ntmps12
          go_wp2
          go_ret2
          exact ⟨ret2 (by unfold lb; rw [if_neg (by omega), if_neg (by omega)]) (by unfold lbOk; exact (decide_eq_true (by omega)).symm), rfl⟩

/-- bits besides of a distance's symbol -/
def db (s : Int) : Int := if s < 0 ∨ 29 < s then 0 else if s < 4 then 0 else s / 2 - 1
def dbOk (s : Int) : Bool := decide (0 ≤ s ∧ s ≤ 29)

theorem distBits (s : Int) (w : World) :
    Calls Try.prog 13 #[.int .i64 s] w fun e w' => e = .returned (.tuple #[.int .i64 (db s), .bool (dbOk s)]) ∧ w = w' := by
  by_cases h1 : s < 0
  · go_enter Try.func13, Try.ntmps13
    go_wp2
    go_ret2
    exact ⟨ret2 (by unfold db; rw [if_pos (Or.inl h1)]) (by unfold dbOk; exact (decide_eq_false (by omega)).symm), rfl⟩
  · by_cases h2 : 29 < s
    · go_enter Try.func13, Try.ntmps13
      go_wp2
      go_ret2
      exact ⟨ret2 (by unfold db; rw [if_pos (Or.inr h2)]) (by unfold dbOk; exact (decide_eq_false (by omega)).symm), rfl⟩
    · by_cases h3 : s < 4
      · go_enter Try.func13, Try.ntmps13
        go_wp2
        go_ret2
        exact ⟨ret2 (by unfold db; rw [if_neg (by omega), if_pos h3]) (by unfold dbOk; exact (decide_eq_true (by omega)).symm), rfl⟩
      · go_enter Try.func13, Try.ntmps13
        go_wp2
        go_ret2
        exact ⟨ret2 (by unfold db; rw [if_neg (by omega), if_neg (by omega)]) (by unfold dbOk; exact (decide_eq_true (by omega)).symm), rfl⟩


def lens : List Int := [3, 4, 5, 6, 7, 8, 9, 10, 11, 13, 15, 17, 19, 23, 27, 31, 35, 43, 51, 59, 67, 83, 99, 115, 131, 163, 195, 227, 258]
def dsts : List Int := [1, 2, 3, 4, 5, 7, 9, 13, 17, 25, 33, 49, 65, 97, 129, 193, 257, 385, 513, 769, 1025, 1537, 2049, 3073, 4097, 6145, 8193, 12289, 16385, 24577]
/-- a length's symbol's least one -/
def ls (s : Int) : Int := lens.getD (s - 257).toNat 0
def ds (s : Int) : Int := dsts.getD s.toNat 0

theorem cases_len (s : Int) (h0 : 257 ≤ s) (h1 : s ≤ 285) : s = 257 ∨ s = 258 ∨ s = 259 ∨ s = 260 ∨ s = 261 ∨ s = 262 ∨ s = 263 ∨ s = 264 ∨ s = 265 ∨ s = 266 ∨ s = 267 ∨ s = 268 ∨ s = 269 ∨ s = 270 ∨ s = 271 ∨ s = 272 ∨ s = 273 ∨ s = 274 ∨ s = 275 ∨ s = 276 ∨ s = 277 ∨ s = 278 ∨ s = 279 ∨ s = 280 ∨ s = 281 ∨ s = 282 ∨ s = 283 ∨ s = 284 ∨ s = 285 := by omega
theorem cases_dst (s : Int) (h0 : 0 ≤ s) (h1 : s ≤ 29) : s = 0 ∨ s = 1 ∨ s = 2 ∨ s = 3 ∨ s = 4 ∨ s = 5 ∨ s = 6 ∨ s = 7 ∨ s = 8 ∨ s = 9 ∨ s = 10 ∨ s = 11 ∨ s = 12 ∨ s = 13 ∨ s = 14 ∨ s = 15 ∨ s = 16 ∨ s = 17 ∨ s = 18 ∨ s = 19 ∨ s = 20 ∨ s = 21 ∨ s = 22 ∨ s = 23 ∨ s = 24 ∨ s = 25 ∨ s = 26 ∨ s = 27 ∨ s = 28 ∨ s = 29 := by omega

theorem least (s : Int) (w : World) (h0 : 257 ≤ s) (h1 : s ≤ 285) :
    Calls Try.prog 21 #[.int .i64 s] w fun e w' => e = .returned (.int .i64 (ls s)) ∧ w = w' := by
  rcases cases_len s h0 h1 with rfl | rfl | rfl | rfl | rfl | rfl | rfl | rfl | rfl | rfl | rfl | rfl | rfl | rfl | rfl | rfl | rfl | rfl | rfl | rfl | rfl | rfl | rfl | rfl | rfl | rfl | rfl | rfl | rfl
  all_goals
    clear h0 h1
    go_enter Try.func21, Try.ntmps21
    go_wp2_with (go_at_call 12; refine (lengthBits _ _).mono ?_; rintro e w' ⟨rfl, rfl⟩; simp only [lb, lbOk])
    go_wp2
    go_ret
    exact ⟨ret1 (by kernel_rfl), rfl⟩

theorem near (s : Int) (w : World) (h0 : 0 ≤ s) (h1 : s ≤ 29) :
    Calls Try.prog 24 #[.int .i64 s] w fun e w' => e = .returned (.int .i64 (ds s)) ∧ w = w' := by
  rcases cases_dst s h0 h1 with rfl | rfl | rfl | rfl | rfl | rfl | rfl | rfl | rfl | rfl | rfl | rfl | rfl | rfl | rfl | rfl | rfl | rfl | rfl | rfl | rfl | rfl | rfl | rfl | rfl | rfl | rfl | rfl | rfl | rfl
  all_goals
    clear h0 h1
    go_enter Try.func24, Try.ntmps24
    go_wp2_with (go_at_call 13; refine (distBits _ _).mono ?_; rintro e w' ⟨rfl, rfl⟩; simp only [db, dbOk])
    go_wp2
    go_ret
    exact ⟨ret1 (by kernel_rfl), rfl⟩


end Go.Proofs.Ytfjkmjpbppomkaa.S
