/- Slots: functions of classes. -/
import Derived.Test.YtaikapgpkkpdjaaDoorS1
namespace Go.Proofs.YtaikapgpkkpdjaaDoor.L
open Go.ChangeShapes Go.WideShapes Go.ChangeAt Go.RowKit Go.Maps Go.Proofs.YtaikapgpkkpdjaaDoor.G
set_option linter.unusedVariables false
set_option linter.unusedSimpArgs false

theorem ret1 {k : IntKind} {a b : Int} (h : a = b) : Ending.returned (.int k a) = .returned (.int k b) := by rw [h]
theorem retB {a b : Bool} (h : a = b) : Ending.returned (.bool a) = .returned (.bool b) := by rw [h]

def isPage (p : Int) : Bool := p == 1024 || p == 2048 || p == 4096 || p == 8192 || p == 16384
theorem pow_pages : ∀ a : Fin 121, ∀ b : Fin 128, (bits BinOp.and IntKind.i64 ((128 * a.val + b.val + 1024 : Nat) : Int) ((128 * a.val + b.val + 1023 : Nat) : Int) == 0) = isPage ((128 * a.val + b.val + 1024 : Nat) : Int) := by decide +kernel
theorem pow_page (p : Int) (h0 : 1024 ≤ p) (h1 : p ≤ 16384) : (bits BinOp.and IntKind.i64 p (p - 1) == 0) = isPage p := by
  have := pow_pages ⟨(p - 1024).toNat / 128, by omega⟩ ⟨(p - 1024).toNat % 128, by omega⟩
  have e1 : ((128 * ((p - 1024).toNat / 128) + (p - 1024).toNat % 128 + 1024 : Nat) : Int) = p := by omega
  have e2 : ((128 * ((p - 1024).toNat / 128) + (p - 1024).toNat % 128 + 1023 : Nat) : Int) = p - 1 := by omega
  simp only [e1, e2] at this
  exact this
theorem not_page (p : Int) (h : p < 1024 ∨ 16384 < p) : isPage p = false := by
  unfold isPage
  simp
  omega

/-- the function Page -/
theorem page (p : Int) (w : World) : Calls Tryd.prog 27 #[.int .i64 p] w fun e w' => e = .returned (.bool (isPage p)) ∧ w = w' := by
  by_cases h0 : 1024 ≤ p
  · by_cases h1 : p ≤ 16384
    · have hp := pow_page p h0 h1
      have HP := Lib.hid hp
      generalize isPage p = B at *
      clear hp
      go_enter Tryd.func27, Tryd.ntmps27
      go_wp2
      go_ret
      exact ⟨retB HP.out, rfl⟩
    · have HP := Lib.hid (not_page p (.inr (by omega)))
      generalize isPage p = B at *
      go_enter Tryd.func27, Tryd.ntmps27
      go_wp2
      go_ret
      exact ⟨retB HP.out.symm, rfl⟩
  · have HP := Lib.hid (not_page p (.inl (by omega)))
    generalize isPage p = B at *
    go_enter Tryd.func27, Tryd.ntmps27
    go_wp2
    go_ret
    exact ⟨retB HP.out.symm, rfl⟩

/-- how many units a slot of a class has -/
def unitsC (c : Int) : Int := if c = 0 then 1 else if c = 1 then 2 else if c = 2 then 4 else if c = 3 then 8 else if c = 4 then 16 else if c = 5 then 17 else 0
theorem unitsC_of (c : Int) : (c = 0 ∧ unitsC c = 1) ∨ (c = 1 ∧ unitsC c = 2) ∨ (c = 2 ∧ unitsC c = 4) ∨ (c = 3 ∧ unitsC c = 8) ∨ (c = 4 ∧ unitsC c = 16) ∨ (c = 5 ∧ unitsC c = 17) ∨ ((c < 0 ∨ 6 ≤ c) ∧ unitsC c = 0) := by
  unfold unitsC
  repeat' split
  all_goals omega

theorem units_fn (w : World) : Calls Tryd.prog 52 #[] w fun e w' => e = .returned (.agg #[.int .i64 1, .int .i64 2, .int .i64 4, .int .i64 8, .int .i64 16, .int .i64 17]) ∧ Below w.heap.size w w' := by
  go_enter Tryd.func52, Tryd.ntmps52
  go_wp2
  refine bodyPost_ret (v := .agg #[.int .i64 1, .int .i64 2, .int .i64 4, .int .i64 8, .int .i64 16, .int .i64 17]) (by simp [results, Tryd.results52, go_sem]) rfl ⟨rfl, (Below.refl _ _).alloc (Nat.le_refl _) _⟩

theorem ix0 (w : World) : (Instr.index 94 (.agg #[.int .i64 1, .int .i64 2, .int .i64 4, .int .i64 8, .int .i64 16, .int .i64 17]) (.int .i64 0)).run Tryd.prog w = .ok (.int .i64 1) w := by kernel_rfl
theorem ix1 (w : World) : (Instr.index 94 (.agg #[.int .i64 1, .int .i64 2, .int .i64 4, .int .i64 8, .int .i64 16, .int .i64 17]) (.int .i64 1)).run Tryd.prog w = .ok (.int .i64 2) w := by kernel_rfl
theorem ix2 (w : World) : (Instr.index 94 (.agg #[.int .i64 1, .int .i64 2, .int .i64 4, .int .i64 8, .int .i64 16, .int .i64 17]) (.int .i64 2)).run Tryd.prog w = .ok (.int .i64 4) w := by kernel_rfl
theorem ix3 (w : World) : (Instr.index 94 (.agg #[.int .i64 1, .int .i64 2, .int .i64 4, .int .i64 8, .int .i64 16, .int .i64 17]) (.int .i64 3)).run Tryd.prog w = .ok (.int .i64 8) w := by kernel_rfl
theorem ix4 (w : World) : (Instr.index 94 (.agg #[.int .i64 1, .int .i64 2, .int .i64 4, .int .i64 8, .int .i64 16, .int .i64 17]) (.int .i64 4)).run Tryd.prog w = .ok (.int .i64 16) w := by kernel_rfl
theorem ix5 (w : World) : (Instr.index 94 (.agg #[.int .i64 1, .int .i64 2, .int .i64 4, .int .i64 8, .int .i64 16, .int .i64 17]) (.int .i64 5)).run Tryd.prog w = .ok (.int .i64 17) w := by kernel_rfl

set_option maxRecDepth 100000 in
theorem units (c : Int) (w : World) : Calls Tryd.prog 38 #[.int .i64 c] w fun e w' => e = .returned (.int .i64 (unitsC c)) ∧ Below w.heap.size w w' := by
  have cU := Lib.hid units_fn
  rcases unitsC_of c with ⟨rfl, h⟩ | ⟨rfl, h⟩ | ⟨rfl, h⟩ | ⟨rfl, h⟩ | ⟨rfl, h⟩ | ⟨rfl, h⟩ | ⟨ho, h⟩ <;> rw [h] <;> clear h
  case inr.inr.inr.inr.inr.inr =>
    rcases ho with ho | ho
    all_goals
      go_enter Tryd.func38, Tryd.ntmps38
      go_wp2
      go_ret
      exact ⟨rfl, Below.refl _ _⟩
  all_goals
    have i0 := ix0
    have i1 := ix1
    have i2 := ix2
    have i3 := ix3
    have i4 := ix4
    have i5 := ix5
    go_enter Tryd.func38, Tryd.ntmps38
    go_wp2_with (go_at_call 52; ((with_reducible refine (cU.out _).mono ?_); rintro e ww ⟨rfl, hb⟩))
    go_ret
    exact ⟨rfl, hb⟩

/-- how many slots of a class an extent has -/
def slotsC (c : Int) : Int := if c = 0 then 64 else if c = 1 then 32 else if c = 2 then 16 else if c = 3 then 8 else if c = 4 then 4 else if c = 5 then 3 else 0
theorem slotsC_of (c : Int) : (unitsC c = 1 ∧ slotsC c = 64) ∨ (unitsC c = 2 ∧ slotsC c = 32) ∨ (unitsC c = 4 ∧ slotsC c = 16) ∨ (unitsC c = 8 ∧ slotsC c = 8) ∨ (unitsC c = 16 ∧ slotsC c = 4) ∨ (unitsC c = 17 ∧ slotsC c = 3) ∨ (unitsC c = 0 ∧ slotsC c = 0) := by
  unfold unitsC slotsC
  repeat' split
  all_goals omega
theorem slots (c : Int) (w : World) : Calls Tryd.prog 21 #[.int .i64 c] w fun e w' => e = .returned (.int .i64 (slotsC c)) ∧ Below w.heap.size w w' := by
  have cU := units c
  rcases slotsC_of c with ⟨h, h'⟩ | ⟨h, h'⟩ | ⟨h, h'⟩ | ⟨h, h'⟩ | ⟨h, h'⟩ | ⟨h, h'⟩ | ⟨h, h'⟩
  all_goals
    rw [h] at cU
    rw [h']
    have CU := Lib.hid cU
    clear cU h h'
    go_enter Tryd.func21, Tryd.ntmps21
    go_wp2_with (go_at_call 38; ((with_reducible refine (CU.out _).mono ?_); rintro e ww ⟨rfl, hb⟩))
    go_ret
    exact ⟨rfl, hb⟩

/-- how many bytes a slot of a class has -/
def sizeC (c p : Int) : Int := if isPage p then unitsC c * (p / 16) else 0
theorem size (c p : Int) (w : World) : Calls Tryd.prog 32 #[.int .i64 c, .int .i64 p] w fun e w' => e = .returned (.int .i64 (sizeC c p)) ∧ Below w.heap.size w w' := by
  have CP := Lib.hid (page p)
  have CU := Lib.hid (units c)
  have HU : 0 ≤ unitsC c ∧ unitsC c ≤ 17 := by rcases unitsC_of c with h | h | h | h | h | h | h <;> omega
  cases hp : isPage p
  · rw [hp] at CP
    have e : sizeC c p = 0 := by unfold sizeC; rw [hp]; rfl
    rw [e]
    clear hp e
    go_enter Tryd.func32, Tryd.ntmps32
    go_wp2_with (go_at_call 27; ((with_reducible refine (CP.out _).mono ?_); rintro e ww ⟨rfl, rfl⟩))
    go_ret
    exact ⟨rfl, Below.refl _ _⟩
  · rw [hp] at CP
    have e : sizeC c p = unitsC c * (p / 16) := by unfold sizeC; rw [hp]; rfl
    have hpp : p = 1024 ∨ p = 2048 ∨ p = 4096 ∨ p = 8192 ∨ p = 16384 := by unfold isPage at hp; simpa [or_assoc] using hp
    rw [e]
    clear hp e
    generalize unitsC c = u at *
    rcases hpp with rfl | rfl | rfl | rfl | rfl
    all_goals
      go_enter Tryd.func32, Tryd.ntmps32
      go_wp2_with (first | (go_at_call 27; ((with_reducible refine (CP.out _).mono ?_); rintro e ww ⟨rfl, rfl⟩)) | (go_at_call 38; ((with_reducible refine (CU.out _).mono ?_); rintro e ww ⟨rfl, hb⟩)))
      go_ret
      exact ⟨by first | rfl | (apply ret1; omega), hb⟩
end Go.Proofs.YtaikapgpkkpdjaaDoor.L
