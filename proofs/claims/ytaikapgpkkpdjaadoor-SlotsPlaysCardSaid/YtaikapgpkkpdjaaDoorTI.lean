/- Slots: the document's: how they lie in memory; functions of classes and sizes. -/
import Derived.Test.YtaikapgpkkpdjaaDoorTD
import Derived.IntWalk
namespace Go.Proofs.YtaikapgpkkpdjaaDoor.L
open Go.ChangeShapes Go.WideShapes Go.ChangeAt Go.RowKit Go.Maps Go.Proofs.YtaikapgpkkpdjaaDoor.G Go.Sort Go.Shelf Go.Lib Go.Deep
set_option linter.unusedVariables false
set_option linter.unusedSimpArgs false

/-! ### functions of classes and sizes -/
theorem rpage (p : Int) (hp : I64 p) (w : World) : Calls Tryd.prog 28 #[.int .i64 p] w fun e w' => e = .returned (.bool (isPage p)) ∧ w = w' := by
  obtain ⟨B, hB⟩ : ∃ B, isPage p = B := ⟨_, rfl⟩
  have HB := Lib.hid hB
  rw [hB]
  clear hB
  unfold I64 at hp
  go_enter Tryd.func28, Tryd.ntmps28
  go_wp2
  go_loop [3] (fun v => (v = .int .i64 1024 ∨ (v = .int .i64 2048 ∧ p ≠ 1024) ∨ (v = .int .i64 4096 ∧ p ≠ 1024 ∧ p ≠ 2048) ∨ (v = .int .i64 8192 ∧ p ≠ 1024 ∧ p ≠ 2048 ∧ p ≠ 4096) ∨ (v = .int .i64 16384 ∧ p ≠ 1024 ∧ p ≠ 2048 ∧ p ≠ 4096 ∧ p ≠ 8192) ∨ (v = .int .i64 32768 ∧ p ≠ 1024 ∧ p ≠ 2048 ∧ p ≠ 4096 ∧ p ≠ 8192 ∧ p ≠ 16384))) (fun v => 40000 - (intOf v).toNat)
  case atStart => exact .inl rfl
  case round =>
    rcases hrel with rfl | ⟨rfl, h⟩ | ⟨rfl, h⟩ | ⟨rfl, h⟩ | ⟨rfl, h⟩ | ⟨rfl, h⟩
    case inr.inr.inr.inr.inr =>
      have H := Lib.hid h
      clear h
      go_wp2
      go_ret
      exact ⟨retB (by rw [← HB.out]; unfold isPage; have := H.out; simp; omega), rfl⟩
    case inl =>
      by_cases he : p = 1024
      · have hb : ((1024 : Int) == p) = true := by simpa using he.symm
        have H := Lib.hid he
        clear he
        go_wp2
        go_ret
        exact ⟨retB (by rw [← HB.out]; unfold isPage; have := H.out; simp; omega), rfl⟩
      · have hb : ((1024 : Int) == p) = false := by rw [beq_eq_false_iff_ne]; omega
        have H := Lib.hid he
        clear he
        go_wp2
        go_round
        case rel => exact .inr (.inl ⟨rfl, H.out⟩)
        case measure => simp [intOf]
    case inr.inl =>
      by_cases he : p = 2048
      · have hb : ((2048 : Int) == p) = true := by simpa using he.symm
        have H := Lib.hid he
        clear he h
        go_wp2
        go_ret
        exact ⟨retB (by rw [← HB.out]; unfold isPage; have := H.out; simp; omega), rfl⟩
      · have hb : ((2048 : Int) == p) = false := by rw [beq_eq_false_iff_ne]; omega
        have H := Lib.hid (And.intro h he)
        clear he h
        go_wp2
        go_round
        case rel => have := H.out; exact .inr (.inr (.inl ⟨rfl, by omega⟩))
        case measure => simp [intOf]
    case inr.inr.inl =>
      by_cases he : p = 4096
      · have hb : ((4096 : Int) == p) = true := by simpa using he.symm
        have H := Lib.hid he
        clear he h
        go_wp2
        go_ret
        exact ⟨retB (by rw [← HB.out]; unfold isPage; have := H.out; simp; omega), rfl⟩
      · have hb : ((4096 : Int) == p) = false := by rw [beq_eq_false_iff_ne]; omega
        have H := Lib.hid (And.intro h he)
        clear he h
        go_wp2
        go_round
        case rel => have := H.out; exact .inr (.inr (.inr (.inl ⟨rfl, by omega⟩)))
        case measure => simp [intOf]
    case inr.inr.inr.inl =>
      by_cases he : p = 8192
      · have hb : ((8192 : Int) == p) = true := by simpa using he.symm
        have H := Lib.hid he
        clear he h
        go_wp2
        go_ret
        exact ⟨retB (by rw [← HB.out]; unfold isPage; have := H.out; simp; omega), rfl⟩
      · have hb : ((8192 : Int) == p) = false := by rw [beq_eq_false_iff_ne]; omega
        have H := Lib.hid (And.intro h he)
        clear he h
        go_wp2
        go_round
        case rel => have := H.out; exact .inr (.inr (.inr (.inr (.inl ⟨rfl, by omega⟩))))
        case measure => simp [intOf]
    case inr.inr.inr.inr.inl =>
      by_cases he : p = 16384
      · have hb : ((16384 : Int) == p) = true := by simpa using he.symm
        have H := Lib.hid he
        clear he h
        go_wp2
        go_ret
        exact ⟨retB (by rw [← HB.out]; unfold isPage; have := H.out; simp; omega), rfl⟩
      · have hb : ((16384 : Int) == p) = false := by rw [beq_eq_false_iff_ne]; omega
        have H := Lib.hid (And.intro h he)
        clear he h
        go_wp2
        go_round
        case rel => have := H.out; exact .inr (.inr (.inr (.inr (.inr ⟨rfl, by omega⟩))))
        case measure => simp [intOf]

theorem runits (c : Int) (w : World) : Calls Tryd.prog 47 #[.int .i64 c] w fun e w' => e = .returned (.int .i64 (unitsC c)) ∧ w = w' := by
  rcases unitsC_of c with ⟨rfl, h⟩ | ⟨rfl, h⟩ | ⟨rfl, h⟩ | ⟨rfl, h⟩ | ⟨rfl, h⟩ | ⟨rfl, h⟩ | ⟨ho, h⟩ <;> rw [h] <;> clear h
  case inr.inr.inr.inr.inr.inr =>
    have h0 : (c == 0) = false := by rw [beq_eq_false_iff_ne]; omega
    have h1 : (c == 1) = false := by rw [beq_eq_false_iff_ne]; omega
    have h2 : (c == 2) = false := by rw [beq_eq_false_iff_ne]; omega
    have h3 : (c == 3) = false := by rw [beq_eq_false_iff_ne]; omega
    have h4 : (c == 4) = false := by rw [beq_eq_false_iff_ne]; omega
    have h5 : (c == 5) = false := by rw [beq_eq_false_iff_ne]; omega
    clear ho
    go_enter Tryd.func47, Tryd.ntmps47
    go_wp2
    go_ret
    exact ⟨rfl, rfl⟩
  all_goals
    go_enter Tryd.func47, Tryd.ntmps47
    go_wp2
    go_ret
    exact ⟨rfl, rfl⟩

theorem rslots (c : Int) (w : World) : Calls Tryd.prog 45 #[.int .i64 c] w fun e w' => e = .returned (.int .i64 (slotsC c)) ∧ w = w' := by
  have cU := runits c
  rcases slotsC_of c with ⟨h, h'⟩ | ⟨h, h'⟩ | ⟨h, h'⟩ | ⟨h, h'⟩ | ⟨h, h'⟩ | ⟨h, h'⟩ | ⟨h, h'⟩
  case inr.inr.inr.inr.inr.inr =>
    rw [h] at cU
    rw [h']
    have CU := Lib.hid cU
    clear cU h h'
    go_enter Tryd.func45, Tryd.ntmps45
    go_wp2_with (go_at_call 47; ((with_reducible refine (CU.out _).mono ?_); rintro e ww ⟨rfl, rfl⟩))
    go_ret
    exact ⟨rfl, rfl⟩
  all_goals
    rw [h] at cU
    rw [h']
    have CU := Lib.hid cU
    clear cU h h'
    go_enter Tryd.func45, Tryd.ntmps45
    go_wp2_with (go_at_call 47; ((with_reducible refine (CU.out _).mono ?_); rintro e ww ⟨rfl, rfl⟩))
  · go_loop [4] (fun v => ∃ k : Nat, k ≤ 64 ∧ v = .int .i64 k) (fun v => 64 - (intOf v).toNat)
    case atStart => exact ⟨0, by omega, rfl⟩
    case round =>
      obtain ⟨k, hk, rfl⟩ := hrel
      by_cases hl : k < 64
      · go_wp2
        go_round
        case rel => exact ⟨k + 1, by omega, by go_num⟩
        case measure => simp [intOf]; omega
      · have he : k = 64 := by omega
        subst he
        go_wp2
        go_ret
        exact ⟨rfl, rfl⟩
  · go_loop [4] (fun v => ∃ k : Nat, k ≤ 32 ∧ v = .int .i64 k) (fun v => 32 - (intOf v).toNat)
    case atStart => exact ⟨0, by omega, rfl⟩
    case round =>
      obtain ⟨k, hk, rfl⟩ := hrel
      by_cases hl : k < 32
      · go_wp2
        go_round
        case rel => exact ⟨k + 1, by omega, by go_num⟩
        case measure => simp [intOf]; omega
      · have he : k = 32 := by omega
        subst he
        go_wp2
        go_ret
        exact ⟨rfl, rfl⟩
  · go_loop [4] (fun v => ∃ k : Nat, k ≤ 16 ∧ v = .int .i64 k) (fun v => 16 - (intOf v).toNat)
    case atStart => exact ⟨0, by omega, rfl⟩
    case round =>
      obtain ⟨k, hk, rfl⟩ := hrel
      by_cases hl : k < 16
      · go_wp2
        go_round
        case rel => exact ⟨k + 1, by omega, by go_num⟩
        case measure => simp [intOf]; omega
      · have he : k = 16 := by omega
        subst he
        go_wp2
        go_ret
        exact ⟨rfl, rfl⟩
  · go_loop [4] (fun v => ∃ k : Nat, k ≤ 8 ∧ v = .int .i64 k) (fun v => 8 - (intOf v).toNat)
    case atStart => exact ⟨0, by omega, rfl⟩
    case round =>
      obtain ⟨k, hk, rfl⟩ := hrel
      by_cases hl : k < 8
      · go_wp2
        go_round
        case rel => exact ⟨k + 1, by omega, by go_num⟩
        case measure => simp [intOf]; omega
      · have he : k = 8 := by omega
        subst he
        go_wp2
        go_ret
        exact ⟨rfl, rfl⟩
  · go_loop [4] (fun v => ∃ k : Nat, k ≤ 4 ∧ v = .int .i64 k) (fun v => 4 - (intOf v).toNat)
    case atStart => exact ⟨0, by omega, rfl⟩
    case round =>
      obtain ⟨k, hk, rfl⟩ := hrel
      by_cases hl : k < 4
      · go_wp2
        go_round
        case rel => exact ⟨k + 1, by omega, by go_num⟩
        case measure => simp [intOf]; omega
      · have he : k = 4 := by omega
        subst he
        go_wp2
        go_ret
        exact ⟨rfl, rfl⟩
  · go_loop [4] (fun v => ∃ k : Nat, k ≤ 3 ∧ v = .int .i64 k) (fun v => 3 - (intOf v).toNat)
    case atStart => exact ⟨0, by omega, rfl⟩
    case round =>
      obtain ⟨k, hk, rfl⟩ := hrel
      by_cases hl : k < 3
      · go_wp2
        go_round
        case rel => exact ⟨k + 1, by omega, by go_num⟩
        case measure => simp [intOf]; omega
      · have he : k = 3 := by omega
        subst he
        go_wp2
        go_ret
        exact ⟨rfl, rfl⟩

theorem rsize (c p : Int) (hp : I64 p) (w : World) : Calls Tryd.prog 34 #[.int .i64 c, .int .i64 p] w fun e w' => e = .returned (.int .i64 (sizeC c p)) ∧ w = w' := by
  have CP := Lib.hid (rpage p hp)
  have CU := Lib.hid (runits c)
  have HU : 0 ≤ unitsC c ∧ unitsC c ≤ 17 := by rcases unitsC_of c with h | h | h | h | h | h | h <;> omega
  cases hpp : isPage p
  · rw [hpp] at CP
    have e : sizeC c p = 0 := by unfold sizeC; rw [hpp]; rfl
    rw [e]
    clear hpp e
    go_enter Tryd.func34, Tryd.ntmps34
    go_wp2_with (go_at_call 28; ((with_reducible refine (CP.out _).mono ?_); rintro e ww ⟨rfl, rfl⟩))
    go_ret
    exact ⟨rfl, rfl⟩
  · rw [hpp] at CP
    have e : sizeC c p = unitsC c * (p / 16) := by unfold sizeC; rw [hpp]; rfl
    have hq : p = 1024 ∨ p = 2048 ∨ p = 4096 ∨ p = 8192 ∨ p = 16384 := by unfold isPage at hpp; simpa [or_assoc] using hpp
    rw [e]
    clear hpp e hp
    generalize unitsC c = u at *
    rcases hq with rfl | rfl | rfl | rfl | rfl
    all_goals
      go_enter Tryd.func34, Tryd.ntmps34
      go_wp2_with (first | (go_at_call 28; ((with_reducible refine (CP.out _).mono ?_); rintro e ww ⟨rfl, rfl⟩)) | (go_at_call 47; ((with_reducible refine (CU.out _).mono ?_); rintro e ww ⟨rfl, rfl⟩)))
      go_ret
      exact ⟨ret1 (by omega), rfl⟩
end Go.Proofs.YtaikapgpkkpdjaaDoor.L
