/- The search, and what lengths and distances are told by. -/
import Derived.Test.YtfjkmjpbppomkaaFns
import Derived.LoopTactic
import Derived.Lib.Hide
namespace Go.Proofs.Ytfjkmjpbppomkaa.S
open Go.ChangeShapes Go.WideShapes Go.ChangeAt Go.RowKit
set_option linter.unusedVariables false
set_option linter.unusedSimpArgs false

/-- the closures -/
theorem len1 (i n : Int) (a : Addr) (w : World) (hc : w.cell? a = some (.int .i64 n)) (h0 : 0 ≤ i) (h1 : i < 29) :
    Calls Try.prog 20 #[.int .i64 i, .pointer (some a)] w fun e w' => e = .returned (.bool (decide (n < ls (257 + i)))) ∧ ∃ m, w' = w.drewN m := by
  go_enter Try.func20, Try.ntmps20
  go_wp2_with (go_at_call 21; refine (least _ _ (by omega) (by omega)).mono ?_; rintro e w' ⟨rfl, rfl⟩)
  go_quiet ((go_at_call 21; refine Calls.quiet_of_same ((least _ _ (by omega) (by omega)).mono fun e w' h => ⟨h.1, h.2.symm⟩)))
  go_wp2
  go_ret
  exact ⟨rfl, _, rfl⟩

theorem dist1 (i n : Int) (a : Addr) (w : World) (hc : w.cell? a = some (.int .i64 n)) (h0 : 0 ≤ i) (h1 : i < 30) :
    Calls Try.prog 23 #[.int .i64 i, .pointer (some a)] w fun e w' => e = .returned (.bool (decide (n < ds i))) ∧ ∃ m, w' = w.drewN m := by
  go_enter Try.func23, Try.ntmps23
  go_wp2_with (go_at_call 24; refine (near _ _ (by omega) (by omega)).mono ?_; rintro e w' ⟨rfl, rfl⟩)
  go_quiet ((go_at_call 24; refine Calls.quiet_of_same ((near _ _ (by omega) (by omega)).mono fun e w' h => ⟨h.1, h.2.symm⟩)))
  go_wp2
  go_ret
  exact ⟨rfl, _, rfl⟩



/-- the first of n that is so, if all behind it are -/
theorem search20 (n : Nat) (hn : n ≤ 1000) (a : Addr) (p : Nat → Bool) (w : World) (hp : ∀ i j, i ≤ j → p i = true → p j = true)
    (ha : ∀ (i m : Nat), i < n → Calls Try.prog 20 #[.int .i64 i, .pointer (some a)] (w.drewN m) fun e w' => e = .returned (.bool (p i)) ∧ ∃ m', w' = w.drewN m') :
    Calls Try.prog 19 #[.int .i64 n, .func (.func 20) #[] #[.pointer (some a)]] w fun e w' =>
      ∃ r : Nat, (r ≤ n ∧ (∀ i, i < r → p i = false) ∧ (∀ i, r ≤ i → i < n → p i = true)) ∧ e = .returned (.int .i64 r) ∧ ∃ m, w' = w.drewN m := by
  go_enter Try.func19, Try.ntmps19
  go_wp2
  go_loopw [0, 5] (fun h l wr => ∃ lo hi m : Nat, lo ≤ hi ∧ hi ≤ n ∧ h = .int .i64 hi ∧ l = .int .i64 lo ∧ (∀ i, i < lo → p i = false) ∧ (∀ i, hi ≤ i → i < n → p i = true) ∧ wr = w.drewN m) (fun h l _ => (intOf h).toNat - (intOf l).toNat)
  case atStart => exact ⟨0, n, 0, by omega, by omega, rfl, rfl, fun i h => by omega, fun i h1 h2 => by omega, rfl⟩
  case round =>
    obtain ⟨lo, hi, m, h1, h2, rfl, rfl, hlo, hhi, rfl⟩ := hrel
    have Hlo := Lib.hid hlo
    have Hhi := Lib.hid hhi
    have Hp := Lib.hid hp
    clear hlo hhi hp
    by_cases hlt : lo < hi
    · have hc := ha ((lo + hi) / 2) m (by omega)
      have e1 : ((((lo + hi) / 2 : Nat) : Int)) = ((lo : Int) + hi) / 2 := by omega
      rw [e1] at hc
      have Ha := Lib.hid ha
      clear ha
      have e2 : p ((lo + hi) / 2) = true ∨ p ((lo + hi) / 2) = false := by cases p ((lo + hi) / 2) <;> simp
      rcases e2 with e2 | e2
      · rw [e2] at hc
        have E2 := Lib.hid e2
        clear e2 e1
        go_wp2_with (go_at_call 20; refine hc.mono ?_; rintro e w' ⟨rfl, m', rfl⟩)
        go_roundw
        case rel => exact ⟨lo, (lo + hi) / 2, m', by omega, by omega, by go_num, rfl, Hlo.out, fun i g1 g2 => Hp.out _ _ g1 E2.out, rfl⟩
        case measure => simp [intOf]; omega
      · rw [e2] at hc
        have E2 := Lib.hid e2
        clear e2 e1
        go_wp2_with (go_at_call 20; refine hc.mono ?_; rintro e w' ⟨rfl, m', rfl⟩)
        go_roundw
        case rel => exact ⟨(lo + hi) / 2 + 1, hi, m', by omega, by omega, rfl, by go_num, (fun i g1 => by
            cases hpi : p i with
            | false => rfl
            | true => exact absurd (Hp.out i ((lo + hi) / 2) (by omega) hpi) (by rw [E2.out]; decide)), Hhi.out, rfl⟩
        case measure => simp [intOf]; omega
    · have hh : lo = hi := by omega
      subst hh
      clear hlt
      go_wp2
      go_ret
      exact ⟨lo, ⟨h2, Hlo.out, Hhi.out⟩, rfl, _, rfl⟩

/-- the first of n that is so, if all behind it are -/
theorem search23 (n : Nat) (hn : n ≤ 1000) (a : Addr) (p : Nat → Bool) (w : World) (hp : ∀ i j, i ≤ j → p i = true → p j = true)
    (ha : ∀ (i m : Nat), i < n → Calls Try.prog 23 #[.int .i64 i, .pointer (some a)] (w.drewN m) fun e w' => e = .returned (.bool (p i)) ∧ ∃ m', w' = w.drewN m') :
    Calls Try.prog 19 #[.int .i64 n, .func (.func 23) #[] #[.pointer (some a)]] w fun e w' =>
      ∃ r : Nat, (r ≤ n ∧ (∀ i, i < r → p i = false) ∧ (∀ i, r ≤ i → i < n → p i = true)) ∧ e = .returned (.int .i64 r) ∧ ∃ m, w' = w.drewN m := by
  go_enter Try.func19, Try.ntmps19
  go_wp2
  go_loopw [0, 5] (fun h l wr => ∃ lo hi m : Nat, lo ≤ hi ∧ hi ≤ n ∧ h = .int .i64 hi ∧ l = .int .i64 lo ∧ (∀ i, i < lo → p i = false) ∧ (∀ i, hi ≤ i → i < n → p i = true) ∧ wr = w.drewN m) (fun h l _ => (intOf h).toNat - (intOf l).toNat)
  case atStart => exact ⟨0, n, 0, by omega, by omega, rfl, rfl, fun i h => by omega, fun i h1 h2 => by omega, rfl⟩
  case round =>
    obtain ⟨lo, hi, m, h1, h2, rfl, rfl, hlo, hhi, rfl⟩ := hrel
    have Hlo := Lib.hid hlo
    have Hhi := Lib.hid hhi
    have Hp := Lib.hid hp
    clear hlo hhi hp
    by_cases hlt : lo < hi
    · have hc := ha ((lo + hi) / 2) m (by omega)
      have e1 : ((((lo + hi) / 2 : Nat) : Int)) = ((lo : Int) + hi) / 2 := by omega
      rw [e1] at hc
      have Ha := Lib.hid ha
      clear ha
      have e2 : p ((lo + hi) / 2) = true ∨ p ((lo + hi) / 2) = false := by cases p ((lo + hi) / 2) <;> simp
      rcases e2 with e2 | e2
      · rw [e2] at hc
        have E2 := Lib.hid e2
        clear e2 e1
        go_wp2_with (go_at_call 23; refine hc.mono ?_; rintro e w' ⟨rfl, m', rfl⟩)
        go_roundw
        case rel => exact ⟨lo, (lo + hi) / 2, m', by omega, by omega, by go_num, rfl, Hlo.out, fun i g1 g2 => Hp.out _ _ g1 E2.out, rfl⟩
        case measure => simp [intOf]; omega
      · rw [e2] at hc
        have E2 := Lib.hid e2
        clear e2 e1
        go_wp2_with (go_at_call 23; refine hc.mono ?_; rintro e w' ⟨rfl, m', rfl⟩)
        go_roundw
        case rel => exact ⟨(lo + hi) / 2 + 1, hi, m', by omega, by omega, rfl, by go_num, (fun i g1 => by
            cases hpi : p i with
            | false => rfl
            | true => exact absurd (Hp.out i ((lo + hi) / 2) (by omega) hpi) (by rw [E2.out]; decide)), Hhi.out, rfl⟩
        case measure => simp [intOf]; omega
    · have hh : lo = hi := by omega
      subst hh
      clear hlt
      go_wp2
      go_ret
      exact ⟨lo, ⟨h2, Hlo.out, Hhi.out⟩, rfl, _, rfl⟩

end Go.Proofs.Ytfjkmjpbppomkaa.S
