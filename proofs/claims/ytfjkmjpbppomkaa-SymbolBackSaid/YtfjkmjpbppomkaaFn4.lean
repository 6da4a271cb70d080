/- What symbols tell, and the reference's answers. -/
import Derived.Test.YtfjkmjpbppomkaaFn3
namespace Go.Proofs.Ytfjkmjpbppomkaa.S
open Go.ChangeShapes Go.WideShapes Go.ChangeAt Go.RowKit
set_option linter.unusedVariables false
set_option linter.unusedSimpArgs false

/-- is a number of bits besides one that a symbol has -/
def lofOk (s x : Int) : Bool := lbOk s && decide (x < 2 ^ (lb s).toNat) && !(decide (s = 284) && decide (x = 31))
def lof (s x : Int) : Int := if lofOk s x then ls s + x else 0
def dofOk (s x : Int) : Bool := dbOk s && decide (x < 2 ^ (db s).toNat)
def dof (s x : Int) : Int := if dofOk s x then ds s + x else 0

theorem lb_cases (s : Int) : lb s = 0 ∨ lb s = 1 ∨ lb s = 2 ∨ lb s = 3 ∨ lb s = 4 ∨ lb s = 5 := by unfold lb; split <;> (try split) <;> omega


theorem pow_lb (s : Int) (k : Nat) (h : lb s = k) : (2 : Int) ^ (lb s).toNat = 2 ^ k := by rw [h]; rfl

theorem full (s x : Int) (h0 : 257 ≤ s) (h1 : s ≤ 285) (hx : 0 ≤ x) (hx' : x < 2 ^ (lb s).toNat) : (ls s + x = 258 ∧ s ≠ 285) ↔ (s = 284 ∧ x = 31) := by
  rcases cases_len s h0 h1 with rfl | rfl | rfl | rfl | rfl | rfl | rfl | rfl | rfl | rfl | rfl | rfl | rfl | rfl | rfl | rfl | rfl | rfl | rfl | rfl | rfl | rfl | rfl | rfl | rfl | rfl | rfl | rfl | rfl
  all_goals
    simp [ls, lens, lb] at *
    try omega

theorem lengthOf (s x : Int) (hx : 0 ≤ x) (hx' : x < 4294967296) (w : World) :
    Calls Try.prog 14 #[.int .i64 s, .int .u32 x] w fun e w' => e = .returned (.tuple #[.int .i64 (lof s x), .bool (lofOk s x)]) ∧ w = w' := by
  by_cases hs : 257 ≤ s ∧ s ≤ 285
  · obtain ⟨h0, h1⟩ := hs
    have hL := lengthBits s
    have hok : lbOk s = true := decide_eq_true ⟨h0, h1⟩
    obtain ⟨g0, g1⟩ := ls_bd s h0 h1
    rw [hok] at hL
    have Hf := Lib.hid (full s x h0 h1 hx)
    have key : ∀ k : Nat, lb s = k → lof s x = (if x < 2 ^ k ∧ ¬ (s = 284 ∧ x = 31) then ls s + x else 0) ∧ lofOk s x = decide (x < 2 ^ k ∧ ¬ (s = 284 ∧ x = 31)) := by
      intro k hk
      have e : lofOk s x = decide (x < 2 ^ k ∧ ¬ (s = 284 ∧ x = 31)) := by
        unfold lofOk
        rw [hok, pow_lb s k hk, Bool.eq_iff_iff]
        simp
      refine ⟨?_, e⟩
      unfold lof
      rw [e]
      simp only [decide_eq_true_eq]
    rcases lb_cases s with hb | hb | hb | hb | hb | hb
    all_goals
      have K := key _ hb
      have F := Hf.out
      rw [hb] at hL F
      have HK := Lib.hid K
      clear hb K key Hf hok
      simp at F
      have HF := Lib.hid F
      clear F
      go_enter Try.func14, Try.ntmps14
      go_wp2_with (first | (go_at_call 12; refine (hL _).mono ?_; rintro e w' ⟨rfl, rfl⟩) | (go_at_call 21; refine (least _ _ (by omega) (by omega)).mono ?_; rintro e w' ⟨rfl, rfl⟩))
      all_goals
        go_ret2
        have F := HF.out
        simp only [bne_iff_ne, bne_eq_false_iff_eq, ne_eq] at *
        refine ⟨ret2 ?_ ?_, ?_⟩
        · rw [HK.out.1]
          symm
          first | exact (if_pos (by omega)).trans (by omega) | exact if_neg (by omega)
        · rw [HK.out.2]
          symm
          first | exact decide_eq_true (by omega) | exact decide_eq_false (by omega)
        · first | trivial | rfl
  · have hL := lengthBits s
    have hok : lbOk s = false := decide_eq_false hs
    rw [hok] at hL
    have e : lofOk s x = false := by unfold lofOk; rw [hok]; rfl
    have e2 : lof s x = 0 := by unfold lof; rw [e]; rfl
    rw [e, e2]
    clear e e2 hok
    go_enter Try.func14, Try.ntmps14
    go_wp2_with (first | (go_at_call 12; refine (hL _).mono ?_; rintro e w' ⟨rfl, rfl⟩))
    go_ret2
    exact ⟨rfl, rfl⟩


theorem db_cases (s : Int) : db s = 0 ∨ db s = 1 ∨ db s = 2 ∨ db s = 3 ∨ db s = 4 ∨ db s = 5 ∨ db s = 6 ∨ db s = 7 ∨ db s = 8 ∨ db s = 9 ∨ db s = 10 ∨ db s = 11 ∨ db s = 12 ∨ db s = 13 := by unfold db; split <;> (try split) <;> omega
theorem pow_db (s : Int) (k : Nat) (h : db s = k) : (2 : Int) ^ (db s).toNat = 2 ^ k := by rw [h]; rfl

theorem distOf (s x : Int) (hx : 0 ≤ x) (hx' : x < 4294967296) (w : World) :
    Calls Try.prog 15 #[.int .i64 s, .int .u32 x] w fun e w' => e = .returned (.tuple #[.int .i64 (dof s x), .bool (dofOk s x)]) ∧ w = w' := by
  by_cases hs : 0 ≤ s ∧ s ≤ 29
  · obtain ⟨h0, h1⟩ := hs
    have hL := distBits s
    have hok : dbOk s = true := decide_eq_true ⟨h0, h1⟩
    obtain ⟨g0, g1⟩ := ds_bd s h0 h1
    rw [hok] at hL
    have key : ∀ k : Nat, db s = k → dof s x = (if x < 2 ^ k then ds s + x else 0) ∧ dofOk s x = decide (x < 2 ^ k) := by
      intro k hk
      have e : dofOk s x = decide (x < 2 ^ k) := by
        unfold dofOk
        rw [hok, pow_db s k hk, Bool.true_and]
      refine ⟨?_, e⟩
      unfold dof
      rw [e]
      simp only [decide_eq_true_eq]
    rcases db_cases s with hb | hb | hb | hb | hb | hb | hb | hb | hb | hb | hb | hb | hb | hb
    all_goals
      have K := key _ hb
      rw [hb] at hL
      have HK := Lib.hid K
      clear hb K key hok
      go_enter Try.func15, Try.ntmps15
      go_wp2_with (first | (go_at_call 13; refine (hL _).mono ?_; rintro e w' ⟨rfl, rfl⟩) | (go_at_call 24; refine (near _ _ (by omega) (by omega)).mono ?_; rintro e w' ⟨rfl, rfl⟩))
      all_goals
        go_ret2
        refine ⟨ret2 ?_ ?_, ?_⟩
        · rw [HK.out.1]
          symm
          first | exact (if_pos (by omega)).trans (by omega) | exact if_neg (by omega)
        · rw [HK.out.2]
          symm
          first | exact decide_eq_true (by omega) | exact decide_eq_false (by omega)
        · first | trivial | rfl
  · have hL := distBits s
    have hok : dbOk s = false := decide_eq_false hs
    rw [hok] at hL
    have e : dofOk s x = false := by unfold dofOk; rw [hok]; rfl
    have e2 : dof s x = 0 := by unfold dof; rw [e]; rfl
    rw [e, e2]
    clear e e2 hok
    go_enter Try.func15, Try.ntmps15
    go_wp2_with (first | (go_at_call 13; refine (hL _).mono ?_; rintro e w' ⟨rfl, rfl⟩))
    go_ret2
    exact ⟨rfl, rfl⟩

end Go.Proofs.Ytfjkmjpbppomkaa.S
