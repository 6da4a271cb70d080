/- What the reference says that symbols tell; the document's examples. -/
import Derived.Test.YtfjkmjpbppomkaaFn5
namespace Go.Proofs.Ytfjkmjpbppomkaa.S
open Go.ChangeShapes Go.WideShapes Go.ChangeAt Go.RowKit
set_option linter.unusedVariables false
set_option linter.unusedSimpArgs false


theorem tab_len (w1 : World) (b : Nat) (s : Int) (j : Nat) (hs : s = 257 + (j : Int)) (hj : j < 29) (HT : TabAt w1 b lens) : w1.cell? ⟨b, j, none⟩ = some (.int .i64 (ls s)) := by
  rw [HT j (by simp [lens]; omega)]
  unfold ls
  rw [show (s - 257).toNat = j by omega]
theorem tab_dst (w1 : World) (b : Nat) (j : Nat) (hj : j < 30) (HT : TabAt w1 b dsts) : w1.cell? ⟨b, j, none⟩ = some (.int .i64 (ds j)) := by
  rw [HT j (by simp [dsts]; omega)]
  rfl

theorem lof_key (s x : Int) (hok : lbOk s = true) (k : Nat) (hk : lb s = k) : lof s x = (if x < 2 ^ k ∧ ¬ (s = 284 ∧ x = 31) then ls s + x else 0) := by
  have e : lofOk s x = decide (x < 2 ^ k ∧ ¬ (s = 284 ∧ x = 31)) := by
    unfold lofOk
    rw [hok, pow_lb s k hk, Bool.eq_iff_iff]
    simp
  unfold lof
  rw [e]
  simp only [decide_eq_true_eq]
theorem dof_key (s x : Int) (hok : dbOk s = true) (k : Nat) (hk : db s = k) : dof s x = (if x < 2 ^ k then ds s + x else 0) := by
  have e : dofOk s x = decide (x < 2 ^ k) := by
    unfold dofOk
    rw [hok, pow_db s k hk, Bool.true_and]
  unfold dof
  rw [e]
  simp only [decide_eq_true_eq]

theorem refLengthOf (s x : Int) (hx : 0 ≤ x) (hx' : x < 4294967296) (w : World) :
    Calls Try.prog 16 #[.int .i64 s, .int .u32 x] w fun e w' => e = .returned (.int .i64 (lof s x)) ∧ Below w.heap.size w w' := by
  by_cases hs : 257 ≤ s ∧ s ≤ 285
  · by_cases h4 : s = 284
    · subst h4
      have hL := refLB 284
      have HK := Lib.hid (show lof 284 x = if x < 32 ∧ x ≠ 31 then 227 + x else 0 by rw [lof_key 284 x (by decide) 5 (by decide), show ls 284 = 227 by decide]; simp)
      go_enter Try.func16, Try.ntmps16
      go_wp2_with (first | (go_at_call 10; refine (hL _).mono ?_; rintro e w' ⟨rfl, rfl⟩; simp only [show rlb 284 = 5 by decide]) | (go_at_call 22; refine (refLens' _).mono ?_; rintro e w1 ⟨rfl, htab, hbel⟩; have hc := tab_len _ _ 284 27 (by decide) (by decide) htab; rw [show ls 284 = 227 by decide] at hc; have HBel := Lib.hid hbel; clear htab hbel))
      all_goals
        go_ret
        refine ⟨ret1 ?_, ?_⟩
        · rw [HK.out]
          symm
          try simp only [beq_iff_eq, beq_eq_false_iff_ne, bne_iff_ne, bne_eq_false_iff_eq, ne_eq] at *
          first | exact (if_neg (by omega)).trans (by omega) | exact (if_pos (by omega)).trans (by omega)
        · first | exact HBel.out | exact Below.refl _ _
    · obtain ⟨h0, h1⟩ := hs
      have hL := refLB s
      have hok : lbOk s = true := decide_eq_true ⟨h0, h1⟩
      obtain ⟨g0, g1⟩ := ls_bd s h0 h1
      have er : rlb s = lb s := if_neg (by omega)
      rw [er] at hL
      obtain ⟨j, hj⟩ : ∃ j : Nat, s - 257 = (j : Int) := ⟨(s - 257).toNat, by omega⟩
      have Hc : Hid (∀ w1 b, TabAt w1 b lens → w1.cell? ⟨b, j, none⟩ = some (.int .i64 (ls s))) := Lib.hid fun w1 b HT => tab_len w1 b s j (by omega) (by omega) HT
      have hj29 : j < 29 := by omega
      have Hj := Lib.hid hj
      clear hj
      rcases lb_cases s with hb | hb | hb | hb | hb | hb
      all_goals
        have HK := Lib.hid (lof_key s x hok _ hb)
        rw [hb] at hL
        clear hb hok er
        go_enter Try.func16, Try.ntmps16
        go_wp2_with (first | (go_at_call 10; refine (hL _).mono ?_; rintro e w' ⟨rfl, rfl⟩) | (go_at_call 22; refine (refLens' _).mono ?_; rintro e w1 ⟨rfl, htab, hbel⟩; have hc := Hc.out _ _ htab; have HBel := Lib.hid hbel; clear htab hbel; have hj := Hj.out))
        all_goals
          go_ret
          refine ⟨ret1 ?_, ?_⟩
          · rw [HK.out]
            symm
            try simp only [beq_iff_eq, beq_eq_false_iff_ne, bne_iff_ne, bne_eq_false_iff_eq, ne_eq] at *
            first | exact (if_neg (by omega)).trans (by omega) | exact (if_pos (by omega)).trans (by omega)
          · first | exact HBel.out | exact Below.refl _ _
  · have hL := refLB s
    have er : rlb s = -1 := if_pos (by omega)
    rw [er] at hL
    have hok : lbOk s = false := decide_eq_false hs
    have e : lofOk s x = false := by unfold lofOk; rw [hok]; rfl
    have e2 : lof s x = 0 := by unfold lof; rw [e]; rfl
    rw [e2]
    clear e e2 hok er
    go_enter Try.func16, Try.ntmps16
    go_wp2_with (first | (go_at_call 10; refine (hL _).mono ?_; rintro e w' ⟨rfl, rfl⟩))
    go_ret
    exact ⟨rfl, Below.refl _ _⟩

theorem refDistOf (s x : Int) (hx : 0 ≤ x) (hx' : x < 4294967296) (w : World) :
    Calls Try.prog 17 #[.int .i64 s, .int .u32 x] w fun e w' => e = .returned (.int .i64 (dof s x)) ∧ Below w.heap.size w w' := by
  by_cases hs : 0 ≤ s ∧ s ≤ 29
  · obtain ⟨h0, h1⟩ := hs
    have hL := refDB s
    have hok : dbOk s = true := decide_eq_true ⟨h0, h1⟩
    obtain ⟨g0, g1⟩ := ds_bd s h0 h1
    have er : rdb s = db s := if_neg (by omega)
    rw [er] at hL
    obtain ⟨j, rfl⟩ : ∃ j : Nat, s = (j : Int) := ⟨s.toNat, by omega⟩
    have hj30 : j < 30 := by omega
    have Hc : Hid (∀ w1 b, TabAt w1 b dsts → w1.cell? ⟨b, j, none⟩ = some (.int .i64 (ds j))) := Lib.hid fun w1 b HT => tab_dst w1 b j (by omega) HT
    rcases db_cases (j : Int) with hb | hb | hb | hb | hb | hb | hb | hb | hb | hb | hb | hb | hb | hb
    all_goals
      have HK := Lib.hid (dof_key _ x hok _ hb)
      rw [hb] at hL
      clear hb hok er
      go_enter Try.func17, Try.ntmps17
      go_wp2_with (first | (go_at_call 11; refine (hL _).mono ?_; rintro e w' ⟨rfl, rfl⟩) | (go_at_call 25; refine (refDsts' _).mono ?_; rintro e w1 ⟨rfl, htab, hbel⟩; have hc := Hc.out _ _ htab; have HBel := Lib.hid hbel; clear htab hbel))
      all_goals
        go_ret
        refine ⟨ret1 ?_, ?_⟩
        · rw [HK.out]
          symm
          try simp only [beq_iff_eq, beq_eq_false_iff_ne, bne_iff_ne, bne_eq_false_iff_eq, ne_eq] at *
          first | exact (if_neg (by omega)).trans (by omega) | exact (if_pos (by omega)).trans (by omega)
        · first | exact HBel.out | exact Below.refl _ _
  · have hL := refDB s
    have er : rdb s = -1 := if_pos (by omega)
    rw [er] at hL
    have hok : dbOk s = false := decide_eq_false hs
    have e : dofOk s x = false := by unfold dofOk; rw [hok]; rfl
    have e2 : dof s x = 0 := by unfold dof; rw [e]; rfl
    rw [e2]
    clear e e2 hok er
    go_enter Try.func17, Try.ntmps17
    go_wp2_with (first | (go_at_call 11; refine (hL _).mono ?_; rintro e w' ⟨rfl, rfl⟩))
    go_ret
    exact ⟨rfl, Below.refl _ _⟩

end Go.Proofs.Ytfjkmjpbppomkaa.S
