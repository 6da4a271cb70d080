/- Each length and each distance is just one symbol and number besides: the law's walk. -/
import Derived.Test.YtfjkmjpbppomkaaFn7
import Derived.Deep.DeepCutAuto
import Derived.Deep.CutBlock
namespace Go.Proofs.Ytfjkmjpbppomkaa.S
open Go.ChangeShapes Go.WideShapes Go.ChangeAt Go.RowKit
set_option linter.unusedVariables false
set_option linter.unusedSimpArgs false

/-- what a length's symbol says of it -/
theorem ls_step : ∀ s : Int, 257 ≤ s → s < 285 → (s < 284 → ls (s + 1) = ls s + 2 ^ (lb s).toNat) ∧ (s = 284 → ls (s + 1) = ls s + 31) ∧ 0 ≤ lb s ∧ lb s ≤ 5 := by
  have h : ∀ i : Fin 28, ((257 + (i.val : Int)) < 284 → ls (257 + (i.val : Int) + 1) = ls (257 + (i.val : Int)) + 2 ^ (lb (257 + (i.val : Int))).toNat) ∧ (257 + (i.val : Int) = 284 → ls (257 + (i.val : Int) + 1) = ls (257 + (i.val : Int)) + 31) ∧ 0 ≤ lb (257 + (i.val : Int)) ∧ lb (257 + (i.val : Int)) ≤ 5 := by decide
  intro s h0 h1
  have := h ⟨(s - 257).toNat, by omega⟩
  rw [show s = 257 + (((s - 257).toNat : Nat) : Int) by omega]
  exact this
theorem ds_step : ∀ s : Int, 0 ≤ s → s < 29 → ds (s + 1) = ds s + 2 ^ (db s).toNat ∧ 0 ≤ db s ∧ db s ≤ 13 := by
  have h : ∀ i : Fin 29, ds ((i.val : Int) + 1) = ds (i.val : Int) + 2 ^ (db (i.val : Int)).toNat ∧ 0 ≤ db (i.val : Int) ∧ db (i.val : Int) ≤ 13 := by decide
  intro s h0 h1
  have := h ⟨s.toNat, by omega⟩
  rw [show s = ((s.toNat : Nat) : Int) by omega]
  exact this

/-- what a symbol and its number besides tell is the length whose symbol it is -/
theorem len_back (k : Int) (h0 : 3 ≤ k) (h1 : k ≤ 258) : 0 ≤ lb (lsym k) ∧ lb (lsym k) ≤ 5 ∧ 0 ≤ k - ls (lsym k) ∧ k - ls (lsym k) < 2 ^ (lb (lsym k)).toNat ∧ lof (lsym k) (k - ls (lsym k)) = k ∧ lofOk (lsym k) (k - ls (lsym k)) = true := by
  obtain ⟨a, b, c, d⟩ := lsym_at k h0
  generalize lsym k = s at *
  have key : 0 ≤ lb s ∧ lb s ≤ 5 ∧ k - ls s < 2 ^ (lb s).toNat ∧ ¬ (s = 284 ∧ k - ls s = 31) := by
    by_cases hs : s < 285
    · obtain ⟨e1, e2, e3, e4⟩ := ls_step s a hs
      have := d (s + 1) (by omega) (by omega)
      refine ⟨e3, e4, ?_, ?_⟩
      · by_cases h : s < 284
        · rw [e1 h] at this; omega
        · have h' : s = 284 := by omega
          rw [e2 h'] at this
          rw [show (2 : Int) ^ (lb s).toNat = 32 by rw [h']; decide]
          omega
      · rintro ⟨h', h2⟩
        rw [e2 h'] at this; omega
    · obtain rfl : s = 285 := by omega
      rw [show ls 285 = 258 by decide] at *
      exact ⟨by decide, by decide, by rw [show (2 : Int) ^ (lb 285).toNat = 1 by decide]; omega, by omega⟩
  have ok : lofOk s (k - ls s) = true := by
    unfold lofOk
    rw [show lbOk s = true from decide_eq_true ⟨a, b⟩, decide_eq_true key.2.2.1]
    have := key.2.2.2
    simp only [Bool.true_and, Bool.not_eq_true', Bool.and_eq_false_iff, decide_eq_false_iff_not]
    omega
  exact ⟨key.1, key.2.1, by omega, key.2.2.1, by unfold lof; rw [ok, if_pos rfl]; omega, ok⟩
theorem dist_back (k : Int) (h0 : 1 ≤ k) (h1 : k ≤ 32768) : 0 ≤ db (dsym k) ∧ db (dsym k) ≤ 13 ∧ 0 ≤ k - ds (dsym k) ∧ k - ds (dsym k) < 2 ^ (db (dsym k)).toNat ∧ dof (dsym k) (k - ds (dsym k)) = k ∧ dofOk (dsym k) (k - ds (dsym k)) = true := by
  obtain ⟨a, b, c, d⟩ := dsym_at k h0
  generalize dsym k = s at *
  have key : 0 ≤ db s ∧ db s ≤ 13 ∧ k - ds s < 2 ^ (db s).toNat := by
    by_cases hs : s < 29
    · obtain ⟨e1, e3, e4⟩ := ds_step s a hs
      have := d (s + 1) (by omega) (by omega)
      exact ⟨e3, e4, by rw [e1] at this; omega⟩
    · obtain rfl : s = 29 := by omega
      rw [show ds 29 = 24577 by decide] at *
      exact ⟨by decide, by decide, by rw [show (2 : Int) ^ (db 29).toNat = 8192 by decide]; omega⟩
  have ok : dofOk s (k - ds s) = true := by
    unfold dofOk
    rw [show dbOk s = true from decide_eq_true ⟨a, b⟩, decide_eq_true key.2.2]
    rfl
  exact ⟨key.1, key.2.1, by omega, key.2.2, by unfold dof; rw [ok, if_pos rfl]; omega, ok⟩

/-- the next one -/
theorem len_next (k : Int) (h0 : 3 ≤ k) (h1 : k < 258) : (lsym (k + 1) = lsym k ∧ k + 1 - ls (lsym (k + 1)) = k - ls (lsym k) + 1) ∨ (lsym (k + 1) = lsym k + 1 ∧ k + 1 - ls (lsym (k + 1)) = 0) := by
  obtain ⟨a, b, c, d⟩ := lsym_at k h0
  by_cases h : lsym k < 285 ∧ ls (lsym k + 1) ≤ k + 1
  · have := d (lsym k + 1) (by omega) (by omega)
    have e : lsym (k + 1) = lsym k + 1 := lsym_is (k + 1) _ (by omega) (by omega) (by omega) h.2 (fun t t1 t2 => by
      have m1 := ls_mono (lsym k + 2 - 257).toNat (t - 257).toNat (by omega) (by omega)
      have m2 := ls_step (lsym k + 1) (by omega) (by omega)
      rw [show (257 : Int) + ((lsym k + 2 - 257).toNat : Nat) = lsym k + 1 + 1 by omega, show (257 : Int) + ((t - 257).toNat : Nat) = t by omega] at m1
      have p : 0 < (2 : Int) ^ (lb (lsym k + 1)).toNat := Int.pow_pos (by decide)
      by_cases q : lsym k + 1 < 284
      · rw [m2.1 q] at m1; omega
      · rw [m2.2.1 (by omega)] at m1; omega)
    exact Or.inr ⟨e, by rw [e]; omega⟩
  · have e : lsym (k + 1) = lsym k := lsym_is (k + 1) _ (by omega) (by omega) (by omega) (by omega) (fun t t1 t2 => by
      have m1 := ls_mono (lsym k + 1 - 257).toNat (t - 257).toNat (by omega) (by omega)
      rw [show (257 : Int) + ((lsym k + 1 - 257).toNat : Nat) = lsym k + 1 by omega, show (257 : Int) + ((t - 257).toNat : Nat) = t by omega] at m1
      omega)
    exact Or.inl ⟨e, by rw [e]; omega⟩
theorem dist_next (k : Int) (h0 : 1 ≤ k) : (dsym (k + 1) = dsym k ∧ k + 1 - ds (dsym (k + 1)) = k - ds (dsym k) + 1) ∨ (dsym (k + 1) = dsym k + 1 ∧ k + 1 - ds (dsym (k + 1)) = 0) := by
  obtain ⟨a, b, c, d⟩ := dsym_at k h0
  by_cases h : dsym k < 29 ∧ ds (dsym k + 1) ≤ k + 1
  · have := d (dsym k + 1) (by omega) (by omega)
    have e : dsym (k + 1) = dsym k + 1 := dsym_is (k + 1) _ (by omega) (by omega) (by omega) h.2 (fun t t1 t2 => by
      have m1 := ds_mono (dsym k + 2).toNat t.toNat (by omega) (by omega)
      have m2 := ds_step (dsym k + 1) (by omega) (by omega)
      rw [show (((dsym k + 2).toNat : Nat) : Int) = dsym k + 1 + 1 by omega, show ((t.toNat : Nat) : Int) = t by omega] at m1
      have p : 0 < (2 : Int) ^ (db (dsym k + 1)).toNat := Int.pow_pos (by decide)
      rw [m2.1] at m1; omega)
    exact Or.inr ⟨e, by rw [e]; omega⟩
  · have e : dsym (k + 1) = dsym k := dsym_is (k + 1) _ (by omega) (by omega) (by omega) (by omega) (fun t t1 t2 => by
      have m1 := ds_mono (dsym k + 1).toNat t.toNat (by omega) (by omega)
      rw [show (((dsym k + 1).toNat : Nat) : Int) = dsym k + 1 by omega, show ((t.toNat : Nat) : Int) = t by omega] at m1
      omega)
    exact Or.inl ⟨e, by rw [e]; omega⟩
/-- a symbol that tells a length is that length's -/
theorem sym_len (s x : Int) (hx : 0 ≤ x) (h : lofOk s x = true) : lsym (ls s + x) = s ∧ 3 ≤ ls s + x ∧ ls s + x ≤ 258 ∧ ls s + x - ls (lsym (ls s + x)) = x := by
  unfold lofOk at h
  simp only [Bool.and_eq_true, decide_eq_true_eq, Bool.not_eq_true', Bool.and_eq_false_iff, decide_eq_false_iff_not] at h
  obtain ⟨⟨h1, h2⟩, h3⟩ := h
  unfold lbOk at h1
  simp only [decide_eq_true_eq] at h1
  have hb := ls_bd s h1.1 h1.2
  have top : ls s + x ≤ 258 ∧ ∀ t, s < t → t ≤ 285 → ls s + x < ls t := by
    by_cases hs : s < 285
    · obtain ⟨e1, e2, e3, e4⟩ := ls_step s h1.1 hs
      have hn : ls s + x < ls (s + 1) := by
        by_cases q : s < 284
        · rw [e1 q]; omega
        · have q' : s = 284 := by omega
          rw [e2 q']
          rw [show (2 : Int) ^ (lb s).toNat = 32 by rw [q']; decide] at h2
          omega
      have hb' := ls_bd (s + 1) (by omega) (by omega)
      refine ⟨by omega, fun t t1 t2 => ?_⟩
      have m1 := ls_mono (s + 1 - 257).toNat (t - 257).toNat (by omega) (by omega)
      rw [show (257 : Int) + ((s + 1 - 257).toNat : Nat) = s + 1 by omega, show (257 : Int) + ((t - 257).toNat : Nat) = t by omega] at m1
      omega
    · obtain rfl : s = 285 := by omega
      rw [show (2 : Int) ^ (lb 285).toNat = 1 by decide] at h2
      rw [show ls 285 = 258 by decide]
      exact ⟨by omega, fun t t1 t2 => by omega⟩
  have e := lsym_is (ls s + x) s (by omega) h1.1 h1.2 (by omega) top.2
  exact ⟨e, by omega, top.1, by rw [e]; omega⟩
theorem sym_dist (s x : Int) (hx : 0 ≤ x) (h : dofOk s x = true) : dsym (ds s + x) = s ∧ 1 ≤ ds s + x ∧ ds s + x ≤ 32768 ∧ ds s + x - ds (dsym (ds s + x)) = x := by
  unfold dofOk at h
  simp only [Bool.and_eq_true, decide_eq_true_eq] at h
  obtain ⟨h1, h2⟩ := h
  unfold dbOk at h1
  simp only [decide_eq_true_eq] at h1
  have hb := ds_bd s h1.1 h1.2
  have top : ds s + x ≤ 32768 ∧ ∀ t, s < t → t ≤ 29 → ds s + x < ds t := by
    by_cases hs : s < 29
    · obtain ⟨e1, e3, e4⟩ := ds_step s h1.1 hs
      have hn : ds s + x < ds (s + 1) := by rw [e1]; omega
      have hb' := ds_bd (s + 1) (by omega) (by omega)
      refine ⟨by omega, fun t t1 t2 => ?_⟩
      have m1 := ds_mono (s + 1).toNat t.toNat (by omega) (by omega)
      rw [show (((s + 1).toNat : Nat) : Int) = s + 1 by omega, show ((t.toNat : Nat) : Int) = t by omega] at m1
      omega
    · obtain rfl : s = 29 := by omega
      rw [show (2 : Int) ^ (db 29).toNat = 8192 by decide] at h2
      rw [show ds 29 = 24577 by decide]
      exact ⟨by omega, fun t t1 t2 => by omega⟩
  have e := dsym_is (ds s + x) s (by omega) h1.1 h1.2 (by omega) top.2
  exact ⟨e, by omega, top.1, by rw [e]; omega⟩

end Go.Proofs.Ytfjkmjpbppomkaa.S
