/- The reference's answers. -/
import Derived.Test.YtfjkmjpbppomkaaFn4
namespace Go.Proofs.Ytfjkmjpbppomkaa.S
open Go.ChangeShapes Go.WideShapes Go.ChangeAt Go.RowKit
set_option linter.unusedVariables false
set_option linter.unusedSimpArgs false

def rlb (s : Int) : Int := if s < 257 ∨ 285 < s then -1 else lb s
def rdb (s : Int) : Int := if s < 0 ∨ 29 < s then -1 else db s

theorem refLB (s : Int) (w : World) : Calls Try.prog 10 #[.int .i64 s] w fun e w' => e = .returned (.int .i64 (rlb s)) ∧ w = w' := by
  by_cases h : s < 257 ∨ 285 < s
  · have e : rlb s = -1 := if_pos h
    rw [e]
    rcases h with h | h
    · go_enter Try.func10, Try.ntmps10
      go_wp2
      go_ret
      exact ⟨rfl, rfl⟩
    · have h' : ¬ s < 257 := by omega
      go_enter Try.func10, Try.ntmps10
      go_wp2
      go_ret
      exact ⟨rfl, rfl⟩
  · have HE := Lib.hid (show rlb s = if s < 265 ∨ s = 285 then 0 else (s - 265) / 4 + 1 by unfold rlb lb; rw [if_neg h, if_neg h])
    have h1 : ¬ s < 257 := by omega
    have h2 : ¬ 285 < s := by omega
    clear h
    go_enter Try.func10, Try.ntmps10
    go_wp2
    all_goals
      go_ret
      refine ⟨ret1 ?_, ?_⟩
      · rw [HE.out]
        try simp only [beq_iff_eq, beq_eq_false_iff_ne] at *
        symm
        first | exact if_pos (by omega) | exact (if_neg (by omega)).trans (by omega)
      · first | trivial | rfl

theorem refDB (s : Int) (w : World) : Calls Try.prog 11 #[.int .i64 s] w fun e w' => e = .returned (.int .i64 (rdb s)) ∧ w = w' := by
  by_cases h : s < 0 ∨ 29 < s
  · have e : rdb s = -1 := if_pos h
    rw [e]
    rcases h with h | h
    · go_enter Try.func11, Try.ntmps11
      go_wp2
      go_ret
      exact ⟨rfl, rfl⟩
    · have h' : ¬ s < 0 := by omega
      go_enter Try.func11, Try.ntmps11
      go_wp2
      go_ret
      exact ⟨rfl, rfl⟩
  · have HE := Lib.hid (show rdb s = if s < 4 then 0 else s / 2 - 1 by unfold rdb db; rw [if_neg h, if_neg h])
    have h1 : 0 ≤ s := by omega
    have h2 : ¬ 29 < s := by omega
    clear h
    go_enter Try.func11, Try.ntmps11
    go_wp2
    all_goals
      go_ret
      refine ⟨ret1 ?_, ?_⟩
      · rw [HE.out]
        symm
        first | exact if_pos (by omega) | exact (if_neg (by omega)).trans (by omega)
      · first | trivial | rfl

theorem refLens (w : World) : Calls Try.prog 22 #[] w fun e w' => e = .returned (.slice (some ⟨w.heap.size, 0, none⟩) 29 29) ∧ w' = w.alloc (.cells ((lens.map (Value.int .i64)).toArray) 3) := by
  go_enter Try.func22, Try.ntmps22
  go_wp2
  go_ret
  exact ⟨rfl, rfl⟩

theorem refDsts (w : World) : Calls Try.prog 25 #[] w fun e w' => e = .returned (.slice (some ⟨w.heap.size, 0, none⟩) 30 30) ∧ w' = w.alloc (.cells ((dsts.map (Value.int .i64)).toArray) 3) := by
  go_enter Try.func25, Try.ntmps25
  go_wp2
  go_ret
  exact ⟨rfl, rfl⟩


/-- a table in memory -/
def TabAt (w : World) (b : Nat) (l : List Int) : Prop := ∀ i : Nat, i < l.length → w.cell? ⟨b, i, none⟩ = some (.int .i64 (l.getD i 0))
theorem tab_new (w : World) (l : List Int) : TabAt (w.alloc (.cells ((l.map (Value.int .i64)).toArray) 3)) w.heap.size l := by
  intro i hi
  have h := (MapKept.heap_alloc w (.cells ((l.map (Value.int .i64)).toArray) 3)).1
  unfold World.cell?
  dsimp only
  rw [h]
  simp [hi]

theorem refLens' (w : World) : Calls Try.prog 22 #[] w fun e w' => e = .returned (.slice (some ⟨w.heap.size, 0, none⟩) 29 29) ∧ TabAt w' w.heap.size lens ∧ Below w.heap.size w w' :=
  (refLens w).mono fun e w' ⟨h1, h2⟩ => ⟨h1, by rw [h2]; exact tab_new w lens, by rw [h2]; exact (Below.refl _ _).alloc (Nat.le_refl _) _⟩
theorem refDsts' (w : World) : Calls Try.prog 25 #[] w fun e w' => e = .returned (.slice (some ⟨w.heap.size, 0, none⟩) 30 30) ∧ TabAt w' w.heap.size dsts ∧ Below w.heap.size w w' :=
  (refDsts w).mono fun e w' ⟨h1, h2⟩ => ⟨h1, by rw [h2]; exact tab_new w dsts, by rw [h2]; exact (Below.refl _ _).alloc (Nat.le_refl _) _⟩

theorem lsym_is (n s : Int) (h0 : 3 ≤ n) (h1 : 257 ≤ s) (h2 : s ≤ 285) (h3 : ls s ≤ n) (h4 : ∀ t, s < t → t ≤ 285 → n < ls t) : lsym n = s := by
  obtain ⟨a, b, c, d⟩ := lsym_at n h0
  rcases Int.lt_trichotomy (lsym n) s with h | h | h
  · have := d s h h2; omega
  · exact h
  · have := h4 _ h b; omega
theorem dsym_is (n s : Int) (h0 : 1 ≤ n) (h1 : 0 ≤ s) (h2 : s ≤ 29) (h3 : ds s ≤ n) (h4 : ∀ t, s < t → t ≤ 29 → n < ds t) : dsym n = s := by
  obtain ⟨a, b, c, d⟩ := dsym_at n h0
  rcases Int.lt_trichotomy (dsym n) s with h | h | h
  · have := d s h h2; omega
  · exact h
  · have := h4 _ h b; omega

theorem ret11 {k : IntKind} {a b x y : Int} (h : a = b) (g : x = y) : Ending.returned (.tuple #[.int k a, .int k x]) = .returned (.tuple #[.int k b, .int k y]) := by rw [h, g]

theorem refLength_no (n : Int) (w : World) (h : n < 3 ∨ 258 < n) : Calls Try.prog 7 #[.int .i64 n] w fun e w' => e = .returned (.tuple #[.int .i64 (-1), .int .i64 0]) ∧ Below w.heap.size w w' := by
  rcases h with h | h
  · go_enter Try.func7, Try.ntmps7
    go_wp2
    go_ret2
    exact ⟨rfl, Below.refl _ _⟩
  · have h' : ¬ n < 3 := by omega
    go_enter Try.func7, Try.ntmps7
    go_wp2
    go_ret2
    exact ⟨rfl, Below.refl _ _⟩

theorem refLength_yes (n : Int) (w : World) (h0 : 3 ≤ n) (h1 : n ≤ 258) : Calls Try.prog 7 #[.int .i64 n] w fun e w' => e = .returned (.tuple #[.int .i64 (lsym n), .int .i64 (n - ls (lsym n))]) ∧ Below w.heap.size w w' := by
  have n0 : ¬ n < 3 := by omega
  have n1 : ¬ 258 < n := by omega
  go_enter Try.func7, Try.ntmps7
  go_wp2_with (go_at_call 22; refine (refLens' _).mono ?_; rintro e w1 ⟨rfl, htab, hb⟩)
  go_loop [5] (fun i => ∃ k : Nat, k ≤ 29 ∧ i = .int .i64 ((k : Int) - 1) ∧ ∀ t : Int, 257 + (k : Int) ≤ t → t ≤ 285 → n < ls t) (fun i => (intOf i + 1).toNat)
  case atStart => exact ⟨29, by omega, rfl, fun t a b => by omega⟩
  case round =>
    obtain ⟨k, hk, rfl, hrest⟩ := hrel
    have Hr := Lib.hid hrest
    have HT := Lib.hid htab
    clear hrest htab
    by_cases k0 : k = 0
    · exfalso
      subst k0
      have := Hr.out 257 (by omega) (by omega)
      simp [ls, lens] at this
      omega
    · obtain ⟨j, rfl⟩ : ∃ j, k = j + 1 := ⟨k - 1, by omega⟩
      have ej : ((j + 1 : Nat) : Int) - 1 = j := by omega
      rw [ej]
      have hc : w1.cell? ⟨w.heap.size, j, none⟩ = some (.int .i64 (ls (257 + (j : Int)))) := by
        rw [HT.out j (by simp [lens]; omega)]
        unfold ls
        rw [show ((257 : Int) + j - 257).toNat = j by omega]
      have HB := Lib.hid hb
      clear hb ej k0
      by_cases hlt : ls (257 + (j : Int)) ≤ n
      · have hj : lsym n = 257 + j := lsym_is n _ h0 (by omega) (by omega) hlt (fun t a b => Hr.out t (by omega) b)
        have HJ := Lib.hid hj
        clear hj
        have H0 : 0 ≤ n - ls (257 + (j : Int)) := by omega
        have HL := ls_bd (257 + (j : Int)) (by omega) (by omega)
        obtain ⟨L, hL⟩ : ∃ L, ls (257 + (j : Int)) = L := ⟨_, rfl⟩
        rw [hL] at hlt H0 HL hc
        have HE := Lib.hid hL
        clear hL
        go_wp2
        go_quiet (fail)
        go_wp2
        go_ret2
        exact ⟨ret11 (by rw [HJ.out]) (by rw [HJ.out, HE.out]), bdn HB.out _⟩
      · go_wp2
        go_round
        case rel => exact ⟨j, by omega, by go_num, fun t a b => by
            by_cases e : t = 257 + (j : Int)
            · subst e; omega
            · exact Hr.out t (by omega) b⟩
        case measure => simp [intOf]

theorem refDist_no (n : Int) (w : World) (h : n < 1 ∨ 32768 < n) : Calls Try.prog 9 #[.int .i64 n] w fun e w' => e = .returned (.tuple #[.int .i64 (-1), .int .i64 0]) ∧ Below w.heap.size w w' := by
  rcases h with h | h
  · go_enter Try.func9, Try.ntmps9
    go_wp2
    go_ret2
    exact ⟨rfl, Below.refl _ _⟩
  · have h' : ¬ n < 1 := by omega
    go_enter Try.func9, Try.ntmps9
    go_wp2
    go_ret2
    exact ⟨rfl, Below.refl _ _⟩

theorem refDist_yes (n : Int) (w : World) (h0 : 1 ≤ n) (h1 : n ≤ 32768) : Calls Try.prog 9 #[.int .i64 n] w fun e w' => e = .returned (.tuple #[.int .i64 (dsym n), .int .i64 (n - ds (dsym n))]) ∧ Below w.heap.size w w' := by
  have n0 : ¬ n < 1 := by omega
  have n1 : ¬ 32768 < n := by omega
  go_enter Try.func9, Try.ntmps9
  go_wp2_with (go_at_call 25; refine (refDsts' _).mono ?_; rintro e w1 ⟨rfl, htab, hb⟩)
  go_loop [5] (fun i => ∃ k : Nat, k ≤ 30 ∧ i = .int .i64 ((k : Int) - 1) ∧ ∀ t : Int, (k : Int) ≤ t → t ≤ 29 → n < ds t) (fun i => (intOf i + 1).toNat)
  case atStart => exact ⟨30, by omega, rfl, fun t a b => by omega⟩
  case round =>
    obtain ⟨k, hk, rfl, hrest⟩ := hrel
    have Hr := Lib.hid hrest
    have HT := Lib.hid htab
    clear hrest htab
    by_cases k0 : k = 0
    · exfalso
      subst k0
      have := Hr.out 0 (by omega) (by omega)
      simp [ds, dsts] at this
      omega
    · obtain ⟨j, rfl⟩ : ∃ j, k = j + 1 := ⟨k - 1, by omega⟩
      have ej : ((j + 1 : Nat) : Int) - 1 = j := by omega
      rw [ej]
      have hc : w1.cell? ⟨w.heap.size, j, none⟩ = some (.int .i64 (ds (j : Int))) := by
        rw [HT.out j (by simp [dsts]; omega)]
        unfold ds
        rw [show ((j : Int)).toNat = j by omega]
      have HB := Lib.hid hb
      clear hb ej k0
      by_cases hlt : ds (j : Int) ≤ n
      · have hj : dsym n = j := dsym_is n _ h0 (by omega) (by omega) hlt (fun t a b => Hr.out t (by omega) b)
        have HJ := Lib.hid hj
        clear hj
        have H0 : 0 ≤ n - ds (j : Int) := by omega
        have HL := ds_bd (j : Int) (by omega) (by omega)
        obtain ⟨L, hL⟩ : ∃ L, ds (j : Int) = L := ⟨_, rfl⟩
        rw [hL] at hlt H0 HL hc
        have HE := Lib.hid hL
        clear hL
        go_wp2
        go_quiet (fail)
        go_wp2
        go_ret2
        exact ⟨ret11 (by rw [HJ.out]) (by rw [HJ.out, HE.out]), bdn HB.out _⟩
      · go_wp2
        go_round
        case rel => exact ⟨j, by omega, by go_num, fun t a b => by
            by_cases e : t = (j : Int)
            · subst e; omega
            · exact Hr.out t (by omega) b⟩
        case measure => simp [intOf]

end Go.Proofs.Ytfjkmjpbppomkaa.S
