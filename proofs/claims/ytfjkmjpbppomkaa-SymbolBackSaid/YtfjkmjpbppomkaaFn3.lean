/- Which symbol a length, a distance, is. -/
import Derived.Test.YtfjkmjpbppomkaaFn2
import Derived.Below
namespace Go.Proofs.Ytfjkmjpbppomkaa.S
open Go.ChangeShapes Go.WideShapes Go.ChangeAt Go.RowKit
set_option linter.unusedVariables false
set_option linter.unusedSimpArgs false

/-- the symbol of a length, of a distance -/
def lsym (n : Int) : Int := 256 + (((List.range 29).filter fun i : Nat => decide (ls (257 + i) ≤ n)).length : Nat)
def dsym (n : Int) : Int := (((List.range 30).filter fun i : Nat => decide (ds i ≤ n)).length : Nat) - 1

theorem filter_upto (p : Nat → Bool) (n r : Nat) (hr : r ≤ n) (h1 : ∀ i, i < r → p i = false) (h2 : ∀ i, r ≤ i → i < n → p i = true) :
    ((List.range n).filter fun i => !p i).length = r := by
  induction n generalizing r with
  | zero => simp; omega
  | succ n ih =>
    rw [List.range_succ, List.filter_append, List.length_append]
    by_cases e : r = n + 1
    · subst e
      rw [ih n (by omega) (fun i hi => h1 i (by omega)) (fun i a b => by omega)]
      simp [h1 n (by omega)]
    · rw [ih r (by omega) h1 (fun i a b => h2 i a (by omega))]
      simp [h2 n (by omega) (by omega)]

theorem ls_mono : ∀ i j : Nat, i ≤ j → j < 29 → ls (257 + (i : Int)) ≤ ls (257 + (j : Int)) := by
  have h : ∀ j : Fin 29, ∀ i : Fin 29, i ≤ j → ls (257 + (i.val : Int)) ≤ ls (257 + (j.val : Int)) := by decide
  intro i j hij hj
  exact h ⟨j, hj⟩ ⟨i, by omega⟩ hij
theorem ds_mono : ∀ i j : Nat, i ≤ j → j < 30 → ds (i : Int) ≤ ds (j : Int) := by
  have h : ∀ j : Fin 30, ∀ i : Fin 30, i ≤ j → ds (i.val : Int) ≤ ds (j.val : Int) := by decide
  intro i j hij hj
  exact h ⟨j, hj⟩ ⟨i, by omega⟩ hij

theorem lsym_bd (n : Int) (h0 : 3 ≤ n) : 257 ≤ lsym n ∧ lsym n ≤ 285 := by
  unfold lsym
  have h1 := List.length_filter_le (fun i : Nat => decide (ls (257 + i) ≤ n)) (List.range 29)
  have h2 : 0 < ((List.range 29).filter fun i : Nat => decide (ls (257 + i) ≤ n)).length := by
    apply List.length_pos_of_mem (a := 0)
    rw [List.mem_filter]
    exact ⟨by simp, by simp [ls, lens]; omega⟩
  rw [List.length_range] at h1
  omega
theorem dsym_bd (n : Int) (h0 : 1 ≤ n) : 0 ≤ dsym n ∧ dsym n ≤ 29 := by
  unfold dsym
  have h1 := List.length_filter_le (fun i : Nat => decide (ds i ≤ n)) (List.range 30)
  have h2 : 0 < ((List.range 30).filter fun i : Nat => decide (ds i ≤ n)).length := by
    apply List.length_pos_of_mem (a := 0)
    rw [List.mem_filter]
    exact ⟨by simp, by simp [ds, dsts]; omega⟩
  rw [List.length_range] at h1
  omega


theorem lsym_of (n : Int) (r : Nat) (h : r ≤ 29) (h1 : ∀ i, i < r → decide (n < ls (257 + (i : Int))) = false) (h2 : ∀ i, r ≤ i → i < 29 → decide (n < ls (257 + (i : Int))) = true) : lsym n = 256 + r := by
  have := filter_upto (fun i => decide (n < ls (257 + (i : Int)))) 29 r h h1 h2
  unfold lsym
  rw [← this]
  congr 4
  funext i
  rw [Bool.eq_iff_iff]; simp
theorem dsym_of (n : Int) (r : Nat) (h : r ≤ 30) (h1 : ∀ i, i < r → decide (n < ds (i : Int)) = false) (h2 : ∀ i, r ≤ i → i < 30 → decide (n < ds (i : Int)) = true) : dsym n = r - 1 := by
  have := filter_upto (fun i => decide (n < ds (i : Int))) 30 r h h1 h2
  unfold dsym
  rw [← this]
  congr 4
  funext i
  rw [Bool.eq_iff_iff]; simp

/-- the search of a length's symbol -/
theorem search_len (n : Int) (h0 : 3 ≤ n) (h1 : n ≤ 258) (a : Addr) (w : World) (hc : w.cell? a = some (.int .i64 n)) :
    Calls Try.prog 19 #[.int .i64 29, .func (.func 20) #[] #[.pointer (some a)]] w fun e w' => e = .returned (.int .i64 (lsym n - 256)) ∧ ∃ m, w' = w.drewN m := by
  refine (search20 29 (by omega) a (fun i => decide (n < ls (257 + (i : Int))) || decide (29 ≤ i)) w ?_ ?_).mono ?_
  · intro i j hij h
    by_cases hj : 29 ≤ j
    · simp [hj]
    · have := ls_mono i j hij (by omega)
      simp at h ⊢
      omega
  · intro i m hi
    refine (len1 i n a (w.drewN m) (by simpa using hc) (by omega) (by omega)).mono ?_
    rintro e w' ⟨rfl, m', rfl⟩
    refine ⟨?_, m + m', by rw [World.drewN_drewN]⟩
    have : decide (29 ≤ i) = false := decide_eq_false (by omega)
    rw [this, Bool.or_false]
  · rintro e w' ⟨r, ⟨hr, g1, g2⟩, rfl, hm⟩
    refine ⟨?_, hm⟩
    rw [lsym_of n r hr (fun i hi => by have := g1 i hi; simp at this ⊢; omega) (fun i a b => by have := g2 i a b; simp at this ⊢; omega)]
    exact ret1 (by omega)

theorem search_dst (n : Int) (h0 : 1 ≤ n) (a : Addr) (w : World) (hc : w.cell? a = some (.int .i64 n)) :
    Calls Try.prog 19 #[.int .i64 30, .func (.func 23) #[] #[.pointer (some a)]] w fun e w' => e = .returned (.int .i64 (dsym n + 1)) ∧ ∃ m, w' = w.drewN m := by
  refine (search23 30 (by omega) a (fun i => decide (n < ds (i : Int)) || decide (30 ≤ i)) w ?_ ?_).mono ?_
  · intro i j hij h
    by_cases hj : 30 ≤ j
    · simp [hj]
    · have := ds_mono i j hij (by omega)
      simp at h ⊢
      omega
  · intro i m hi
    refine (dist1 i n a (w.drewN m) (by simpa using hc) (by omega) (by omega)).mono ?_
    rintro e w' ⟨rfl, m', rfl⟩
    refine ⟨?_, m + m', by rw [World.drewN_drewN]⟩
    have : decide (30 ≤ i) = false := decide_eq_false (by omega)
    rw [this, Bool.or_false]
  · rintro e w' ⟨r, ⟨hr, g1, g2⟩, rfl, hm⟩
    refine ⟨?_, hm⟩
    rw [dsym_of n r hr (fun i hi => by have := g1 i hi; simp at this ⊢; omega) (fun i a b => by have := g2 i a b; simp at this ⊢; omega)]
    exact ret1 (by omega)

theorem retL {a b c : Int} {x : Bool} {a' b' c' : Int} {x' : Bool} (h : a = a') (h1 : b = b') (h2 : c = c') (h3 : x = x') :
    Ending.returned (.tuple #[.int .i64 a, .int .u32 b, .int .i64 c, .bool x]) = .returned (.tuple #[.int .i64 a', .int .u32 b', .int .i64 c', .bool x']) := by rw [h, h1, h2, h3]

theorem bdn {B : Nat} {a w : World} (h : Below B a w) (m : Nat) : Below B a (w.drewN m) := ⟨h.os, h.tape, h.output, h.size, h.block⟩

theorem length_no (n : Int) (w : World) (h : n < 3 ∨ 258 < n) :
    Calls Try.prog 6 #[.int .i64 n] w fun e w' => e = .returned (.tuple #[.int .i64 0, .int .u32 0, .int .i64 0, .bool false]) ∧ Below w.heap.size w w' := by
  rcases h with h | h
  · go_enter Try.func6, Try.ntmps6
    go_wp2
    exact bodyPost_ret (v := .tuple #[.int .i64 0, .int .u32 0, .int .i64 0, .bool false]) (by simp [results, Try.results6, go_sem]) rfl ⟨rfl, (Below.refl _ _).alloc (Nat.le_refl _) _⟩
  · have h' : ¬ n < 3 := by omega
    go_enter Try.func6, Try.ntmps6
    go_wp2
    exact bodyPost_ret (v := .tuple #[.int .i64 0, .int .u32 0, .int .i64 0, .bool false]) (by simp [results, Try.results6, go_sem]) rfl ⟨rfl, (Below.refl _ _).alloc (Nat.le_refl _) _⟩


theorem split_at (p : Nat → Bool) (hp : ∀ i j, i ≤ j → p i = true → p j = true) (n : Nat) : ∃ r, r ≤ n ∧ (∀ i, i < r → p i = false) ∧ ∀ i, r ≤ i → i < n → p i = true := by
  induction n with
  | zero => exact ⟨0, by omega, fun i h => by omega, fun i a b => by omega⟩
  | succ n ih =>
    obtain ⟨r, h1, h2, h3⟩ := ih
    by_cases hn : p n = true
    · exact ⟨r, by omega, h2, fun i a b => by
        by_cases e : i = n
        · subst e; exact hn
        · exact h3 i a (by omega)⟩
    · have hn' : p n = false := by simpa using hn
      refine ⟨n + 1, by omega, fun i hi => ?_, fun i a b => by omega⟩
      cases hpi : p i with
      | false => rfl
      | true => have := hp i n (by omega) hpi; rw [hn'] at this; cases this

/-- where a length's symbol lies -/
theorem lsym_at (n : Int) (h0 : 3 ≤ n) : 257 ≤ lsym n ∧ lsym n ≤ 285 ∧ ls (lsym n) ≤ n ∧ ∀ s, lsym n < s → s ≤ 285 → n < ls s := by
  obtain ⟨b0, b1⟩ := lsym_bd n h0
  obtain ⟨r, hr, g1, g2⟩ := split_at (fun i => decide (n < ls (257 + (i : Int))) || decide (29 ≤ i)) (by
    intro i j hij h
    by_cases hj : 29 ≤ j
    · simp [hj]
    · have := ls_mono i j hij (by omega)
      simp at h ⊢
      omega) 29
  have e := lsym_of n r hr (fun i hi => by have := g1 i hi; simp at this ⊢; omega) (fun i a b => by have := g2 i a b; simp at this ⊢; omega)
  refine ⟨b0, b1, ?_, fun s h1 h2 => ?_⟩
  · have := g1 (r - 1) (by omega)
    simp at this
    rw [e, show (256 : Int) + r = 257 + ((r - 1 : Nat) : Int) by omega]
    exact this.1
  · have := g2 (s - 257).toNat (by omega) (by omega)
    rw [show s = 257 + (((s - 257).toNat : Nat) : Int) by omega]
    simp at this
    rcases this with h | h
    · simpa using h
    · omega
theorem dsym_at (n : Int) (h0 : 1 ≤ n) : 0 ≤ dsym n ∧ dsym n ≤ 29 ∧ ds (dsym n) ≤ n ∧ ∀ s, dsym n < s → s ≤ 29 → n < ds s := by
  obtain ⟨b0, b1⟩ := dsym_bd n h0
  obtain ⟨r, hr, g1, g2⟩ := split_at (fun i => decide (n < ds (i : Int)) || decide (30 ≤ i)) (by
    intro i j hij h
    by_cases hj : 30 ≤ j
    · simp [hj]
    · have := ds_mono i j hij (by omega)
      simp at h ⊢
      omega) 30
  have e := dsym_of n r hr (fun i hi => by have := g1 i hi; simp at this ⊢; omega) (fun i a b => by have := g2 i a b; simp at this ⊢; omega)
  refine ⟨b0, b1, ?_, fun s h1 h2 => ?_⟩
  · have := g1 (r - 1) (by omega)
    simp at this
    rw [e, show (r : Int) - 1 = ((r - 1 : Nat) : Int) by omega]
    exact this.1
  · have := g2 s.toNat (by omega) (by omega)
    rw [show s = ((s.toNat : Nat) : Int) by omega]
    simp at this
    rcases this with h | h
    · simpa using h
    · omega
theorem ls_bd (s : Int) (h0 : 257 ≤ s) (h1 : s ≤ 285) : 3 ≤ ls s ∧ ls s ≤ 258 := by
  have h : ∀ i : Fin 29, 3 ≤ ls (257 + (i.val : Int)) ∧ ls (257 + (i.val : Int)) ≤ 258 := by decide
  have := h ⟨(s - 257).toNat, by omega⟩
  rw [show s = 257 + (((s - 257).toNat : Nat) : Int) by omega]
  exact this
theorem ds_bd (s : Int) (h0 : 0 ≤ s) (h1 : s ≤ 29) : 1 ≤ ds s ∧ ds s ≤ 24577 := by
  have h : ∀ i : Fin 30, 1 ≤ ds (i.val : Int) ∧ ds (i.val : Int) ≤ 24577 := by decide
  have := h ⟨s.toNat, by omega⟩
  rw [show s = ((s.toNat : Nat) : Int) by omega]
  exact this

theorem length_yes (n : Int) (w : World) (h0 : 3 ≤ n) (h1 : n ≤ 258) :
    Calls Try.prog 6 #[.int .i64 n] w fun e w' => e = .returned (.tuple #[.int .i64 (lsym n), .int .u32 (n - ls (lsym n)), .int .i64 (lb (lsym n)), .bool true]) ∧ Below w.heap.size w w' := by
  obtain ⟨b0, b1, b2, b3⟩ := lsym_at n h0
  obtain ⟨b4, b5⟩ := ls_bd _ b0 b1
  have hs := search_len n h0 h1
  generalize lsym n = s at *
  obtain ⟨r, rfl⟩ : ∃ r, s = 256 + r := ⟨s - 256, by omega⟩
  rw [show 256 + r - 256 = r by omega] at hs
  have Hs := Lib.hid hs
  clear hs b3
  go_enter Try.func6, Try.ntmps6
  go_wp2_with (first | (go_at_call 19; refine (Hs.out _ _ (by simp)).mono ?_; rintro e w' ⟨rfl, m, rfl⟩) | (go_at_call 12; refine (lengthBits _ _).mono ?_; rintro e w' ⟨rfl, rfl⟩))
  go_quiet ((go_at_call 21; refine (least _ _ (by omega) (by omega)).mono fun e w' h => ⟨h.1, _, h.2.symm⟩))
  go_wp2
  exact bodyPost_ret (v := .tuple #[.int .i64 (256 + r), .int .u32 (n - ls (256 + r)), .int .i64 (lb (256 + r)), .bool true]) (by simp [results, Try.results6, go_sem]) rfl ⟨rfl, bdn (bdn ((Below.refl _ _).alloc (Nat.le_refl _) _) _) _⟩


theorem dist_no (n : Int) (w : World) (h : n < 1 ∨ 32768 < n) :
    Calls Try.prog 8 #[.int .i64 n] w fun e w' => e = .returned (.tuple #[.int .i64 0, .int .u32 0, .int .i64 0, .bool false]) ∧ Below w.heap.size w w' := by
  rcases h with h | h
  · go_enter Try.func8, Try.ntmps8
    go_wp2
    exact bodyPost_ret (v := .tuple #[.int .i64 0, .int .u32 0, .int .i64 0, .bool false]) (by simp [results, Try.results8, go_sem]) rfl ⟨rfl, (Below.refl _ _).alloc (Nat.le_refl _) _⟩
  · have h' : ¬ n < 1 := by omega
    go_enter Try.func8, Try.ntmps8
    go_wp2
    exact bodyPost_ret (v := .tuple #[.int .i64 0, .int .u32 0, .int .i64 0, .bool false]) (by simp [results, Try.results8, go_sem]) rfl ⟨rfl, (Below.refl _ _).alloc (Nat.le_refl _) _⟩

theorem dist_yes (n : Int) (w : World) (h0 : 1 ≤ n) (h1 : n ≤ 32768) :
    Calls Try.prog 8 #[.int .i64 n] w fun e w' => e = .returned (.tuple #[.int .i64 (dsym n), .int .u32 (n - ds (dsym n)), .int .i64 (db (dsym n)), .bool true]) ∧ Below w.heap.size w w' := by
  obtain ⟨b0, b1, b2, b3⟩ := dsym_at n h0
  obtain ⟨b4, b5⟩ := ds_bd _ b0 b1
  have hs := search_dst n h0
  generalize dsym n = s at *
  have Hs := Lib.hid hs
  clear hs b3
  go_enter Try.func8, Try.ntmps8
  go_wp2_with (first | (go_at_call 19; refine (Hs.out _ _ (by simp)).mono ?_; rintro e w' ⟨rfl, m, rfl⟩) | (go_at_call 13; refine (distBits _ _).mono ?_; rintro e w' ⟨rfl, rfl⟩))
  go_quiet ((go_at_call 24; refine (near _ _ (by omega) (by omega)).mono fun e w' h => ⟨h.1, _, h.2.symm⟩))
  go_wp2
  exact bodyPost_ret (v := .tuple #[.int .i64 s, .int .u32 (n - ds s), .int .i64 (db s), .bool true]) (by simp [results, Try.results8, go_sem]) rfl ⟨rfl, bdn (bdn ((Below.refl _ _).alloc (Nat.le_refl _) _) _) _⟩

end Go.Proofs.Ytfjkmjpbppomkaa.S
