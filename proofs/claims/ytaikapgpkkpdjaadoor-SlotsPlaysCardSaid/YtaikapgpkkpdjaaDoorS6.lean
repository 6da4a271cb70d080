/- Slots: which extent is taken. -/
import Derived.Test.YtaikapgpkkpdjaaDoorS5
import Derived.Deep.OwnRows
namespace Go.Proofs.YtaikapgpkkpdjaaDoor.L
open Go.ChangeShapes Go.WideShapes Go.ChangeAt Go.RowKit Go.Maps Go.Proofs.YtaikapgpkkpdjaaDoor.G
set_option linter.unusedVariables false
set_option linter.unusedSimpArgs false

/-- an extent of the class that has a slot left -/
def openX (c : Int) (x : Int × Nat) : Bool := decide (x.1 = c + 1) && decide ((freeI x.2 : Int) < slotsC (x.1 - 1))

theorem closure40 (c cl : Int) (u : Nat) (hc : 0 ≤ c ∧ c ≤ 5) (hcl : 0 ≤ cl ∧ cl ≤ 6) (hu : u < 2 ^ 64) (a : Addr) (w : World) (hT : Tab w) (ha : w.cell? a = some (.int .i64 c)) :
    Calls Tryd.prog 40 #[.agg #[.int .i64 cl, .int .u64 u], .pointer (some a)] w fun e w' => e = .returned (.bool (openX c (cl, u))) ∧ Below w.heap.size w w' := by
  have CF := Lib.hid (fun w hT => first cl u hcl hu w hT)
  have HT : Hid (∀ o, Tab (w.alloc o)) := fun o => hT.turned ((Turned.refl [] w).alloc o) (by simp)
  have HO := Lib.hid (show openX c (cl, u) = (decide (cl = c + 1) && decide ((freeI u : Int) < slotsC (cl - 1))) from rfl)
  have HCa : Hid (∀ w', Below (w.alloc (.cells #[.int .i64 cl, .int .u64 u] 75)).heap.size (w.alloc (.cells #[.int .i64 cl, .int .u64 u] 75)) w' → w'.cell? a = some (.int .i64 c) ∧ w'.cell? ⟨w.heap.size, 0, none⟩ = some (.int .i64 cl)) := by
    intro w' hb
    have t := (Turned.of_below hb)
    refine ⟨((((Turned.refl [] w).alloc _).trans t).cell ha (by simp)), t.cell (cells_new w [.int .i64 cl, .int .u64 u] 75 0 _ rfl) (by simp)⟩
  generalize openX c (cl, u) = B at *
  generalize decide ((freeI u : Int) < slotsC (cl - 1)) = F at *
  generalize freeI u = t at *
  have HB : Hid (Below w.heap.size w (w.alloc (.cells #[.int .i64 cl, .int .u64 u] 75))) := (Below.refl _ w).alloc (Nat.le_refl _) _
  by_cases he : cl = c + 1
  · have hB : B = F := by rw [HO.out, decide_eq_true he, Bool.true_and]
    subst he
    have HBF := Lib.hid hB
    clear hB HO ha
    go_enter Tryd.func40, Tryd.ntmps40
    go_wp2_with (first | (go_at_call 41; ((with_reducible refine (CF.out _ (HT.out _)).mono ?_); rintro e ww ⟨rfl, hb⟩; obtain ⟨h1, h2⟩ := HCa.out _ hb; have HW := Lib.hid hb; clear hb)))
    go_ret
    exact ⟨retB HBF.out.symm, HB.out.trans (HW.out.mono HB.out.size)⟩
  · have hB : B = false := by rw [HO.out, decide_eq_false he, Bool.false_and]
    have HBF := Lib.hid hB
    have hne : (cl == c + 1) = false := by simpa using he
    clear hB HO ha he
    go_enter Tryd.func40, Tryd.ntmps40
    go_wp2_with (first | (go_at_call 41; ((with_reducible refine (CF.out _ (HT.out _)).mono ?_); rintro e ww ⟨rfl, hb⟩; obtain ⟨h1, h2⟩ := HCa.out _ hb; have HW := Lib.hid hb; clear hb)))
    go_ret
    exact ⟨retB HBF.out.symm, HB.out.trans (HW.out.mono HB.out.size)⟩

theorem closure42 (cl : Int) (u : Nat) (w : World) :
    Calls Tryd.prog 42 #[.agg #[.int .i64 cl, .int .u64 u]] w fun e w' => e = .returned (.bool (cl == 0)) ∧ Below w.heap.size w w' := by
  have HB : Hid (Below w.heap.size w (w.alloc (.cells #[.int .i64 cl, .int .u64 u] 75))) := (Below.refl _ w).alloc (Nat.le_refl _) _
  obtain ⟨B, hB⟩ : ∃ B, (cl == 0) = B := ⟨_, rfl⟩
  rw [hB]
  go_enter Tryd.func42, Tryd.ntmps42
  go_wp2
  go_ret
  exact ⟨rfl, HB.out⟩

/-- the first index that is so -/
def firstI (n : Nat) (p : Nat → Bool) : Int := ((List.range n).find? p).elim (-1) (fun k => (k : Int))
theorem find_range {n k : Nat} {p : Nat → Bool} (hk : k < n) (hp : p k = true) (hb : ∀ i, i < k → p i = false) : (List.range n).find? p = some k := by
  obtain ⟨m, rfl⟩ : ∃ m, n = k + (m + 1) := ⟨n - k - 1, by omega⟩
  rw [List.range_add, List.find?_append]
  have : (List.range k).find? p = none := by rw [List.find?_eq_none]; intro x hx; simp [hb x (by simpa using hx)]
  rw [this, List.range_succ_eq_map]
  simp [hp]
theorem firstI_some {n k : Nat} {p : Nat → Bool} (hk : k < n) (hp : p k = true) (hb : ∀ i, i < k → p i = false) : firstI n p = k := by unfold firstI; rw [find_range hk hp hb]; rfl
theorem firstI_none {n : Nat} {p : Nat → Bool} (hb : ∀ i, i < n → p i = false) : firstI n p = -1 := by
  unfold firstI
  have : (List.range n).find? p = none := by rw [List.find?_eq_none]; intro x hx; simp [hb x (by simpa using hx)]
  rw [this]; rfl
theorem firstI_cases (n : Nat) (p : Nat → Bool) : (firstI n p = -1 ∧ ∀ i, i < n → p i = false) ∨ ∃ k : Nat, firstI n p = k ∧ k < n ∧ p k = true ∧ ∀ i, i < k → p i = false := by
  by_cases h : ∃ k, k < n ∧ p k = true
  · right
    have hd : ∀ m, (∃ k, k < m ∧ p k = true) → ∃ k, k < m ∧ p k = true ∧ ∀ i, i < k → p i = false := by
      intro m
      induction m with
      | zero => rintro ⟨k, hk, _⟩; omega
      | succ m ih =>
        rintro ⟨k, hk, hp⟩
        by_cases hx : ∃ k, k < m ∧ p k = true
        · obtain ⟨j, h1, h2, h3⟩ := ih hx
          exact ⟨j, by omega, h2, h3⟩
        · have hkm : k = m := by
            rcases Nat.lt_or_ge k m with h' | h'
            · exact absurd ⟨k, h', hp⟩ hx
            · omega
          subst hkm
          refine ⟨k, by omega, hp, fun i hi => ?_⟩
          cases e : p i with
          | false => rfl
          | true => exact absurd ⟨i, hi, e⟩ hx
    obtain ⟨k, h1, h2, h3⟩ := hd n h
    exact ⟨k, firstI_some h1 h2 h3, h1, h2, h3⟩
  · left
    have : ∀ i, i < n → p i = false := fun i hi => by
      cases e : p i with
      | false => rfl
      | true => exact absurd ⟨i, hi, e⟩ h
    exact ⟨firstI_none this, this⟩
end Go.Proofs.YtaikapgpkkpdjaaDoor.L
