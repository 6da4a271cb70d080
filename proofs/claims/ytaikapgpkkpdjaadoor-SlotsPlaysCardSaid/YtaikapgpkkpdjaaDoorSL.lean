/- Slots: an owned row of slots is sorted in place. -/
import Derived.Test.YtaikapgpkkpdjaaDoorSK
namespace Go.Proofs.YtaikapgpkkpdjaaDoor.L
open Go.ChangeShapes Go.WideShapes Go.ChangeAt Go.RowKit Go.Maps Go.Proofs.YtaikapgpkkpdjaaDoor.G Go.Sort Go.Shelf Go.Lib
set_option linter.unusedVariables false
set_option linter.unusedSimpArgs false

def flat (xs : List Slot) : List Value := xs.flatMap encL
theorem flat_len (xs : List Slot) : (flat xs).length = xs.length * 3 := by
  induction xs with
  | nil => rfl
  | cons x xs ih => unfold flat at *; simp [encL] at *; omega
theorem flat_get (xs : List Slot) (i r : Nat) (hi : i < xs.length) (hr : r < 3) : (flat xs)[i * 3 + r]? = (encL xs[i])[r]? := by
  induction xs generalizing i with
  | nil => simp at hi
  | cons x xs ih =>
    have e : flat (x :: xs) = encL x ++ flat xs := by unfold flat; simp
    rw [e]
    cases i with
    | zero =>
      rw [List.getElem?_append_left (by simp [encL]; omega)]
      simp
    | succ i =>
      rw [List.getElem?_append_right (by simp [encL]; omega)]
      have : (i + 1) * 3 + r - (encL x).length = i * 3 + r := by simp [encL]; omega
      rw [this, ih i (by simpa using hi)]
      simp
theorem turned_sort {w : World} {g off n : Nat} {d : Array Slot} {os : Array Obj} : Turned [g] w (sortWorldK encL 3 w g off n d os) := by
  refine ⟨rfl, rfl, rfl, ?_, fun k hk hn => ?_⟩
  · simp [sortWorldK, putRowK, grow, putRow, mapBlock, Sort.ahead]
  · have hkg : k ≠ g := by simpa using hn
    simp only [sortWorldK, putRowK, grow, putRow, mapBlock, Sort.ahead]
    rw [Array.getElem?_append_left (by simpa using hk), Array.getElem?_modify, if_neg hkg.symm]
end Go.Proofs.YtaikapgpkkpdjaaDoor.L
