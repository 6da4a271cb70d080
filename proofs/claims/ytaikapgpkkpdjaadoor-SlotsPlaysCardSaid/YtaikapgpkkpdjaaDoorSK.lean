/- Slots: a list of slots is sorted. -/
import Derived.Test.YtaikapgpkkpdjaaDoorSJ
namespace Go.Proofs.YtaikapgpkkpdjaaDoor.L
open Go.ChangeShapes Go.WideShapes Go.ChangeAt Go.RowKit Go.Maps Go.Proofs.YtaikapgpkkpdjaaDoor.G Go.Sort Go.Shelf Go.Lib
set_option linter.unusedVariables false
set_option linter.unusedSimpArgs false

/-- in the order of extents and indices -/
def leS (x y : Slot) : Prop := x.e < y.e ∨ (x.e = y.e ∧ x.i ≤ y.i)
theorem sorted_list {d d' : Array Slot} (hP : PermIn 0 d.size d d') (hS : SortedIn (ltOf cmpS) 0 d.size d') : d'.size = d.size ∧ d'.toList.Perm d.toList ∧ d'.toList.Pairwise leS := by
  obtain ⟨hsz, _, hperm⟩ := hP
  have e1 : d'.extract 0 d.size = d' := by rw [← hsz]; exact Array.extract_size
  rw [e1, Array.extract_size] at hperm
  refine ⟨hsz, hperm, ?_⟩
  rw [List.pairwise_iff_getElem]
  intro i j hi hj hij
  have hi' : i < d'.size := by simpa using hi
  have hj' : j < d'.size := by simpa using hj
  have := hS i j (Nat.zero_le _) hij (by omega)
  rw [getElem!_pos d' j hj', getElem!_pos d' i hi', ltS] at this
  have h2 : ¬ (d'[j].e < d'[i].e ∨ (d'[j].e = d'[i].e ∧ d'[j].i < d'[i].i)) := by simpa using this
  have hij1 : d'.toList[i] = d'[i] := by simp
  have hij2 : d'.toList[j] = d'[j] := by simp
  rw [hij1, hij2]
  unfold leS
  omega
end Go.Proofs.YtaikapgpkkpdjaaDoor.L
