/- Slots: an owned row of slots, sorted. -/
import Derived.Test.YtaikapgpkkpdjaaDoorSL
import Derived.Shelf.SlSortCmp.NoneTotal
namespace Go.Proofs.YtaikapgpkkpdjaaDoor.L
open Go.ChangeShapes Go.WideShapes Go.ChangeAt Go.RowKit Go.Maps Go.Proofs.YtaikapgpkkpdjaaDoor.G Go.Sort Go.Shelf Go.Lib
set_option linter.unusedVariables false
set_option linter.unusedSimpArgs false

theorem sort_nil (a : Option Addr) (cap : Nat) (w : World) : Calls Tryd.prog 48 #[.slice a 0 cap, .func (.func 49) #[] #[]] w fun e w' => e = .returned (.tuple #[]) ∧ w' = w :=
  AnyF.slices_SortFunc_none Tryd.sortSl a cap _ w

theorem holds_of_owns {w : World} {g cap n : Nat} {cur : Array Value} {xs : List Slot} (hh : w.heap[g]? = some (.cells cur 24 (0, 0))) (ht : cur.toList.take (n * 3) = flat xs) (hn : xs.length = n) : HoldsK encL 3 w g 0 xs.toArray := by
  intro j hj
  rw [size_flatK] at hj
  have hj' : j < xs.length * 3 := by simpa using hj
  refine ⟨?_, ?_⟩
  · have hg := flat_get xs (j / 3) (j % 3) (by omega) (by omega)
    rw [show j / 3 * 3 + j % 3 = j by omega] at hg
    rw [get_flatK _ _ _ _ hj]
    have h1 : (cur.toList.take (n * 3))[j]? = cur.toList[j]? := by rw [List.getElem?_take, if_pos (by omega)]
    rw [ht] at h1
    have h2 : w.cell? ⟨g, 0 + j, none⟩ = cur[j]? := by simp [World.cell?, hh]
    rw [h2, ← Array.getElem?_toList, ← h1, hg]
    have h3 : xs.toArray[j / 3]! = xs[j / 3]'(by omega) := by rw [getElem!_pos _ _ (by simp; omega)]; simp
    rw [h3]
    have h4 : j % 3 = 0 ∨ j % 3 = 1 ∨ j % 3 = 2 := by omega
    rcases h4 with h | h | h <;> rw [h] <;> rfl
  · simp [World.frozen?, hh]

theorem sl3_of_owns {w : World} {base : Nat} {v : Value} {n : Nat} {xs : List Slot} (h : w.ownsRow base 24 3 v n (flat xs)) : ∃ a cap, v = .slice a n cap ∧ Sl3 w a n xs ∧ (∀ x, a = some x → base ≤ x.block ∧ x.block < w.heap.size) := by
  obtain ⟨h1, h2⟩ := h
  have hl : xs.length = n := by have := flat_len xs; omega
  rcases h2 with ⟨rfl, rfl⟩ | ⟨g, cap, cur, rfl, hg, hh, hn, hc, hs, ht⟩
  · exact ⟨none, 0, rfl, ⟨hl, .inl rfl⟩, fun x hx => by cases hx⟩
  · have hH := sl3_of_holds (holds_of_owns (cap := cap) hh ht hl)
    simp only [List.size_toArray, hl] at hH
    exact ⟨_, cap, rfl, hH, fun x hx => by simp only [Option.some.injEq] at hx; subst hx; exact ⟨hg, lt_of_at hh⟩⟩

theorem owns_sorted {w : World} {base g cap m : Nat} {cur : Array Value} {os : Array Obj} {d : Array Slot} (hg : base ≤ g) (hh : w.heap[g]? = some (.cells cur 24 (0, 0))) (hn : d.size ≤ cap) (hc : cap ≤ maxLen) (hs : cur.size = cap * 3) :
    (sortWorldK encL 3 w g 0 m d os).ownsRow base 24 3 (.slice (some ⟨g, 0, none⟩) d.size cap) d.size (flat d.toList) := by
  have hgl := lt_of_at hh
  refine ⟨by rw [flat_len]; simp, .inr ⟨g, cap, putCells id 0 (flatK encL 3 d) cur, rfl, hg, ?_, hn, hc, by simpa [putCells] using hs, ?_⟩⟩
  · simp only [sortWorldK, putRowK, grow, putRow, mapBlock, Sort.ahead]
    rw [Array.getElem?_append_left (by simpa using hgl), Array.getElem?_modify, if_pos rfl, hh]
    rfl
  · apply List.ext_getElem?
    intro j
    rw [List.getElem?_take]
    by_cases hj : j < d.size * 3
    · rw [if_pos hj, Array.getElem?_toList]
      have hjc : j < cur.size := by omega
      have hg2 := flat_get d.toList (j / 3) (j % 3) (by simp; omega) (by omega)
      rw [show j / 3 * 3 + j % 3 = j by omega] at hg2
      rw [hg2]
      simp only [putCells, Array.getElem?_mapIdx, Array.getElem?_eq_getElem hjc, Option.map_some]
      rw [if_pos ⟨Nat.zero_le _, by rw [size_flatK]; omega⟩]
      simp only [Nat.sub_zero, id]
      rw [get_flatK _ _ _ _ hj]
      have h3 : d[j / 3]! = d.toList[j / 3]'(by simp; omega) := by rw [getElem!_pos _ _ (by omega)]; simp
      rw [h3]
      have h4 : j % 3 = 0 ∨ j % 3 = 1 ∨ j % 3 = 2 := by omega
      rcases h4 with h | h | h <;> rw [h] <;> rfl
    · rw [if_neg hj, List.getElem?_eq_none (by rw [flat_len]; simp; omega)]

/-- the row of those is sorted -/
theorem sort_owns {w : World} {base : Nat} {v : Value} {xs : List Slot} (hown : w.ownsRow base 24 3 v xs.length (flat xs)) (hxl : xs.length < 4611686018427387904) :
    Calls Tryd.prog 48 #[v, .func (.func 49) #[] #[]] w fun e w' => e = .returned (.tuple #[]) ∧ ∃ ys, ys.Perm xs ∧ ys.Pairwise leS ∧ w'.ownsRow base 24 3 v xs.length (flat ys) ∧ Turned v.ownBlock.toList w w' ∧ (∀ k ∈ v.ownBlock.toList, base ≤ k) := by
  obtain ⟨h1, h2⟩ := hown
  rcases h2 with ⟨rfl, h0⟩ | ⟨g, cap, cur, rfl, hg, hh, hn, hc, hs, ht⟩
  · have hx : xs = [] := List.length_eq_zero_iff.1 h0
    subst hx
    exact (sort_nil none 0 w).mono fun e w' ⟨e1, e2⟩ => ⟨e1, [], List.Perm.refl _, List.Pairwise.nil, ⟨rfl, .inl ⟨rfl, rfl⟩⟩, by rw [e2]; exact Turned.refl _ _, by intro k hk; cases hk⟩
  · have hH : HoldsK encL 3 w g 0 xs.toArray := holds_of_owns (cap := cap) hh ht rfl
    have := sort48 g 0 cap xs.toArray w hH (lt_of_at hh) (by simpa using hxl)
    simp only [List.size_toArray] at this
    refine this.mono fun e w' ⟨e1, d', n, os, hp, hso, hw⟩ => ?_
    obtain ⟨z1, z2, z3⟩ := sorted_list (d := xs.toArray) (by simpa using hp) (by simpa using hso)
    have hT : Turned [g] w w' := by rw [hw]; exact turned_sort
    have z1' : d'.size = xs.length := by simpa using z1
    have ho := owns_sorted (m := n) (os := os) (d := d') hg hh (by omega) hc hs
    rw [← hw, z1'] at ho
    exact ⟨e1, d'.toList, by simpa using z2, z3, ho, by simpa [Value.ownBlock] using hT, by intro k hk; simp [Value.ownBlock] at hk; omega⟩
end Go.Proofs.YtaikapgpkkpdjaaDoor.L
