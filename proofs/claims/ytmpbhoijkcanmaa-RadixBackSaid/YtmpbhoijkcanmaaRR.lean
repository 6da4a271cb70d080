/- Radix: slices.SortFunc over slots: rows of slots, sorted. -/
import Derived.Test.YtmpbhoijkcanmaaRQ
import Derived.Test.YtmpbhoijkcanmaaShelf
import Derived.Shelf.SlSortCmp.NoneTotal
import Derived.Laws.AppendOwn
namespace Go.Proofs.Ytmpbhoijkcanmaa.R
open Go.ChangeShapes Go.WideShapes Go.ChangeAt Go.RowKit Go.Maps Go.Proofs.Ytmpbhoijkcanmaa.G Go.Sort Go.Shelf Go.Lib
set_option linter.unusedVariables false
set_option linter.unusedSimpArgs false
set_option linter.unnecessarySimpa false

def encL (x : Slot) : List Value := [.int .i64 x.e, .int .i64 x.c, .int .i64 x.i]
/-- in the order of extents, classes, indices -/
def ltB (a b : Slot) : Bool := decide (a.e < b.e ∨ (a.e = b.e ∧ (a.c < b.c ∨ (a.c = b.c ∧ a.i < b.i))))
theorem ltS (a b : Slot) : ltOf cmpS a b = ltB a b := by
  unfold ltOf cmpS orI cmpI ltB
  rw [Bool.eq_iff_iff]
  simp only [decide_eq_true_eq]
  repeat' split
  all_goals omega
theorem swoS : SWO (ltOf cmpS) where
  irrefl x := by rw [ltS]; simp [ltB]
  trans x y z h1 h2 := by rw [ltS] at *; unfold ltB at *; simp only [decide_eq_true_eq] at *; omega
  ntrans x y z h1 h2 := by rw [ltS] at *; unfold ltB at *; simp only [decide_eq_false_iff_not] at *; omega
def leS (x y : Slot) : Prop := ltB y x = false

theorem cmpLaysB (blk off size : Nat) (w : World) : CmpLays Try.prog 58 #[] encL 3 cmpS blk off size w :=
  fun _ _ _ _ x y => closureB x y _
theorem sortFB (blk off cap : Nat) (d : Array Slot) (w : World) (hH : HoldsK encL 3 w blk off d) (hblk : blk < w.heap.size) (hsz : d.size < 4611686018427387904) :
    Calls Try.prog 68 #[.slice (some ⟨blk, off, none⟩) d.size cap, .func (.func 58) #[] #[]] w fun e w' =>
      e = .returned (.tuple #[]) ∧ ∃ d' n os, PermIn 0 d.size d d' ∧ SortedIn (ltOf cmpS) 0 d.size d' ∧ w' = sortWorldK encL 3 w blk off n d' os := by
  have eg : ∀ args w, (callFunc 58 args).run Try.prog w = .ok (.enter 58 args) w := enters_of Try.func58 (by kernel_rfl) rfl
  have hcon := AnyQ.slices_SortFunc Try.sortSl 3 Try.isAgg31 Try.sizeOf31 encL (fun _ => rfl) (fun x v hv => by simp [encL] at hv; rcases hv with rfl | rfl | rfl <;> rfl) cmpS swoS 58 #[] blk off cap d w eg (cmpLaysB blk off d.size w) hH hblk hsz
  exact hcon
theorem sort_nilB (a : Option Addr) (cap : Nat) (w : World) : Calls Try.prog 68 #[.slice a 0 cap, .func (.func 58) #[] #[]] w fun e w' => e = .returned (.tuple #[]) ∧ w' = w :=
  AnyF.slices_SortFunc_none Try.sortSl a cap _ w

theorem cmpLaysI (blk off size : Nat) (w : World) : CmpLays Try.prog 62 #[] encL 3 cmpS blk off size w :=
  fun _ _ _ _ x y => closureI x y _
theorem sortFI (blk off cap : Nat) (d : Array Slot) (w : World) (hH : HoldsK encL 3 w blk off d) (hblk : blk < w.heap.size) (hsz : d.size < 4611686018427387904) :
    Calls Try.prog 68 #[.slice (some ⟨blk, off, none⟩) d.size cap, .func (.func 62) #[] #[]] w fun e w' =>
      e = .returned (.tuple #[]) ∧ ∃ d' n os, PermIn 0 d.size d d' ∧ SortedIn (ltOf cmpS) 0 d.size d' ∧ w' = sortWorldK encL 3 w blk off n d' os := by
  have eg : ∀ args w, (callFunc 62 args).run Try.prog w = .ok (.enter 62 args) w := enters_of Try.func62 (by kernel_rfl) rfl
  have hcon := AnyQ.slices_SortFunc Try.sortSl 3 Try.isAgg31 Try.sizeOf31 encL (fun _ => rfl) (fun x v hv => by simp [encL] at hv; rcases hv with rfl | rfl | rfl <;> rfl) cmpS swoS 62 #[] blk off cap d w eg (cmpLaysI blk off d.size w) hH hblk hsz
  exact hcon
theorem sort_nilI (a : Option Addr) (cap : Nat) (w : World) : Calls Try.prog 68 #[.slice a 0 cap, .func (.func 62) #[] #[]] w fun e w' => e = .returned (.tuple #[]) ∧ w' = w :=
  AnyF.slices_SortFunc_none Try.sortSl a cap _ w

/-- a slice of slots -/
def Sl3 (w : World) (a : Option Addr) (len : Nat) (xs : List Slot) : Prop :=
  xs.length = len ∧ (len = 0 ∨ ∃ b off, a = some ⟨b, off, none⟩ ∧ ∀ i (h : i < xs.length), w.cell? ⟨b, off + i * 3, none⟩ = some (.int .i64 xs[i].e) ∧ w.cell? ⟨b, off + i * 3 + 1, none⟩ = some (.int .i64 xs[i].c) ∧ w.cell? ⟨b, off + i * 3 + 2, none⟩ = some (.int .i64 xs[i].i))
theorem Sl3.turned {w w' : World} {a : Option Addr} {len : Nat} {xs : List Slot} (h : Sl3 w a len xs) {S : List Nat} (t : Turned S w w') (hn : ∀ x, a = some x → x.block ∉ S) : Sl3 w' a len xs := by
  refine ⟨h.1, ?_⟩
  rcases h.2 with h0 | ⟨b, off, e, hc⟩
  · exact .inl h0
  · refine .inr ⟨b, off, e, fun i hi => ?_⟩
    obtain ⟨c0, c1, c2⟩ := hc i hi
    have hb : b ∉ S := hn ⟨b, off, none⟩ e
    exact ⟨t.cell c0 hb, t.cell c1 hb, t.cell c2 hb⟩
theorem sl3_of_holds {w : World} {b off : Nat} {d : Array Slot} (h : HoldsK encL 3 w b off d) : Sl3 w (some ⟨b, off, none⟩) d.size d.toList := by
  refine ⟨by simp, .inr ⟨b, off, rfl, fun i hi => ?_⟩⟩
  have hi' : i < d.size := by simpa using hi
  have hd : d[i]! = d.toList[i] := by rw [getElem!_pos _ i hi']; simp
  have key : ∀ r, r < 3 → w.cell? ⟨b, off + (i * 3 + r), none⟩ = some ((encL d[i]!)[r]!) := by
    intro r hr
    have := (h (i * 3 + r) (by rw [size_flatK]; omega)).1
    rw [get_flatK _ _ _ _ (by omega), show (i * 3 + r) / 3 = i by omega, show (i * 3 + r) % 3 = r by omega] at this
    exact this
  rw [hd] at key
  exact ⟨key 0 (by omega), by rw [Nat.add_assoc]; exact key 1 (by omega), by rw [Nat.add_assoc]; exact key 2 (by omega)⟩
theorem sorted_list {d d' : Array Slot} (hP : PermIn 0 d.size d d') (hS : SortedIn (ltOf cmpS) 0 d.size d') : d'.size = d.size ∧ d'.toList.Perm d.toList ∧ d'.toList.Pairwise leS := by
  obtain ⟨hsz, _, hperm⟩ := hP
  have e1 : d'.extract 0 d.size = d' := by rw [← hsz]; exact Array.extract_size
  rw [e1, Array.extract_size] at hperm
  refine ⟨hsz, hperm, ?_⟩
  rw [List.pairwise_iff_getElem]
  intro i j hi hj hij
  have hi' : i < d'.size := by simpa using hi
  have hj' : j < d'.size := by simpa using hj
  have := hS i j (Nat.zero_le _) hij (by omega)
  rw [getElem!_pos d' j hj', getElem!_pos d' i hi', ltS] at this
  have hij1 : d'.toList[i] = d'[i] := by simp
  have hij2 : d'.toList[j] = d'[j] := by simp
  rw [hij1, hij2]
  unfold leS
  simpa using this
def flat (xs : List Slot) : List Value := xs.flatMap encL
theorem flat_len (xs : List Slot) : (flat xs).length = xs.length * 3 := by
  induction xs with
  | nil => rfl
  | cons x xs ih => unfold flat at *; simp [encL] at *; omega
theorem flat_get (xs : List Slot) (i r : Nat) (hi : i < xs.length) (hr : r < 3) : (flat xs)[i * 3 + r]? = (encL xs[i])[r]? := by
  induction xs generalizing i with
  | nil => simp at hi
  | cons x xs ih =>
    have e : flat (x :: xs) = encL x ++ flat xs := by unfold flat; simp
    rw [e]
    cases i with
    | zero =>
      rw [List.getElem?_append_left (by simp [encL]; omega)]
      simp
    | succ i =>
      rw [List.getElem?_append_right (by simp [encL]; omega)]
      have : (i + 1) * 3 + r - (encL x).length = i * 3 + r := by simp [encL]; omega
      rw [this, ih i (by simpa using hi)]
      simp
theorem turned_sort {w : World} {g off n : Nat} {d : Array Slot} {os : Array Obj} : Turned [g] w (sortWorldK encL 3 w g off n d os) := by
  refine ⟨rfl, rfl, rfl, ?_, fun k hk hn => ?_⟩
  · simp [sortWorldK, putRowK, grow, putRow, mapBlock, Sort.ahead]
  · have hkg : k ≠ g := by simpa using hn
    simp only [sortWorldK, putRowK, grow, putRow, mapBlock, Sort.ahead]
    rw [Array.getElem?_append_left (by simpa using hk), Array.getElem?_modify, if_neg hkg.symm]
theorem holds_of_owns {w : World} {g cap n : Nat} {cur : Array Value} {xs : List Slot} (hh : w.heap[g]? = some (.cells cur 31 (0, 0))) (ht : cur.toList.take (n * 3) = flat xs) (hn : xs.length = n) : HoldsK encL 3 w g 0 xs.toArray := by
  intro j hj
  rw [size_flatK] at hj
  have hj' : j < xs.length * 3 := by simpa using hj
  refine ⟨?_, ?_⟩
  · have hg := flat_get xs (j / 3) (j % 3) (by omega) (by omega)
    rw [show j / 3 * 3 + j % 3 = j by omega] at hg
    rw [get_flatK _ _ _ _ hj]
    have h1 : (cur.toList.take (n * 3))[j]? = cur.toList[j]? := by rw [List.getElem?_take, if_pos (by omega)]
    rw [ht] at h1
    have h2 : w.cell? ⟨g, 0 + j, none⟩ = cur[j]? := by simp [World.cell?, hh]
    rw [h2, ← Array.getElem?_toList, ← h1, hg]
    have h3 : xs.toArray[j / 3]! = xs[j / 3]'(by omega) := by rw [getElem!_pos _ _ (by simp; omega)]; simp
    rw [h3]
    have h4 : j % 3 = 0 ∨ j % 3 = 1 ∨ j % 3 = 2 := by omega
    rcases h4 with h | h | h <;> rw [h] <;> rfl
  · simp [World.frozen?, hh]

theorem sl3_of_owns {w : World} {base : Nat} {v : Value} {n : Nat} {xs : List Slot} (h : w.ownsRow base 31 3 v n (flat xs)) : ∃ a cap, v = .slice a n cap ∧ Sl3 w a n xs ∧ (∀ x, a = some x → base ≤ x.block ∧ x.block < w.heap.size) := by
  obtain ⟨h1, h2⟩ := h
  have hl : xs.length = n := by have := flat_len xs; omega
  rcases h2 with ⟨rfl, rfl⟩ | ⟨g, cap, cur, rfl, hg, hh, hn, hc, hs, ht⟩
  · exact ⟨none, 0, rfl, ⟨hl, .inl rfl⟩, fun x hx => by cases hx⟩
  · have hH := sl3_of_holds (holds_of_owns (cap := cap) hh ht hl)
    simp only [List.size_toArray, hl] at hH
    exact ⟨_, cap, rfl, hH, fun x hx => by simp only [Option.some.injEq] at hx; subst hx; exact ⟨hg, lt_of_at hh⟩⟩

theorem owns_sorted {w : World} {base g cap m : Nat} {cur : Array Value} {os : Array Obj} {d : Array Slot} (hg : base ≤ g) (hh : w.heap[g]? = some (.cells cur 31 (0, 0))) (hn : d.size ≤ cap) (hc : cap ≤ maxLen) (hs : cur.size = cap * 3) :
    (sortWorldK encL 3 w g 0 m d os).ownsRow base 31 3 (.slice (some ⟨g, 0, none⟩) d.size cap) d.size (flat d.toList) := by
  have hgl := lt_of_at hh
  refine ⟨by rw [flat_len]; simp, .inr ⟨g, cap, putCells id 0 (flatK encL 3 d) cur, rfl, hg, ?_, hn, hc, by simpa [putCells] using hs, ?_⟩⟩
  · simp only [sortWorldK, putRowK, grow, putRow, mapBlock, Sort.ahead]
    rw [Array.getElem?_append_left (by simpa using hgl), Array.getElem?_modify, if_pos rfl, hh]
    rfl
  · apply List.ext_getElem?
    intro j
    rw [List.getElem?_take]
    by_cases hj : j < d.size * 3
    · rw [if_pos hj, Array.getElem?_toList]
      have hjc : j < cur.size := by omega
      have hg2 := flat_get d.toList (j / 3) (j % 3) (by simp; omega) (by omega)
      rw [show j / 3 * 3 + j % 3 = j by omega] at hg2
      rw [hg2]
      simp only [putCells, Array.getElem?_mapIdx, Array.getElem?_eq_getElem hjc, Option.map_some]
      rw [if_pos ⟨Nat.zero_le _, by rw [size_flatK]; omega⟩]
      simp only [Nat.sub_zero, id]
      rw [get_flatK _ _ _ _ hj]
      have h3 : d[j / 3]! = d.toList[j / 3]'(by simp; omega) := by rw [getElem!_pos _ _ (by omega)]; simp
      rw [h3]
      have h4 : j % 3 = 0 ∨ j % 3 = 1 ∨ j % 3 = 2 := by omega
      rcases h4 with h | h | h <;> rw [h] <;> rfl
    · rw [if_neg hj, List.getElem?_eq_none (by rw [flat_len]; simp; omega)]

/-- the row of those is sorted -/
theorem sort_ownsB {w : World} {base : Nat} {v : Value} {xs : List Slot} (hown : w.ownsRow base 31 3 v xs.length (flat xs)) (hxl : xs.length < 4611686018427387904) :
    Calls Try.prog 68 #[v, .func (.func 58) #[] #[]] w fun e w' => e = .returned (.tuple #[]) ∧ ∃ ys, ys.Perm xs ∧ ys.Pairwise leS ∧ w'.ownsRow base 31 3 v xs.length (flat ys) ∧ Turned v.ownBlock.toList w w' ∧ (∀ k ∈ v.ownBlock.toList, base ≤ k) := by
  obtain ⟨h1, h2⟩ := hown
  rcases h2 with ⟨rfl, h0⟩ | ⟨g, cap, cur, rfl, hg, hh, hn, hc, hs, ht⟩
  · have hx : xs = [] := List.length_eq_zero_iff.1 h0
    subst hx
    exact (sort_nilB none 0 w).mono fun e w' ⟨e1, e2⟩ => ⟨e1, [], List.Perm.refl _, List.Pairwise.nil, ⟨rfl, .inl ⟨rfl, rfl⟩⟩, by rw [e2]; exact Turned.refl _ _, by intro k hk; cases hk⟩
  · have hH : HoldsK encL 3 w g 0 xs.toArray := holds_of_owns (cap := cap) hh ht rfl
    have := sortFB g 0 cap xs.toArray w hH (lt_of_at hh) (by simpa using hxl)
    simp only [List.size_toArray] at this
    refine this.mono fun e w' ⟨e1, d', n, os, hp, hso, hw⟩ => ?_
    obtain ⟨z1, z2, z3⟩ := sorted_list (d := xs.toArray) (by simpa using hp) (by simpa using hso)
    have hT : Turned [g] w w' := by rw [hw]; exact turned_sort
    have z1' : d'.size = xs.length := by simpa using z1
    have ho := owns_sorted (m := n) (os := os) (d := d') hg hh (by omega) hc hs
    rw [← hw, z1'] at ho
    exact ⟨e1, d'.toList, by simpa using z2, z3, ho, by simpa [Value.ownBlock] using hT, by intro k hk; simp [Value.ownBlock] at hk; omega⟩
/-- the row of those is sorted -/
theorem sort_ownsI {w : World} {base : Nat} {v : Value} {xs : List Slot} (hown : w.ownsRow base 31 3 v xs.length (flat xs)) (hxl : xs.length < 4611686018427387904) :
    Calls Try.prog 68 #[v, .func (.func 62) #[] #[]] w fun e w' => e = .returned (.tuple #[]) ∧ ∃ ys, ys.Perm xs ∧ ys.Pairwise leS ∧ w'.ownsRow base 31 3 v xs.length (flat ys) ∧ Turned v.ownBlock.toList w w' ∧ (∀ k ∈ v.ownBlock.toList, base ≤ k) := by
  obtain ⟨h1, h2⟩ := hown
  rcases h2 with ⟨rfl, h0⟩ | ⟨g, cap, cur, rfl, hg, hh, hn, hc, hs, ht⟩
  · have hx : xs = [] := List.length_eq_zero_iff.1 h0
    subst hx
    exact (sort_nilI none 0 w).mono fun e w' ⟨e1, e2⟩ => ⟨e1, [], List.Perm.refl _, List.Pairwise.nil, ⟨rfl, .inl ⟨rfl, rfl⟩⟩, by rw [e2]; exact Turned.refl _ _, by intro k hk; cases hk⟩
  · have hH : HoldsK encL 3 w g 0 xs.toArray := holds_of_owns (cap := cap) hh ht rfl
    have := sortFI g 0 cap xs.toArray w hH (lt_of_at hh) (by simpa using hxl)
    simp only [List.size_toArray] at this
    refine this.mono fun e w' ⟨e1, d', n, os, hp, hso, hw⟩ => ?_
    obtain ⟨z1, z2, z3⟩ := sorted_list (d := xs.toArray) (by simpa using hp) (by simpa using hso)
    have hT : Turned [g] w w' := by rw [hw]; exact turned_sort
    have z1' : d'.size = xs.length := by simpa using z1
    have ho := owns_sorted (m := n) (os := os) (d := d') hg hh (by omega) hc hs
    rw [← hw, z1'] at ho
    exact ⟨e1, d'.toList, by simpa using z2, z3, ho, by simpa [Value.ownBlock] using hT, by intro k hk; simp [Value.ownBlock] at hk; omega⟩
end Go.Proofs.Ytmpbhoijkcanmaa.R
