/- Maps of pages, and versions of them: lemmas, part 15 of 23. -/
import Derived.Deep.QuietTactic
import Derived.Deep.RegionHeld3
import Derived.Laws.AppendOwn
import Derived.Deep.DeepCutAuto
import Derived.Test.YtmpbhoijkcanmaaGreatQ14

/- Roots: slots of a set, sorted by insertion. -/
namespace Go.Proofs.YtmpbhoijkcanmaaGreat.R
open Go.ChangeShapes Go.WideShapes Go.ChangeAt Go.RowKit Go.Maps Go.Proofs.YtmpbhoijkcanmaaGreat.G Go.Joins
set_option linter.unusedVariables false
set_option linter.unusedSimpArgs false
set_option linter.unnecessarySimpa false

variable {w w' : World}
set_option maxRecDepth 100000 in
theorem before_fn (s t : Slot) (w : World) : Calls Tryz.prog 49 #[encS s, encS t] w fun e w' => e = .returned (.bool (ltB s t)) ∧ Below w.heap.size w w' := by
  obtain ⟨se, sc, si⟩ := s
  obtain ⟨te, tc, ti⟩ := t
  have HB : Hid (∀ o1 o2, Below w.heap.size w ((w.alloc o1).alloc o2)) := fun o1 o2 => (((Turned.refl [] w).alloc _).alloc _).below
  obtain ⟨R, hR⟩ : ∃ R, ltB ⟨se, sc, si⟩ ⟨te, tc, ti⟩ = R := ⟨_, rfl⟩
  rw [hR]
  have HR := Lib.hid hR
  clear hR
  unfold encS
  simp only
  by_cases h1 : se = te
  · subst h1
    by_cases h2 : sc = tc
    · subst h2
      have h3 : decide (si < ti) = R := by rw [← HR.out]; unfold ltB; simp
      go_enter Tryz.func49, Tryz.ntmps49
      go_wp2
      go_ret
      exact ⟨by first | rfl | rw [h3], HB.out _ _⟩
    · have h3 : decide (sc < tc) = R := by rw [← HR.out]; unfold ltB; simp [h2]
      have hq : (sc == tc) = false := by simpa using h2
      clear h2
      go_enter Tryz.func49, Tryz.ntmps49
      go_wp2
      go_ret
      exact ⟨by first | rfl | rw [h3], HB.out _ _⟩
  · have h3 : decide (se < te) = R := by rw [← HR.out]; unfold ltB; simp [h1]
    have hq : (se == te) = false := by simpa using h1
    clear h1
    go_enter Tryz.func49, Tryz.ntmps49
    go_wp2
    go_ret
    exact ⟨by first | rfl | rw [h3], HB.out _ _⟩
/-- a row of slots, by its block -/
def RowG (w : World) (g cap : Nat) (xs : List Slot) : Prop := ∃ cur : Array Value, w.heap[g]? = some (.cells cur 45 (0, 0)) ∧ cur.size = cap * 3 ∧ xs.length ≤ cap ∧ ∀ i (h : i < xs.length) r, r < 3 → cur[i * 3 + r]? = (encL xs[i])[r]?
variable {g cap base n : Nat} {xs : List Slot}
theorem RowG.of_owns {v : Value} (h : w.ownsRow base 45 3 v n (flat xs)) (hn : 0 < n) : ∃ g cap, v = .slice (some ⟨g, 0, none⟩) n cap ∧ base ≤ g ∧ n ≤ cap ∧ cap ≤ maxLen ∧ RowG w g cap xs ∧ xs.length = n := by
  obtain ⟨h1, h2⟩ := h
  have hl : xs.length = n := by have := flat_len3 xs; omega
  rcases h2 with ⟨rfl, rfl⟩ | ⟨g, cap, cur, rfl, hg, hh, hnc, hc, hs, ht⟩
  · omega
  · refine ⟨g, cap, rfl, hg, hnc, hc, ⟨cur, hh, hs, by omega, fun i hi r hr => ?_⟩, hl⟩
    have h1 : (cur.toList.take (n * 3))[i * 3 + r]? = cur.toList[i * 3 + r]? := by rw [List.getElem?_take, if_pos (by omega)]
    rw [ht, flat_get3 xs i r hi hr] at h1
    rw [h1]; simp
theorem RowG.owns (h : RowG w g cap xs) (hg : base ≤ g) (hc : cap ≤ maxLen) : w.ownsRow base 45 3 (.slice (some ⟨g, 0, none⟩) xs.length cap) xs.length (flat xs) := by
  obtain ⟨cur, h1, h2, h3, h4⟩ := h
  refine ⟨flat_len3 xs, .inr ⟨g, cap, cur, rfl, hg, h1, h3, hc, h2, ?_⟩⟩
  refine List.ext_getElem? fun j => ?_
  rw [List.getElem?_take]
  by_cases hj : j < xs.length * 3
  · rw [if_pos hj]
    have e1 := h4 (j / 3) (by omega) (j % 3) (by omega)
    have e2 := flat_get3 xs (j / 3) (j % 3) (by omega) (by omega)
    rw [show j / 3 * 3 + j % 3 = j by omega] at e1 e2
    rw [e2, ← e1]; simp
  · rw [if_neg hj, List.getElem?_eq_none (by rw [flat_len3]; omega)]
theorem RowG.cells (h : RowG w g cap xs) (i : Nat) (hi : i < xs.length) : w.cell? ⟨g, i * 3, none⟩ = some (.int .i64 xs[i].e) ∧ w.cell? ⟨g, i * 3 + 1, none⟩ = some (.int .i64 xs[i].c) ∧ w.cell? ⟨g, i * 3 + 2, none⟩ = some (.int .i64 xs[i].i) := by
  obtain ⟨cur, h1, h2, h3, h4⟩ := h
  have key : ∀ r, r < 3 → w.cell? ⟨g, i * 3 + r, none⟩ = (encL xs[i])[r]? := fun r hr => by rw [← h4 i hi r hr]; simp [World.cell?, h1]
  exact ⟨key 0 (by omega), key 1 (by omega), key 2 (by omega)⟩
theorem RowG.frozen (h : RowG w g cap xs) (i : Nat) : w.frozen? ⟨g, i, none⟩ = false := by
  obtain ⟨cur, h1, _⟩ := h
  simp [World.frozen?, h1]
theorem RowG.lt (h : RowG w g cap xs) : g < w.heap.size := by
  obtain ⟨cur, h1, _⟩ := h
  exact lt_of_at h1
theorem RowG.turned (h : RowG w g cap xs) {S : List Nat} (t : Turned S w w') (hn : g ∉ S) : RowG w' g cap xs := by
  obtain ⟨cur, h1, h2⟩ := h
  exact ⟨cur, t.at h1 hn, h2⟩
theorem RowG.set (h : RowG w g cap xs) (i : Nat) (hi : i < xs.length) (x : Slot) : RowG (((w.setCell ⟨g, i * 3, none⟩ (.int .i64 x.e)).setCell ⟨g, i * 3 + 1, none⟩ (.int .i64 x.c)).setCell ⟨g, i * 3 + 2, none⟩ (.int .i64 x.i)) g cap (xs.set i x) := by
  obtain ⟨cur, h1, h2, h3, h4⟩ := h
  refine ⟨_, block_setCell (block_setCell (block_setCell h1 _) _) _, by simp [h2], by simpa using h3, fun j hj r hr => ?_⟩
  have hj' : j < xs.length := by simpa using hj
  have h5 := h4 j hj' r hr
  have hsz : j * 3 + r < cur.size := by omega
  simp only [Array.getElem?_setIfInBounds, Array.size_setIfInBounds]
  by_cases e : i = j
  · subst e
    rw [List.getElem_set_self]
    have : r = 0 ∨ r = 1 ∨ r = 2 := by omega
    rcases this with rfl | rfl | rfl
    · rw [if_neg (by omega), if_neg (by omega), if_pos (by omega), if_pos (by omega)]; rfl
    · rw [if_neg (by omega), if_pos (by omega), if_pos (by omega)]; rfl
    · rw [if_pos (by omega), if_pos (by omega)]; rfl
  · rw [List.getElem_set_ne e, if_neg (by omega), if_neg (by omega), if_neg (by omega)]
    exact h5
/-- one put in -/
def insAt (xs : List Slot) (k : Slot) (p : Nat) : List Slot := xs.take p ++ k :: xs.drop p
theorem insAt_len (xs : List Slot) (k : Slot) (p : Nat) : (insAt xs k p).length = xs.length + 1 := by
  unfold insAt
  rw [List.length_append, List.length_cons, List.length_take, List.length_drop]; omega
theorem insAt_end (xs : List Slot) (k : Slot) : insAt xs k xs.length = xs ++ [k] := by unfold insAt; simp
theorem insAt_at {xs : List Slot} {k : Slot} {p : Nat} (h : p ≤ xs.length) (h2 : p < (insAt xs k p).length) : (insAt xs k p)[p] = k := by
  revert h2
  unfold insAt
  intro h2
  rw [List.getElem_append_right (by simp; omega)]
  simp [Nat.min_eq_left h]
theorem insAt_pre {xs : List Slot} {k : Slot} {q : Nat} (h : q < xs.length) (h2 : q < (insAt xs k (q + 1)).length) : (insAt xs k (q + 1))[q] = xs[q] := by
  revert h2
  unfold insAt
  intro h2
  rw [List.getElem_append_left (by simp; omega)]
  simp
theorem insAt_swap {xs : List Slot} {k : Slot} {q : Nat} (h : q < xs.length) : ((insAt xs k (q + 1)).set (q + 1) xs[q]).set q k = insAt xs k q := by
  have e1 : xs.take (q + 1) = xs.take q ++ [xs[q]] := List.take_succ_eq_append_getElem h
  have e2 : xs.drop q = xs[q] :: xs.drop (q + 1) := List.drop_eq_getElem_cons h
  have hl : (xs.take q).length = q := by simp; omega
  unfold insAt
  rw [e1, e2]
  generalize xs.take q = pre at *
  generalize xs.drop (q + 1) = suf at *
  generalize xs[q] = y at *
  subst hl
  simp [List.set_append]
theorem insAt_perm (xs : List Slot) (k : Slot) (p : Nat) : (insAt xs k p).Perm (xs ++ [k]) := by
  unfold insAt
  have h1 : (xs.take p ++ k :: xs.drop p).Perm (k :: (xs.take p ++ xs.drop p)) := List.perm_middle
  rw [List.take_append_drop] at h1
  exact h1.trans (List.perm_append_singleton k xs).symm
theorem leS_trans3 {a b c : Slot} (h1 : leS a b) (h2 : leS b c) : leS a c := by
  unfold leS ltB at *
  simp only [decide_eq_false_iff_not] at *
  omega
theorem lt_le {a b : Slot} (h : ltB a b = true) : leS a b := by
  unfold leS ltB at *
  simp only [decide_eq_false_iff_not, decide_eq_true_eq] at *
  omega
theorem insAt_sorted {xs : List Slot} {k : Slot} {p : Nat} (hp : p ≤ xs.length) (h : xs.Pairwise leS) (h1 : p = 0 ∨ ∃ q, p = q + 1 ∧ ∃ hq : q < xs.length, ltB k xs[q] = false) (h2 : ∀ y, y ∈ xs.drop p → ltB k y = true) : (insAt xs k p).Pairwise leS := by
  have hx := h
  rw [← List.take_append_drop p xs, List.pairwise_append] at hx
  unfold insAt
  rw [List.pairwise_append, List.pairwise_cons]
  refine ⟨hx.1, ⟨fun y hy => lt_le (h2 y hy), hx.2.1⟩, fun a ha b hb => ?_⟩
  have hak : leS a k := by
    rcases h1 with rfl | ⟨q, rfl, hq, h3⟩
    · simp at ha
    · rw [List.take_succ_eq_append_getElem hq] at ha
      rcases List.mem_append.1 ha with ha | ha
      · refine leS_trans3 ?_ h3
        have hx2 := h
        rw [← List.take_append_drop q xs, List.pairwise_append] at hx2
        exact hx2.2.2 a ha xs[q] (by rw [List.drop_eq_getElem_cons hq]; exact List.mem_cons_self)
      · simp at ha; subst ha; exact h3
  rcases List.mem_cons.1 hb with rfl | hb
  · exact hak
  · exact hx.2.2 a ha b hb
def srtPost (w : World) (M : List (Slot × Value)) (e : Ending) (w' : World) : Prop := ∃ v xs, e = .returned v ∧ SlotsIs (fun s => s ∈ M.map (·.1)) xs ∧ w'.ownsRow w.heap.size 45 3 v xs.length (flat xs) ∧ Below w.heap.size w w'
/-- between two rounds of the range -/
def SoR (w wr : World) (b : Nat) (M : List (Slot × Value)) (v : Value) : Prop := ∃ done xs, IterIs Tryz.prog 45 encS wr w.heap.size b M done ∧ wr.ownsRow (w.heap.size + 1) 45 3 v xs.length (flat xs) ∧ xs.Perm (done.map (·.1)) ∧ xs.Pairwise leS ∧ Below w.heap.size w wr
/-- one put in at a place -/
structure SoI (w wr : World) (b : Nat) (M done : List (Slot × Value)) (g cap : Nat) (xs : List Slot) (k : Slot) (p : Nat) : Prop where
  it : IterIs Tryz.prog 45 encS wr w.heap.size b M done
  row : RowG wr g cap (insAt xs k p)
  gt : ∀ y, y ∈ xs.drop p → ltB k y = true
  bel : Below w.heap.size w wr
theorem SoI.calm {w wr wr' : World} {b : Nat} {M done : List (Slot × Value)} {g cap : Nat} {xs : List Slot} {k : Slot} {p : Nat} (h : SoI w wr b M done g cap xs k p) (t : Below wr.heap.size wr wr') : SoI w wr' b M done g cap xs k p :=
  ⟨h.it.turned (Turned.of_below t) (by simp) (by simp), h.row.turned (Turned.of_below t) (by simp), h.gt, h.bel.trans (t.mono h.bel.size)⟩
def set3 (w : World) (g i : Nat) (x : Slot) : World := ((w.setCell ⟨g, i * 3, none⟩ (.int .i64 x.e)).setCell ⟨g, i * 3 + 1, none⟩ (.int .i64 x.c)).setCell ⟨g, i * 3 + 2, none⟩ (.int .i64 x.i)
theorem set3_turned (w : World) (g i : Nat) (x : Slot) : Turned [g] w (set3 w g i x) :=
  (((Turned.refl [g] w).setCell (.inl (by simp)) _).setCell (.inl (by simp)) _).setCell (.inl (by simp)) _
theorem SoI.swap {w wr : World} {b : Nat} {M done : List (Slot × Value)} {g cap : Nat} {xs : List Slot} {k y : Slot} {p q : Nat} (h : SoI w wr b M done g cap xs k p) (hpq : p = q + 1) (hq : q < xs.length) (hy : xs[q] = y) (hlt : ltB k y = true) (hg : w.heap.size + 1 ≤ g) (hb : b < w.heap.size) : SoI w (set3 (set3 wr g p y) g q k) b M done g cap xs k q := by
  have t := (set3_turned wr g p y).trans (set3_turned (set3 wr g p y) g q k)
  refine ⟨h.it.turned t (by simp; omega) (by simp; omega), ?_, fun z hz => ?_, Turned.below_of h.bel t (by simp; omega)⟩
  · have hr := h.row
    subst hpq
    have h1 := hr.set (q + 1) (by rw [insAt_len]; omega) y
    have h2 := h1.set q (by rw [List.length_set, insAt_len]; omega) k
    rw [← hy, insAt_swap hq, hy] at h2
    exact h2
  · rw [List.drop_eq_getElem_cons hq, hy] at hz
    rcases List.mem_cons.1 hz with rfl | hz
    · exact hlt
    · exact h.gt z (by rw [hpq]; exact hz)
theorem SoI.cells {w wr : World} {b : Nat} {M done : List (Slot × Value)} {g cap : Nat} {xs : List Slot} {k y : Slot} {p q : Nat} (h : SoI w wr b M done g cap xs k p) (hpq : p = q + 1) (hq : q < xs.length) (hy : xs[q] = y) :
    wr.cell? ⟨g, p * 3, none⟩ = some (.int .i64 k.e) ∧ wr.cell? ⟨g, p * 3 + 1, none⟩ = some (.int .i64 k.c) ∧ wr.cell? ⟨g, p * 3 + 2, none⟩ = some (.int .i64 k.i) ∧ wr.cell? ⟨g, q * 3, none⟩ = some (.int .i64 y.e) ∧ wr.cell? ⟨g, q * 3 + 1, none⟩ = some (.int .i64 y.c) ∧ wr.cell? ⟨g, q * 3 + 2, none⟩ = some (.int .i64 y.i) := by
  have hr := h.row
  have l1 : p < (insAt xs k p).length := by rw [insAt_len]; omega
  have l2 : q < (insAt xs k p).length := by rw [insAt_len]; omega
  obtain ⟨a0, a1, a2⟩ := hr.cells p l1
  obtain ⟨b0, b1, b2⟩ := hr.cells q l2
  rw [insAt_at (by omega) l1] at a0 a1 a2
  have e : (insAt xs k p)[q] = y := by subst hpq; rw [insAt_pre hq, hy]
  rw [e] at b0 b1 b2
  exact ⟨a0, a1, a2, b0, b1, b2⟩
theorem SoI.done {w wr : World} {b : Nat} {M done : List (Slot × Value)} {g cap m : Nat} {xs : List Slot} {k : Slot} {v : Value} {p : Nat} (h : SoI w wr b M (done ++ [(k, v)]) g cap xs k p) (hp : p ≤ xs.length) (hs : xs.Pairwise leS) (hpm : xs.Perm (done.map (·.1))) (h1 : p = 0 ∨ ∃ q, p = q + 1 ∧ ∃ hq : q < xs.length, ltB k xs[q] = false) (hg : w.heap.size + 1 ≤ g) (hc : cap ≤ maxLen) (hm : m = xs.length + 1) : SoR w wr b M (.slice (some ⟨g, 0, none⟩) m cap) := by
  refine ⟨_, insAt xs k p, h.it, ?_, ?_, insAt_sorted hp hs h1 h.gt, h.bel⟩
  · have := h.row.owns hg hc
    rw [insAt_len] at this
    rw [insAt_len, hm]
    exact this
  · rw [List.map_append]
    exact (insAt_perm xs k p).trans (hpm.append_right _)
set_option maxRecDepth 100000 in
set_option maxHeartbeats 4000000 in
theorem sorted_fn (b : Nat) (M : List (Slot × Value)) (w : World) (h : MapIs Tryz.prog 45 encS w b M) (hM : M.length ≤ 1048576) : Calls Tryz.prog 32 #[.map (some b)] w (srtPost w M) := by
  obtain ⟨i0, hi, hz0, hz1, hz2⟩ := infoSl
  have HMap := Lib.hid h
  have HND := Lib.hid h.nodup
  have hbl := h.lt
  clear h
  go_enter Tryz.func32, Tryz.ntmps32
  go_wp2_with (first
    | (at_range; refine wp_range _ rfl _ 86 rfl Tryz.underlying86 b M rfl HMap.out ?_; intro w0 hi0 ht0))
  have H0 : Hid (SoR w w0 b M (.slice none 0 0)) := ⟨[], [], hi0, ⟨rfl, .inl ⟨rfl, rfl⟩⟩, by simp, List.Pairwise.nil, ht0.below⟩
  clear hi0 ht0 HMap
  go_frame
  go_loopw [3] (fun v wr => Hid (SoR w wr b M v)) (fun _ wr => leftIn wr w.heap.size b)
  case atStart => exact H0.out
  case round =>
    clear H0
    have HWr : Hid (wr = wr) := rfl
    obtain ⟨wr0, hwr0⟩ : ∃ wr0, wr = wr0 := ⟨_, rfl⟩
    rw [hwr0] at hrel
    rw [hwr0]
    clear hwr0 HWr
    obtain ⟨done, xs, hit, how, hpm, hso, hbl2⟩ := hrel.out
    have HIt := Lib.hid hit
    have HOw := Lib.hid how
    have HPm := Lib.hid (And.intro hpm (And.intro hso hbl2))
    clear hrel hit how hpm hso hbl2
    go_wp2_with (first
      | (at_next; refine wp_next _ rfl _ rfl w.heap.size b M done rfl HIt.out ?_ ?_))
    · intro hp
      have HP := Lib.hid hp
      clear hp
      go_wp2
      go_ret
      have hpm2 := HPm.out.1.trans (HP.out.map _)
      exact ⟨_, xs, rfl, ⟨fun s => hpm2.mem_iff, hpm2.nodup_iff.2 HND.out, HPm.out.2.1⟩, owns_mono HOw.out (by omega), HPm.out.2.2⟩
    · rintro s v w2 hmem hi2 ht2 hsz hen
      have hr : w.heap.size + 1 ≤ w2.heap.size := hi2.lt.1
      have HI2 := Lib.hid hi2
      have HO2 : Hid (∀ o o', ((w2.alloc o).alloc o').ownsRow (w.heap.size + 1) 45 3 u3 xs.length (flat xs)) := fun o o' => owns_turned (owns_turned HOw.out ht2 (by simp)) (((Turned.refl [] w2).alloc o).alloc o') (by simp)
      have HB2 : Hid (Below w.heap.size w w2) := Turned.below_of HPm.out.2.2 ht2 (by simp)
      have hlen : xs.length + 1 ≤ 1048576 := by
        have h1 := hi2.len_le
        have h2 := HPm.out.1.length_eq
        simp at h1 h2
        omega
      have HSz := Lib.hid hr
      have HLt : Hid (leftIn wr0 w.heap.size b = M.length - done.length ∧ done.length < M.length) := ⟨iter_left HIt.out, by have := hi2.len_le; simp at this; omega⟩
      obtain ⟨k, hk⟩ : ∃ k, s = k := ⟨_, rfl⟩
      have HK := Lib.hid hk
      obtain ⟨se, sc, si⟩ := s
      unfold encS at hen
      simp only at hen
      obtain ⟨nx, hnx⟩ : ∃ nx, xs.length = nx := ⟨_, rfl⟩
      rw [hnx] at hlen HO2
      have HNx := Lib.hid hnx
      clear hmem hi2 ht2 hsz hr HOw HIt hk hnx
      go_wp2_with (first
        | (at_builtin; refine wpList_append_own_at _ rfl _ _ 42 rfl (w.heap.size + 1) 45 i0 (.agg #[.int .i64 0, .int .i64 0, .int .i64 0]) 3 24 Tryz.underlying42 hi hz0 hz1 hz2 rfl (by decide) _ _ _ rfl (HO2.out _ _) ⟨w2.heap.size + 1, 0, none⟩ 1 1 (encL ⟨se, sc, si⟩) rfl rfl ?c1 ?c2 ?c3 ?c4 ?c5 ?_))
      case c1 =>
        intro q u hu
        have := cells_new (w2.alloc (.cells #[.int .i64 se, .int .i64 sc, .int .i64 si] 45)) (encL ⟨se, sc, si⟩) 45 q u hu
        rw [World.size_alloc] at this
        exact this
      case c2 => intro u hu; simp [encL] at hu; rcases hu with rfl | rfl | rfl <;> rfl
      case c3 => unfold maxLen; omega
      case c4 => omega
      case c5 => have := HSz.out; simp; omega
      intro v' w4 hown' hgrow hnil hblk
      have hob := own_above (HO2.out (.cells #[] 0) (.cells #[] 0))
      have ht4 : Turned u3.ownBlock.toList w2 w4 := ((((Turned.refl [] w2).alloc _).alloc _).nil_mono).grown hgrow fun k' hk' => .inl (by rw [hk']; simp)
      have hab : ∀ i, i ∈ u3.ownBlock.toList → w.heap.size + 1 ≤ i := fun i hi => by
        cases e : u3.ownBlock with
        | none => rw [e] at hi; simp at hi
        | some c => rw [e] at hi; simp at hi; have := hob c e; omega
      have hit4 : IterIs Tryz.prog 45 encS w4 w.heap.size b M (done ++ [(⟨se, sc, si⟩, v)]) := HI2.out.turned ht4 (fun hm => by have := hab _ hm; omega) (fun hm => by have := hab _ hm; omega)
      have hb4 : Below w.heap.size w w4 := Turned.below_of HB2.out ht4 fun i hi => by have := hab _ hi; omega
      have hfl : flat xs ++ encL ⟨se, sc, si⟩ = flat (xs ++ [⟨se, sc, si⟩]) := by unfold flat; simp
      rw [hfl] at hown'
      obtain ⟨g, cap, rfl, hg, hnc, hcap, hrow, _⟩ := RowG.of_owns hown' (Nat.succ_pos _)
      have HG : Hid (w.heap.size + 1 ≤ g ∧ cap ≤ maxLen) := ⟨hg, hcap⟩
      rw [← insAt_end, HNx.out, HK.out] at hrow
      rw [HK.out] at hit4
      have S0 : Hid (SoI w w4 b M (done ++ [(k, v)]) g cap xs k nx) := ⟨hit4, hrow, fun y hy => by rw [List.drop_of_length_le (by rw [HNx.out]; omega)] at hy; simp at hy, hb4⟩
      obtain ⟨m, hm⟩ : ∃ m, nx + 1 = m := ⟨_, rfl⟩
      rw [hm]
      rw [hm] at hnc
      have HM := Lib.hid hm
      have hwm : IntKind.i64.wrap ((m : Int) - 1) = (nx : Nat) := by rw [IntWalk.i64_in _ (by omega)]; omega
      have hm1 : m ≤ 1048576 := by omega
      have HEx : Hid (∀ wr' p, p ≤ nx → SoI w wr' b M (done ++ [(k, v)]) g cap xs k p → (p = 0 ∨ ∃ q, p = q + 1 ∧ ∃ hq : q < xs.length, ltB k xs[q] = false) → SoR w wr' b M (.slice (some ⟨g, 0, none⟩) m cap) ∧ leftIn wr' w.heap.size b < leftIn wr0 w.heap.size b) := fun wr' p hp h h1 => ⟨h.done (by rw [HNx.out]; exact hp) HPm.out.2.1 HPm.out.1 h1 HG.out.1 HG.out.2 (by rw [HNx.out]; exact HM.out.symm), by
        rw [iter_left h.it, HLt.out.1]
        have := HLt.out.2
        simp; omega⟩
      clear hown' hgrow hnil hblk hob ht4 hab hit4 hb4 hfl hg hcap hrow hm HO2 HI2 HB2 HLt
      go_wp2
      go_loopw [5] (fun pv wr => ∃ p : Nat, p ≤ nx ∧ pv = .int .i64 p ∧ Hid (SoI w wr b M (done ++ [(k, v)]) g cap xs k p)) (fun pv _ => (intOf pv).toNat)
      case atStart => exact ⟨nx, Nat.le_refl _, rfl, S0.out⟩
      case round =>
        obtain ⟨p, hp, rfl, hB⟩ := hrel
        clear S0
        by_cases h0 : p = 0
        · subst h0
          have HE : Hid (∀ n, SoR w (wr.drewN n) b M (.slice (some ⟨g, 0, none⟩) m cap) ∧ leftIn (wr.drewN n) w.heap.size b < leftIn wr0 w.heap.size b) := fun n => HEx.out _ 0 hp (hB.out.calm ((Turned.refl [] wr).drewN n).below) (.inl rfl)
          clear HEx hB
          rw [show ((0 : Nat) : Int) = 0 from rfl]
          go_upto_region 7 with fail
          go_quiet (fail)
          go_wp2
          go_roundw
          all_goals first | exact (HE.out _).1 | exact (HE.out _).2
        · obtain ⟨q, hpq⟩ : ∃ q, p = q + 1 := ⟨p - 1, by omega⟩
          have hqx : q < xs.length := by rw [HNx.out]; omega
          obtain ⟨y, hy⟩ : ∃ y, xs[q] = y := ⟨_, rfl⟩
          have hp0 : decide ((0 : Int) < (p : Int)) = true := by simp; omega
          have hp1 : decide (0 < p) = true := by simp; omega
          have hwp : IntKind.i64.wrap ((p : Int) - 1) = (q : Nat) := by rw [IntWalk.i64_in _ (by omega)]; omega
          have hpm : p < m := by have := HM.out; omega
          have hqm : q < m := by omega
          have hqp : q < p := by omega
          obtain ⟨R, hR⟩ : ∃ R, ltB k y = R := ⟨_, rfl⟩
          have hcl : ∀ wv, Below wr.heap.size wr wv → SoI w wv b M (done ++ [(k, v)]) g cap xs k p := fun wv hb => hB.out.calm hb
          have HC : Hid (∀ wv, Below wr.heap.size wr wv → wv.cell? ⟨g, p * 3, none⟩ = some (.int .i64 k.e) ∧ wv.cell? ⟨g, p * 3 + 1, none⟩ = some (.int .i64 k.c) ∧ wv.cell? ⟨g, p * 3 + 2, none⟩ = some (.int .i64 k.i) ∧ wv.cell? ⟨g, q * 3, none⟩ = some (.int .i64 y.e) ∧ wv.cell? ⟨g, q * 3 + 1, none⟩ = some (.int .i64 y.c) ∧ wv.cell? ⟨g, q * 3 + 2, none⟩ = some (.int .i64 y.i)) := fun wv hb => (hcl wv hb).cells hpq hqx hy
          have HFz : Hid (∀ wv, Below wr.heap.size wr wv → ∀ j, wv.frozen? ⟨g, j, none⟩ = false) := fun wv hb j => (hcl wv hb).row.frozen j
          have CB : Hid (∀ ww, Calls Tryz.prog 49 #[.agg #[.int .i64 k.e, .int .i64 k.c, .int .i64 k.i], .agg #[.int .i64 y.e, .int .i64 y.c, .int .i64 y.i]] ww fun e w' => e = .returned (.bool R) ∧ Below ww.heap.size ww w') := fun ww => by
            have := before_fn k y ww
            rw [hR] at this
            exact this
          have HSw : Hid (R = true → ∀ wv, Below wr.heap.size wr wv → SoI w (set3 (set3 wv g p y) g q k) b M (done ++ [(k, v)]) g cap xs k q) := fun hR' wv hb => (hcl wv hb).swap hpq hqx hy (by rw [hR, hR']) HG.out.1 hbl
          have HE : Hid (R = false → ∀ wv, Below wr.heap.size wr wv → SoR w wv b M (.slice (some ⟨g, 0, none⟩) m cap) ∧ leftIn wv w.heap.size b < leftIn wr0 w.heap.size b) := fun hR' wv hb => HEx.out wv p hp (hcl wv hb) (.inr ⟨q, hpq, hqx, by rw [hy, hR, hR']⟩)
          have HSet : Hid (∀ wv, Below wr.heap.size wr wv → (∃ z0 z1 z2, (set3 wv g p y).cell? ⟨g, q * 3, none⟩ = some z0 ∧ (set3 wv g p y).cell? ⟨g, q * 3 + 1, none⟩ = some z1 ∧ (set3 wv g p y).cell? ⟨g, q * 3 + 2, none⟩ = some z2) ∧ ∀ j, (set3 wv g p y).frozen? ⟨g, j, none⟩ = false) := fun wv hb => by
            have hrw : RowG (set3 wv g p y) g cap ((insAt xs k p).set p y) := (hcl wv hb).row.set p (by rw [insAt_len]; omega) y
            obtain ⟨z0, z1, z2⟩ := hrw.cells q (by rw [List.length_set, insAt_len]; omega)
            exact ⟨⟨_, _, _, z0, z1, z2⟩, hrw.frozen⟩
          obtain ⟨ke, kc, ki⟩ := k
          obtain ⟨ye, yc, yi⟩ := y
          simp only at HC CB HSw
          obtain ⟨c0, c1, c2, d0, d1, d2⟩ := HC.out wr (Below.refl _ wr)
          clear HEx hB hcl hqx hy hR h0 hpq
          go_upto_region 7 with fail
          go_region_held3 (fun w' => w'.cell? ⟨g, p * 3, none⟩ = some (.int .i64 ke) ∧ w'.cell? ⟨g, p * 3 + 1, none⟩ = some (.int .i64 kc) ∧ w'.cell? ⟨g, p * 3 + 2, none⟩ = some (.int .i64 ki) ∧ w'.cell? ⟨g, q * 3, none⟩ = some (.int .i64 ye) ∧ w'.cell? ⟨g, q * 3 + 1, none⟩ = some (.int .i64 yc) ∧ w'.cell? ⟨g, q * 3 + 2, none⟩ = some (.int .i64 yi)) (first | exact K6.out | go_keep)
            (first
              | (go_at_call 49; ((with_reducible refine (CB.out _).mono ?_); rintro e w5 ⟨rfl, hb5⟩; have HB5 := Lib.hid (((Turned.refl [] wr).drew.below).trans (hb5.mono (Nat.le_refl _))); have K6 := Lib.hid (HC.out _ HB5.out); clear hb5)))
          all_goals
            cases R
            · obtain ⟨hE1, hE2⟩ := HE.out rfl _ HB5.out
              have HE1 := Lib.hid hE1
              have HE2 := Lib.hid hE2
              clear hE1 hE2 HE HSw HC CB K6 HB5 HFz
              go_wp2
              go_roundw
              all_goals first | exact HE1.out | exact HE2.out
            · have HS2 := Lib.hid (HSw.out rfl)
              clear HE HSw c0 c1 c2 d0 d1 d2
              obtain ⟨e0, e1, e2, f0, f1, f2⟩ := K6.out
              go_upto_region 10 with fail
              have hb6 : Below wr.heap.size wr (w5.alloc (.cells #[.int .i64 ke, .int .i64 kc, .int .i64 ki] 45)) := HB5.out.alloc HB5.out.size _
              have hnew := fun j u hu => cells_new w5 [.int .i64 ke, .int .i64 kc, .int .i64 ki] 45 j u hu
              have x0 := hnew 0 _ rfl
              have x1 := hnew 1 _ rfl
              have x2 := hnew 2 _ rfl
              rw [addr_add_none, Nat.zero_add] at x0 x1 x2
              have hgx : g ≠ w5.heap.size := fun e => by
                have h1 := (HS2.out _ HB5.out).row.lt
                have h2 := (((set3_turned w5 g p ⟨ye, yc, yi⟩).trans (set3_turned _ g q ⟨ke, kc, ki⟩))).size
                have h3 : g < w5.heap.size := lt_of_cell e0
                omega
              have hS6 := HS2.out _ hb6
              clear hnew e0 e1 e2 f0 f1 f2
              obtain ⟨e0, e1, e2, f0, f1, f2⟩ := HC.out _ hb6
              have fz := HFz.out _ hb6
              generalize w5.alloc (.cells #[.int .i64 ke, .int .i64 kc, .int .i64 ki] 45) = w6 at *
              generalize w5.heap.size = xb at *
              have y0 := x0
              have y1 := x1
              have y2 := x2
              have HS6 := Lib.hid hS6
              have HX7 : Hid (∀ c v, w6.cell? ⟨xb, c, none⟩ = some v → (set3 w6 g p ⟨ye, yc, yi⟩).cell? ⟨xb, c, none⟩ = some v) := fun c v hv => (set3_turned w6 g p ⟨ye, yc, yi⟩).cell hv (by simpa using hgx.symm)
              have H7 := Lib.hid (HSet.out w6 hb6)
              clear hb6 hS6 HS2 HC HFz K6 CB HSet
              clear x0 x1 x2
              have x0 := HX7.out 0 _ y0
              have x1 := HX7.out 1 _ y1
              have x2 := HX7.out 2 _ y2
              clear HX7 y0 y1 y2
              go_upto_region 11 with fail
              have e7 : ((w6.setCell ⟨g, p * 3, none⟩ (.int .i64 ye)).setCell ⟨g, p * 3 + 1, none⟩ (.int .i64 yc)).setCell ⟨g, p * 3 + 2, none⟩ (.int .i64 yi) = set3 w6 g p ⟨ye, yc, yi⟩ := rfl
              rw [e7]
              clear e7 e0 e1 e2 f0 f1 f2 fz
              generalize set3 w6 g p ⟨ye, yc, yi⟩ = w7 at *
              obtain ⟨⟨z0, z1, z2, e0, e1, e2⟩, fz⟩ := H7.out
              unfold set3 at HS6
              simp only at HS6
              go_wp2
              go_roundw
              all_goals first | exact ⟨q, by omega, by go_num, HS6.out⟩ | (simp [intOf]; omega)
end Go.Proofs.YtmpbhoijkcanmaaGreat.R

/- Roots: versions, a list that is kept, and a map of counts beside them. -/
namespace Go.Proofs.YtmpbhoijkcanmaaGreat.R
open Go.ChangeShapes Go.WideShapes Go.ChangeAt Go.RowKit Go.Maps Go.Proofs.YtmpbhoijkcanmaaGreat.G
set_option linter.unusedVariables false
set_option linter.unusedSimpArgs false
set_option linter.unnecessarySimpa false

variable {w ww w' : World} {rb hb L L' T n : Nat} {R R' : Ro} {F G : Fo} {K K1 K2 Kx : List (Nat × Obj)} {H H' : List (Nat × Value)}
theorem owns_le2 {w : World} {base n sz : Nat} {t : TypeId} {v : Value} {xs : List Value} (h : w.ownsRow base t sz v n xs) : n ≤ maxLen := by
  rcases h.2 with ⟨_, rfl⟩ | ⟨g, cap, cur, _, _, _, h1, h2, _⟩
  · decide
  · omega
/-- a block beside it changes -/
theorem RtM.upd {b : Nat} {o o' : Obj} (h : RtM w ww rb L R F (K1 ++ (b, o) :: K2)) (hb : w.heap.size ≤ b) (t : Turned [b] ww w') (ho : w'.heap[b]? = some o') : RtM w w' rb L R F (K1 ++ (b, o') :: K2) := by
  have hat := fun x hx => RtM.at (x := x) h hx
  have hnd := h.nodup
  have hbel := h.bel
  obtain ⟨f, mb, mo, blk, h⟩ := h
  obtain ⟨Ka, c1, c2, c3⟩ := h.cv
  have ek : keysK (K1 ++ (b, o) :: K2) = keysK K1 ++ b :: keysK K2 := by unfold keysK; simp
  have ek' : keysK (K1 ++ (b, o') :: K2) = keysK K1 ++ b :: keysK K2 := by unfold keysK; simp
  rw [ek] at hnd c3
  have hnd2 := hnd
  rw [List.nodup_append, List.nodup_cons] at hnd2
  refine c1.make w' _ (Turned.below_of hbel t (by simpa using hb)) (fun x hx => t.at (c2 x hx) ?_) (fun x hx => ?_) (by rw [ek']; exact hnd) fun c hc hm => ?_
  · have hm : x.1 ∈ keysK Ka := mem_keysK.2 ⟨_, hx⟩
    have := c3 _ hm
    simp only [List.mem_append, List.mem_cons, not_or] at this
    simpa using this.2.1
  · rcases List.mem_append.1 hx with hx | hx
    · refine t.at (hat x (List.mem_append.2 (.inl hx))) ?_
      have h1 := hnd2.2.2 x.1 (mem_keysK.2 ⟨_, hx⟩) b List.mem_cons_self
      simpa using h1
    · rcases List.mem_cons.1 hx with rfl | hx
      · exact ho
      · refine t.at (hat x (List.mem_append.2 (.inr (List.mem_cons_of_mem _ hx)))) ?_
        have h1 := hnd2.2.1.1
        simp only [List.mem_singleton]
        exact fun e => h1 (e ▸ mem_keysK.2 ⟨_, hx⟩)
  · rw [ek'] at hc
    exact c3 c hm hc
/-- versions, blocks beside them, a map of counts -/
def StK (w wr : World) (rb hb L : Nat) (R : Ro) (F : Fo) (K1 : List (Nat × Obj)) (H : List (Nat × Value)) : Prop :=
  ∃ ho, w.heap.size ≤ hb ∧ RtM w wr rb L R F (K1 ++ [(hb, ho)]) ∧ ∀ ww : World, ww.heap[hb]? = some ho → MapIs Tryz.prog 23 encU ww hb H
theorem StK.map (h : StK w ww rb hb L R F K1 H) : MapIs Tryz.prog 23 encU ww hb H := by
  obtain ⟨ho, _, h1, h2⟩ := h
  exact h2 ww (h1.at (x := (hb, ho)) (by simp))
theorem StK.calm (h : StK w ww rb hb L R F K1 H) (b : Below ww.heap.size ww w') : StK w w' rb hb L R F K1 H := by
  obtain ⟨ho, h0, h1, h2⟩ := h
  exact ⟨ho, h0, h1.calm b, h2⟩
theorem StK.bel (h : StK w ww rb hb L R F K1 H) : Below w.heap.size w ww := by
  obtain ⟨ho, _, h1, _⟩ := h
  exact h1.bel
theorem StK.at (h : StK w ww rb hb L R F K1 H) {x : Nat × Obj} (hx : x ∈ K1) : ww.heap[x.1]? = some x.2 := by
  obtain ⟨ho, _, h1, _⟩ := h
  exact h1.at (List.mem_append.2 (.inl hx))
theorem StK.call (h : StK w ww rb hb L R F K1 H) : ∃ K, RtM w ww rb L R F K ∧ ∀ w' L' R' G, RtM w w' rb L' R' G K → StK w w' rb hb L' R' G K1 H := by
  obtain ⟨ho, h0, h1, h2⟩ := h
  exact ⟨_, h1, fun w' L' R' G h => ⟨ho, h0, h, h2⟩⟩
theorem StK.put (h : StK w ww rb hb L R F K1 H) (t : Turned [hb] ww w') (m : MapIs Tryz.prog 23 encU w' hb H') : StK w w' rb hb L R F K1 H' := by
  obtain ⟨ho, h0, h1, h2⟩ := h
  obtain ⟨o', ho'⟩ := at_some m.lt
  exact ⟨o', h0, h1.upd h0 t ho', fun ww hw => m.kept (by rw [hw, ho'])⟩
theorem StK.sub (h : StK w ww rb hb L R F K1 H) (hs : ∀ x, x ∈ K2 → x ∈ K1) (hn : (keysK K2).Nodup) : StK w ww rb hb L R F K2 H := by
  obtain ⟨ho, h0, h1, h2⟩ := h
  refine ⟨ho, h0, h1.sub (fun x hx => ?_) ?_, h2⟩
  · rcases List.mem_append.1 hx with hx | hx
    · exact List.mem_append.2 (.inl (hs x hx))
    · exact List.mem_append.2 (.inr hx)
  · have hnd := h1.nodup
    have e1 : keysK (K1 ++ [(hb, ho)]) = keysK K1 ++ [hb] := by unfold keysK; simp
    have e2 : keysK (K2 ++ [(hb, ho)]) = keysK K2 ++ [hb] := by unfold keysK; simp
    rw [e1, List.nodup_append] at hnd
    rw [e2, List.nodup_append]
    refine ⟨hn, hnd.2.1, fun x hx y hy => hnd.2.2 x ?_ y hy⟩
    obtain ⟨o, ho⟩ := mem_keysK.1 hx
    exact mem_keysK.2 ⟨o, hs _ ho⟩
theorem StK.nodup (h : StK w ww rb hb L R F K1 H) : (keysK K1).Nodup := by
  obtain ⟨ho, _, h1, _⟩ := h
  have hnd := h1.nodup
  have e1 : keysK (K1 ++ [(hb, ho)]) = keysK K1 ++ [hb] := by unfold keysK; simp
  rw [e1, List.nodup_append] at hnd
  exact hnd.1
theorem StK.row (h : StK w ww rb hb L R F K1 H) (b : Below ww.heap.size ww w') {n sz : Nat} {t : TypeId} {v : Value} {xs : List Value} (r : w'.ownsRow ww.heap.size t sz v n xs) : ∃ K2, StK w w' rb hb L R F (K2 ++ K1) H ∧ RowO K2 w.heap.size t sz v n xs := by
  obtain ⟨ho, h0, h1, h2⟩ := h
  obtain ⟨K2, h3, h4⟩ := h1.row b r
  exact ⟨K2, ⟨ho, h0, by rw [List.append_assoc]; exact h3, h2⟩, h4⟩
theorem RtM.put (h : RtM w ww rb L R F Kx) (o : Obj) : RtM w (ww.alloc o) rb L R F ((ww.heap.size, o) :: Kx) := by
  obtain ⟨f, mb, mo, blk, h⟩ := h
  exact ⟨f, mb, mo, blk, h.putK o⟩
theorem StK.alloc (h : StK w ww rb hb L R F K1 H) (o : Obj) : StK w (ww.alloc o) rb hb L R F ((ww.heap.size, o) :: K1) H := by
  obtain ⟨ho, h0, h1, h2⟩ := h
  exact ⟨ho, h0, h1.put o, h2⟩
/-- the beginning -/
theorem StK.start {w1 : World} (h : RtM w w1 rb L R F []) : StK w (w1.alloc (.map #[] 0)) rb w1.heap.size L R F [] [] := by
  have hm : MapIs Tryz.prog 23 encU (w1.alloc (.map #[] 0)) w1.heap.size ([] : List (Nat × Value)) := MapIs.made w1
  have hat : (w1.alloc (.map #[] 0)).heap[w1.heap.size]? = some (.map #[] 0) := World.alloc_heap_new w1 _
  exact ⟨_, h.bel.size, h.put _, fun ww hw => hm.kept (by rw [hw, hat])⟩
/-- changes that are handed in are copied, in a drawn region -/
theorem step_append_chs {w : World} {ops : Array Oper} {o : Oper} {a : Act} {KK : Act → World → Prop} {Q : Exit → Act → World → Prop} {E : Prop} (hgd : o.guard = none) (s x : Operand)
    (ho : o.op = .call { callee := .builtin .append, args := #[s, x], argTypes := #[31, 31] }) (base : Nat) (v : Value) (hs : a.eval s = v) (hown : w.ownsRow base 64 6 v 0 [])
    (ad : Option Addr) (len cap : Nat) (l : List ChD) (hx : a.eval x = .slice ad len cap) (hl : ChsAt w ad len l) (hc : ad = none → cap = 0) (hn : len ≤ 1048576) (hbase : base ≤ w.heap.size)
    (h : ∀ v' w', w'.ownsRow base 64 6 v' len (l.flatMap encCh) → w.grownBy w' v.ownBlock → KK (a.put o.dst v') w') : if Region.wanted o (yielded ops a.tmps) = true then Oper.wp Tryz.prog o a w KK Q else E := by
  obtain ⟨i0, hi, hz0, hz1, hz2⟩ := info_parts infoChg
  cases ad with
  | none =>
    have hl0 : len = 0 := by
      rcases hl.2 with h0 | ⟨b, off, e, _⟩
      · exact h0
      · cases e
    subst hl0
    obtain rfl := hc rfl
    obtain rfl : l = [] := List.length_eq_zero_iff.1 hl.1
    have hw : Region.wanted o (yielded ops a.tmps) = true := by simp [Region.wanted, hgd]
    rw [if_pos hw]
    have hrun := run_append_owned_none (P := Tryz.prog) (w := w) base 31 o.type 64 i0 6 Tryz.underlying31 hi v 0 [] hown
    unfold Oper.wp execOp
    simp only [ho, resolve, invoke, builtin, Sem.run_bind, Sem.run_pure, Result.andThen_ok, List.map_toArray, List.map_cons, List.map_nil, hs, hx, hrun]
    exact h v w hown ⟨rfl, rfl, rfl, Nat.le_refl _, fun k _ _ => rfl⟩
  | some p =>
    refine step_append_at hgd s x 31 ho base 64 i0 _ 6 48 Tryz.underlying31 hi hz0 hz1 hz2 rfl (by decide) v 0 [] hs hown p len cap (l.flatMap encCh) hx (by rw [flatC_len, hl.1]) (chs_cells hl) (encCh_one l) (by unfold maxLen; omega) (by omega) hbase (fun v' w' h1 h2 _ => h v' w' (by rw [Nat.zero_add, List.nil_append] at h1; exact h1) h2)
theorem le_allocd3 (w : World) (o : Obj) : w.heap.size ≤ (w.alloc o).drew.heap.size := by simp
theorem below_app3 {w w4 : World} {o : Obj} (h : (w.alloc o).drew.grownBy w4 (some w.heap.size)) : Below w.heap.size w w4 :=
  Turned.below (((((Turned.refl [] w).alloc o).drew).grown h) fun k e => .inr (by simp only [Option.some.injEq] at e; omega))
theorem owns_emptyc (w : World) : (w.alloc (.cells #[] 64)).drew.ownsRow w.heap.size 64 6 (.slice (some ⟨w.heap.size, 0, none⟩) 0 0) 0 [] := owns_empty w 64 6
theorem stk_now (h : StK w ww rb hb L R F K1 H) : Calls Tryz.prog 9 #[.pointer (some ⟨rb, 0, none⟩)] ww fun e w' => e = .returned (.int .u64 (R.now : Nat)) ∧ ww = w' := by
  obtain ⟨K, ⟨f, mb, mo, blk, h1⟩, _⟩ := h.call
  exact rnow_fn h1
theorem stk_all (h : StK w ww rb hb L R F K1 H) (hR : RoOk R F T) (hL : L ≤ 2 ^ 34) (hn : n < 2 ^ 64) {v : Vr} (hv : vget R.vs n = some v) : Calls Tryz.prog 18 #[.pointer (some ⟨rb, 0, none⟩), .int .u64 (n : Nat)] ww (rallPost ww (mapL F v.root)) := by
  obtain ⟨K, ⟨f, mb, mo, blk, h1⟩, _⟩ := h.call
  exact rall_yes h1 hL hn hv (hR.root hv)
theorem stk_hold (h : StK w ww rb hb L R F K1 H) (hn : n < 2 ^ 64) {v : Vr} (hv : vget R.vs n = some v) (hs : v.held ≤ 2 ^ 40) : Calls Tryz.prog 21 #[.pointer (some ⟨rb, 0, none⟩), .int .u64 (n : Nat)] ww fun e w' => e = .returned (.int .i64 0) ∧ StK w w' rb hb L ⟨vset R.vs n ⟨v.root, v.held + 1⟩, R.now⟩ F K1 H := by
  obtain ⟨K, ⟨f, mb, mo, blk, h1⟩, h2⟩ := h.call
  exact (rhold_yes h1 hn hv hs).mono fun e w' ⟨e1, e2⟩ => ⟨e1, h2 _ _ _ _ ⟨f, mb, mo, blk, e2⟩⟩
theorem stk_hold_no (h : StK w ww rb hb L R F K1 H) (hn : n < 2 ^ 64) (hv : vget R.vs n = none) : Calls Tryz.prog 21 #[.pointer (some ⟨rb, 0, none⟩), .int .u64 (n : Nat)] ww fun e w' => e = .returned (.int .i64 3) ∧ ww = w' := by
  obtain ⟨K, ⟨f, mb, mo, blk, h1⟩, h2⟩ := h.call
  exact rhold_no h1 hn hv
/-- what went, as a call tells it: each once, none that is there -/
def GoneP (w w' : World) (rb hb L : Nat) (R' : Ro) (G : Fo) (K1 : List (Nat × Obj)) (H : List (Nat × Value)) (a : Option Addr) (len : Nat) (ys : List Slot) : Prop :=
  StK w w' rb hb L R' G K1 H ∧ Sl3s w' a len ys ∧ len ≤ maxLen ∧ ys.Nodup ∧ ∀ s, s ∈ ys → s.ok ∧ ¬ HasS G s
theorem stk_rel {hd : Nat} (h : StK w ww rb hb L R F K1 H) (hR : RoOk R F T) (hF : Ok F L) (hL : L ≤ 2 ^ 34) (hn : n < 2 ^ 64) {v : Vr} (hv : vget R.vs n = some v) (hh : v.held = hd + 1) (hs : v.held ≤ 2 ^ 40) :
    Calls Tryz.prog 22 #[.pointer (some ⟨rb, 0, none⟩), .int .u64 (n : Nat)] ww fun e w' => ∃ (a : Option Addr) (len cap : Nat) (R' : Ro) (G : Fo) (ys : List Slot), e = .returned (.tuple #[.slice a len cap, .int .i64 0]) ∧ RelIs R F n v hd T R' G L ys ∧ GoneP w w' rb hb L R' G K1 H a len ys := by
  obtain ⟨K, ⟨f, mb, mo, blk, h1⟩, h2⟩ := h.call
  refine (rrel_yes h1 hL hn hR.keys hv hh hs (hR.root hv)).mono fun e w' ⟨a, len, cap, R', G, ys, mo', e1, e2, e3, e4, e5⟩ => ?_
  have hr := rel_is hR hF hv hh e3
  obtain ⟨a2, cap2, e6, h6, _⟩ := sl3s_of_owns e4
  simp only [Value.slice.injEq] at e6
  obtain ⟨rfl, -, rfl⟩ := e6
  exact ⟨a, len, cap, R', G, ys, e2, hr, h2 _ _ _ _ ⟨f, mb, mo', blk, e5⟩, h6, owns_le2 e4, hr.gone.nodup, fun s hs => ⟨HasS.ok hF ((hr.gone.mem s).1 hs).1, ((hr.gone.mem s).1 hs).2⟩⟩
/-- changes of one's own, made since -/
theorem stk_pub {w1 : World} {l : List ChD} (h : StK w w1 rb hb L R F K1 H) (hR : RoOk R F T) (hT : T ≤ 2 ^ 34) (hL : L ≤ 2 ^ 33) {a : Option Addr} {len cap : Nat} (b : Below w1.heap.size w1 ww) (hrow : ww.ownsRow w1.heap.size 64 6 (.slice a len cap) len (l.flatMap encCh))
    (hok : ∀ x, x ∈ l → x.ok) (hn : len ≤ 1048576) (hval : ∀ x, x ∈ l → x.val) {v : Vr} (hv : vget R.vs R.now = some v) :
    Calls Tryz.prog 20 #[.pointer (some ⟨rb, 0, none⟩), .int .u64 (R.now : Nat), .slice a len cap] ww fun e w' => ∃ (a' : Option Addr) (len' cap' : Nat) (R' : Ro) (G : Fo) (ys : List Slot), e = .returned (.tuple #[.int .u64 ((R.now + 1 : Nat) : Int), .slice a' len' cap', .int .i64 0]) ∧ PubIs R F v l T R' G (L + 1 + 3 * l.length) ys ∧ GoneP w w' rb hb (L + 1 + 3 * l.length) R' G K1 H a' len' ys := by
  obtain ⟨K, h1, h2⟩ := h.call
  have hnd := h1.nodup
  obtain ⟨K2, h3, r3⟩ := h1.row b hrow
  obtain ⟨f, mb, mo, blk, h3⟩ := h3
  refine (rpub_ok h3 hR hT hL a len cap l (chsK_row r3 (fun x hx => List.mem_append.2 (.inl hx)) rfl) hok hn hval hv).mono fun e w' ⟨a', len', cap', F', r, R', G, ys, e1, e2, e3, e4, e4', e5, e6, e7⟩ => ?_
  have hp := pub_is hR hv e3 e4 e5
  obtain ⟨a2, cap2, e8, h8, _⟩ := sl3s_of_owns e6
  simp only [Value.slice.injEq] at e8
  obtain ⟨rfl, -, rfl⟩ := e8
  refine ⟨a', len', cap', R', G, ys, e2, hp, h2 _ _ _ _ (e7.sub (fun x hx => List.mem_append.2 (.inr hx)) hnd), h8, owns_le2 e6, hp.gone.1.nodup, fun s hs => ⟨?_, hp.gone.2 s hs⟩⟩
  rcases e5 with ⟨_, _, _, rfl⟩ | ⟨_, _, d⟩
  · cases hs
  · exact HasS.ok e3 ((d.gone.mem s).1 hs).1
theorem stk_pub_bad {w1 : World} {l : List ChD} (h : StK w w1 rb hb L R F K1 H) {a : Option Addr} {len cap : Nat} (b : Below w1.heap.size w1 ww) (hrow : ww.ownsRow w1.heap.size 64 6 (.slice a len cap) len (l.flatMap encCh))
    (hok : ∀ x, x ∈ l → x.ok) (hn : len ≤ maxLen) (hval : ¬ ∀ x, x ∈ l → x.val) :
    Calls Tryz.prog 20 #[.pointer (some ⟨rb, 0, none⟩), .int .u64 (R.now : Nat), .slice a len cap] ww fun e w' => e = .returned (.tuple #[.int .u64 0, .slice none 0 0, .int .i64 2]) ∧ GoneP w w' rb hb L R F K1 H none 0 [] := by
  have hc := h.calm b
  obtain ⟨K, ⟨f, mb, mo, blk, h1⟩, h2⟩ := hc.call
  obtain ⟨a', cap', e, hat⟩ := chsAt_of hrow
  simp only [Value.slice.injEq] at e
  obtain ⟨rfl, -, rfl⟩ := e
  exact (rpub_loop h1 a len cap l hat hok hn hval).mono fun e w' ⟨e1, e2⟩ => ⟨e1, hc.calm e2, ⟨rfl, .inl rfl⟩, by decide, List.nodup_nil, fun s hs => by cases hs⟩
theorem stk_slots (h : StK w ww rb hb L R F K1 H) (hL : L ≤ 2 ^ 34) : Calls Tryz.prog 14 #[.pointer (some ⟨rb, 0, none⟩)] ww fun e w' => ∃ (a : Option Addr) (len cap : Nat) (zs : List Slot), e = .returned (.slice a len cap) ∧ SlotsIs (HasS F) zs ∧ Sl3s w' a len zs ∧ len ≤ maxLen ∧ Below ww.heap.size ww w' := by
  obtain ⟨K, ⟨f, mb, mo, blk, h1⟩, _⟩ := h.call
  refine (rslots_fn h1 hL).mono fun e w' ⟨v, zs, e1, e2, e3, e4⟩ => ?_
  have hle := owns_le2 e3
  obtain ⟨a, cap, rfl, h5, _⟩ := sl3s_of_owns e3
  exact ⟨a, _, cap, zs, e1, e2, h5, hle, e4⟩
end Go.Proofs.YtmpbhoijkcanmaaGreat.R

/- Versions of both kinds: the plain law. -/
namespace Go.Proofs.YtmpbhoijkcanmaaGreat.R
set_option linter.unusedVariables false
set_option linter.unusedSimpArgs false
set_option linter.unnecessarySimpa false

variable {R R' : Ro} {F F' G : Fo} {L L' L0 T n k : Nat} {v : Vr} {l : List ChD} {ys : List Slot} {E : List XE} {e : XE}
/-- what went, exactly -/
theorem pub_gone {r : Nat} (h : RoOk R F T) (k0 : Ok F L0) (hv : vget R.vs R.now = some v) {l : List ChD} (k : Ok F' L) (p : PuP R.vs F F' r (chgs (getL 2 F v.root) l)) (s : Sw ⟨R.vs ++ [(R.now + 1, ⟨r, 0⟩)], R.now + 1⟩ F' L R.now v R' G ys) : SlotsIs (fun s => HasS F s ∧ ¬ HasS G s) ys := by
  have hnk : R.now + 1 ∉ keysV R.vs := fun hm => by have := h.le _ hm; omega
  have hke : keysV (R.vs ++ [(R.now + 1, (⟨r, 0⟩ : Vr))]) = keysV R.vs ++ [R.now + 1] := by unfold keysV; simp
  have hp1 : RoPre ⟨R.vs ++ [(R.now + 1, ⟨r, 0⟩)], R.now + 1⟩ F' (T + 1) := by
    refine ⟨?_, fun m hm => ?_, ?_, fun i h0 => ?_, ?_, fun x hx => ?_⟩
    · show (keysV (R.vs ++ [(R.now + 1, (⟨r, 0⟩ : Vr))])).Nodup
      rw [hke, List.nodup_append]
      exact ⟨h.keys, by simp, fun a ha b hb e => by simp only [List.mem_singleton] at hb; subst hb; subst e; exact hnk ha⟩
    · have hm : m ∈ keysV (R.vs ++ [(R.now + 1, (⟨r, 0⟩ : Vr))]) := hm
      rw [hke] at hm
      rcases List.mem_append.1 hm with hm | hm
      · have := h.le m hm; show m ≤ R.now + 1; omega
      · simp only [List.mem_singleton] at hm; subst hm; exact Nat.le_refl _
    · show R.now + 1 ∈ keysV (R.vs ++ [(R.now + 1, (⟨r, 0⟩ : Vr))])
      rw [hke]; simp
    · rw [p.held i h0]
      show _ = (rootsV (R.vs ++ [(R.now + 1, (⟨r, 0⟩ : Vr))])).count i
      unfold rootsV
      rw [List.map_append, List.count_append]
      congr 1
      simp only [List.map_cons, List.map_nil, List.count_singleton]
      by_cases e : i = r
      · subst e; simp
      · rw [if_neg e, if_neg (by simpa using Ne.symm e)]
    · have := h.small.1; show R.now + 1 ≤ T + 1; omega
    · rcases List.mem_append.1 hx with hx | hx
      · have := h.small.2 x hx; omega
      · simp only [List.mem_singleton] at hx; subst hx; exact Nat.zero_le _
  have hv1 : vget (R.vs ++ [(R.now + 1, (⟨r, 0⟩ : Vr))]) R.now = some v := vget_append_old hv
  obtain ⟨q1, q2, q3, q4, q5, q6, q7⟩ := Sw.pre hp1 hv1 s k
  have hnew : (R.now + 1, (⟨r, 0⟩ : Vr)) ∈ R'.vs := q5 _ (by simp) (by simp)
  have toF' : ∀ s, HasS F s → HasS F' s := fun s hs => by
    obtain ⟨x, hx, q, hq, en, he, hs⟩ := (slots_iff h.pre k0 s).1 hs
    exact (slots_iff hp1 k s).2 ⟨x, List.mem_append.2 (.inl hx), q, hq, en, by rw [p.old x hx q]; exact he, hs⟩
  have toF : ∀ s, HasS F' s → ¬ HasS G s → HasS F s := fun s hs hg => by
    obtain ⟨x, hx, q, hq, en, he, hs⟩ := (slots_iff hp1 k s).1 hs
    rcases List.mem_append.1 hx with hx | hx
    · exact (slots_iff h.pre k0 s).2 ⟨x, hx, q, hq, en, by rw [← p.old x hx q]; exact he, hs⟩
    · simp only [List.mem_singleton] at hx; subst hx
      exact absurd ((slots_iff q1 q2 s).2 ⟨_, hnew, q, hq, en, by rw [q6 _ hnew q]; exact he, hs⟩) hg
  rcases s with ⟨_, _, rfl, rfl⟩ | ⟨_, _, d⟩
  · exact ⟨fun s => ⟨fun h => (by cases h), fun h => absurd (toF' s h.1) h.2⟩, List.nodup_nil, List.Pairwise.nil⟩
  · exact ⟨fun s => ⟨fun hm => ⟨toF s ((d.gone.mem s).1 hm).1 ((d.gone.mem s).1 hm).2, ((d.gone.mem s).1 hm).2⟩, fun hc => (d.gone.mem s).2 ⟨toF' s hc.1, hc.2⟩⟩, d.gone.nodup, d.gone.sorted⟩
/-- the same versions, with the same lists, held alike -/
structure Rl (R : Ro) (F : Fo) (L T : Nat) (last : Nat) (E : List XE) : Prop where
  ok : RoOk R F T
  fo : Ok F L
  last : last = R.now
  keys : (E.map (·.n)).Nodup
  fw : ∀ e, e ∈ E → ∃ v, vget R.vs e.n = some v ∧ e.l = mapL F v.root ∧ e.held = v.held
  bk : ∀ n, n ∈ keysV R.vs → ∃ e, e ∈ E ∧ e.n = n
theorem vget_key (h : vget R.vs n = some v) : n ∈ keysV R.vs := List.mem_map_of_mem (f := (·.1)) (vget_some h)
theorem Rl.get (h : Rl R F L T k E) (hv : vget R.vs n = some v) : ∃ e, e ∈ E ∧ e.n = n ∧ e.l = mapL F v.root ∧ e.held = v.held := by
  obtain ⟨e, he, hn⟩ := h.bk n (vget_key hv)
  obtain ⟨u, hu, h1, h2⟩ := h.fw e he
  rw [hn, hv] at hu
  obtain rfl := Option.some.inj hu
  exact ⟨e, he, hn, h1, h2⟩
theorem Rl.no (h : Rl R F L T k E) (hv : vget R.vs n = none) : ∀ e, e ∈ E → e.n ≠ n := fun e he hn => by
  obtain ⟨u, hu, _⟩ := h.fw e he
  rw [hn, hv] at hu
  cases hu
theorem Rl.geto (h : Rl R F L T k E) (hv : vget R.vs n = some v) : ∃ e, eget E n = some e ∧ e ∈ E ∧ e.n = n ∧ e.l = mapL F v.root ∧ e.held = v.held := by
  obtain ⟨e, he, hn, h1, h2⟩ := h.get hv
  exact ⟨e, by rw [← hn]; exact eget_mem h.keys he, he, hn, h1, h2⟩
theorem Rl.gon (h : Rl R F L T k E) (hv : vget R.vs n = none) : eget E n = none := by
  cases q : eget E n with
  | none => rfl
  | some e => exact absurd (eget_some q).2 (h.no hv e (eget_some q).1)
theorem ehold_n (E : List XE) (n k : Nat) : (ehold E n k).map (·.n) = E.map (·.n) := by
  unfold ehold
  rw [List.map_map]
  exact List.map_congr_left fun e _ => by simp only [Function.comp]; split <;> rfl
/-- the slots that are there -/
def xslot (E : List XE) (s : Slot) : Prop := ∃ e, e ∈ E ∧ s ∈ e.l.map (·.2.s)
theorem in_mapL {r : Nat} {s : Slot} : InMap F r s ↔ s ∈ (mapL F r).map (·.2.s) := by
  rw [List.mem_map]
  constructor
  · rintro ⟨q, hq, e, he, hs⟩
    exact ⟨(q, e), allL_mem.2 ⟨hq, he⟩, hs⟩
  · rintro ⟨⟨q, e⟩, hx, hs⟩
    obtain ⟨hq, he⟩ := allL_mem.1 hx
    exact ⟨q, hq, e, he, hs⟩
theorem Rl.slots (h : Rl R F L T k E) (s : Slot) : HasS F s ↔ xslot E s := by
  rw [slots_iff h.ok.pre h.fo s]
  constructor
  · rintro ⟨x, hx, hm⟩
    obtain ⟨e, he, hn, h1, h2⟩ := h.get (vget_mem h.ok.keys (n := x.1) (v := x.2) hx)
    exact ⟨e, he, by rw [h1]; exact in_mapL.1 hm⟩
  · rintro ⟨e, he, hm⟩
    obtain ⟨u, hu, h1, h2⟩ := h.fw e he
    exact ⟨_, vget_some hu, by rw [h1] at hm; exact in_mapL.2 hm⟩
theorem Rl.hold (h : Rl R F L T k E) (hv : vget R.vs n = some v) : Rl ⟨vset R.vs n ⟨v.root, v.held + 1⟩, R.now⟩ F L (T + 1) k (ehold E n (v.held + 1)) := by
  refine ⟨h.ok.hold hv, h.fo, h.last, by rw [ehold_n]; exact h.keys, fun e he => ?_, fun m hm => ?_⟩
  · obtain ⟨y, hy, q1, q2, q3, q4, q5⟩ := mem_ehold he
    obtain ⟨u, hu, h1, h2⟩ := h.fw y hy
    by_cases hn : y.n = n
    · rw [if_pos hn] at q5
      rw [hn, hv] at hu
      obtain rfl := Option.some.inj hu
      exact ⟨⟨v.root, v.held + 1⟩, by rw [q1, hn]; exact vget_vset h.ok.keys hv, by rw [q4]; exact h1, q5⟩
    · rw [if_neg hn] at q5
      exact ⟨u, by rw [q1]; exact (vget_iff (by rw [keys_vset]; exact h.ok.keys)).2 (mem_vset.2 (.inr ⟨vget_some hu, hn⟩)), by rw [q4]; exact h1, by rw [q5]; exact h2⟩
  · have hm : m ∈ keysV (vset R.vs n ⟨v.root, v.held + 1⟩) := hm
    rw [keys_vset] at hm
    obtain ⟨e, he, hn⟩ := h.bk m hm
    have : m ∈ (ehold E n (v.held + 1)).map (·.n) := by rw [ehold_n, ← hn]; exact List.mem_map_of_mem (f := fun e : XE => e.n) he
    obtain ⟨x, hx, hxn⟩ := List.mem_map.1 this
    exact ⟨x, hx, hxn⟩
/-- the sweep -/
def esweep (E : List XE) (last n : Nat) : List XE := if n ≠ last ∧ (eget E n).any (fun e => e.held = 0) then edel E n else E
theorem edel_n (E : List XE) (n : Nat) : ((edel E n).map (·.n)).Sublist (E.map (·.n)) := by unfold edel; exact List.filter_sublist.map _
theorem Rl.rel {hd : Nat} (h : Rl R F L T k E) (hv : vget R.vs n = some v) (hh : v.held = hd + 1) (r : RelIs R F n v hd T R' G L ys) : Rl R' G L T k (if n ≠ k ∧ hd = 0 then edel (ehold E n hd) n else ehold E n hd) := by
  have hkk := h.last
  have back : ∀ x, x ∈ ehold E n hd → (x.n = n → n = R.now ∨ 0 < hd) → ∃ v, vget R'.vs x.n = some v ∧ x.l = mapL G v.root ∧ x.held = v.held := fun x hx hc => by
    obtain ⟨y, hy, q1, q2, q3, q4, q5⟩ := mem_ehold hx
    obtain ⟨u, hu, h1, h2⟩ := h.fw y hy
    by_cases hn : y.n = n
    · rw [if_pos hn] at q5
      rw [hn, hv] at hu
      obtain rfl := Option.some.inj hu
      have hm := r.self.2 (hc (q1.trans hn))
      exact ⟨⟨v.root, hd⟩, by rw [q1, hn]; exact (vget_iff r.ok.keys).2 hm, by rw [q4, h1]; exact (mapL_cong (r.maps _ hm)).symm, q5⟩
    · rw [if_neg hn] at q5
      have hm := r.kept _ (vget_some hu) hn
      exact ⟨u, by rw [q1]; exact (vget_iff r.ok.keys).2 hm, by rw [q4, h1]; exact (mapL_cong (r.maps _ hm)).symm, by rw [q5]; exact h2⟩
  have fwd : ∀ m, m ∈ keysV R'.vs → ∃ x, x ∈ ehold E n hd ∧ x.n = m := fun m hm => by
    obtain ⟨x, hx, rfl⟩ := List.mem_map.1 hm
    have : x.1 ∈ keysV R.vs := by
      by_cases e : x.1 = n
      · rw [e]; exact vget_key hv
      · exact List.mem_map_of_mem (f := (·.1)) (r.old x hx e)
    obtain ⟨e, he, hn⟩ := h.bk _ this
    have : x.1 ∈ (ehold E n hd).map (·.n) := by rw [ehold_n, ← hn]; exact List.mem_map_of_mem (f := fun e : XE => e.n) he
    obtain ⟨y, hy, hyn⟩ := List.mem_map.1 this
    exact ⟨y, hy, hyn⟩
  by_cases hc : n ≠ k ∧ hd = 0
  · rw [if_pos hc]
    refine ⟨r.ok, r.fo, hkk.trans r.now.symm, List.Nodup.sublist (edel_n _ _) (by rw [ehold_n]; exact h.keys), fun x hx => ?_, fun m hm => ?_⟩
    · obtain ⟨hx1, hx2⟩ := mem_edel.1 hx
      exact back x hx1 fun e => absurd e hx2
    · obtain ⟨x, hx, hxm⟩ := fwd m hm
      refine ⟨x, mem_edel.2 ⟨hx, fun e => ?_⟩, hxm⟩
      rw [hxm] at e
      subst e
      obtain ⟨y, hy, hym⟩ := List.mem_map.1 hm
      have := r.at_n y hy hym
      rw [this] at hy
      have := r.self.1 hy
      rw [hkk] at hc
      omega
  · rw [if_neg hc]
    exact ⟨r.ok, r.fo, hkk.trans r.now.symm, by rw [ehold_n]; exact h.keys, fun x hx => back x hx fun e => by rw [hkk] at hc; omega, fwd⟩
/-- what comes of changes, one by one -/
def withs (c : List Pr) (l : List ChD) : List Pr := l.foldl (fun c d => withL d.page.toNat d.x d.gone c) c
theorem withs_snoc (c : List Pr) (l : List ChD) (d : ChD) : withs c (l ++ [d]) = withL d.page.toNat d.x d.gone (withs c l) := by unfold withs; rw [List.foldl_append]; rfl
theorem withs_cons (c : List Pr) (d : ChD) (l : List ChD) : withs c (d :: l) = withs (withL d.page.toNat d.x d.gone c) l := rfl
theorem chgs_cons (g : Nat → Option Ent) (d : ChD) (l : List ChD) : chgs g (d :: l) = chgs (chg g d) l := rfl
theorem withs_all (N : Nat) (hN : 4096 ≤ N) : ∀ (l : List ChD) (g : Nat → Option Ent), (∀ x, x ∈ l → x.val) → withs (allL g N) l = allL (chgs g l) N := by
  intro l
  induction l with
  | nil => intro g _; rfl
  | cons d l ih =>
    intro g hv
    have hd : d.val := hv d List.mem_cons_self
    unfold ChD.val at hd
    rw [withs_cons, chgs_cons, withL_all (by omega), ← ih (chg g d) fun x hx => hv x (List.mem_cons_of_mem _ hx)]
    congr 1
    exact allL_congr N fun q hq => (chg_upd _ d d.page.toNat (by omega) q).symm
theorem Rl.pub (h : Rl R F L T k E) (hv : vget R.vs R.now = some v) (p : PubIs R F v l T R' G L' ys) (hl : ∀ x, x ∈ l → x.val) (he : e ∈ E) (hen : e.n = k) {b : Nat} {sv : Value} :
    Rl R' G L' (T + 1) (k + 1) (if e.held = 0 then edel (E ++ [⟨k + 1, b, sv, withs e.l l, 0⟩]) k else E ++ [⟨k + 1, b, sv, withs e.l l, 0⟩]) := by
  have hkk := h.last
  subst hkk
  obtain ⟨u, hu, h1, h2⟩ := h.fw e he
  rw [hen, hv] at hu
  obtain rfl := Option.some.inj hu
  have hnk : ∀ x, x ∈ E → x.n ≠ R.now + 1 := fun x hx hn => by
    obtain ⟨u, hu, _⟩ := h.fw x hx
    have := h.ok.le _ (vget_key hu)
    omega
  have hks : ((E ++ [(⟨R.now + 1, b, sv, withs e.l l, 0⟩ : XE)]).map (fun x : XE => x.n)).Nodup := by
    rw [List.map_append, List.nodup_append]
    refine ⟨h.keys, by simp, fun x hx y hy => ?_⟩
    simp only [List.map_cons, List.map_nil, List.mem_singleton] at hy
    obtain ⟨z, hz, rfl⟩ := List.mem_map.1 hx
    rw [hy]; exact hnk z hz
  have back : ∀ x, x ∈ E ++ [(⟨R.now + 1, b, sv, withs e.l l, 0⟩ : XE)] → (x.n = R.now → 0 < e.held) → ∃ v, vget R'.vs x.n = some v ∧ x.l = mapL G v.root ∧ x.held = v.held := fun x hx hc => by
    rcases List.mem_append.1 hx with hx | hx
    · obtain ⟨u, hu, h3, h4⟩ := h.fw x hx
      have hm : (x.n, u) ∈ R'.vs := by
        refine p.kept _ (vget_some hu) ?_
        by_cases hn : x.n = R.now
        · right
          rw [hn, hv] at hu
          obtain rfl := Option.some.inj hu
          have := hc hn
          show 0 < v.held
          omega
        · exact .inl hn
      exact ⟨u, (vget_iff p.ok.keys).2 hm, by rw [h3]; exact (mapL_cong (p.old _ hm (hnk x hx)).2).symm, h4⟩
    · simp only [List.mem_singleton] at hx; subst hx
      obtain ⟨r, hr, hg⟩ := p.new
      refine ⟨⟨r, 0⟩, hr, ?_, rfl⟩
      show withs e.l l = _
      rw [h1]
      unfold mapL
      rw [withs_all 4096 (Nat.le_refl _) l _ hl]
      exact allL_congr 4096 fun q hq => (hg q hq).symm
  have fwd : ∀ m, m ∈ keysV R'.vs → ∃ x, x ∈ E ++ [(⟨R.now + 1, b, sv, withs e.l l, 0⟩ : XE)] ∧ x.n = m := fun m hm => by
    obtain ⟨x, hx, rfl⟩ := List.mem_map.1 hm
    by_cases e : x.1 = R.now + 1
    · exact ⟨_, List.mem_append.2 (.inr (List.mem_singleton.2 rfl)), e.symm⟩
    · obtain ⟨y, hy, hyn⟩ := h.bk _ (List.mem_map_of_mem (f := (·.1)) (p.old x hx e).1)
      exact ⟨y, List.mem_append.2 (.inl hy), hyn⟩
  by_cases hc : e.held = 0
  · rw [if_pos hc]
    refine ⟨p.ok, p.fo, p.now.symm, List.Nodup.sublist (edel_n _ _) hks, fun x hx => ?_, fun m hm => ?_⟩
    · obtain ⟨hx1, hx2⟩ := mem_edel.1 hx
      exact back x hx1 fun e => absurd e hx2
    · obtain ⟨x, hx, hxm⟩ := fwd m hm
      refine ⟨x, mem_edel.2 ⟨hx, fun e3 => ?_⟩, hxm⟩
      rw [hxm] at e3
      subst e3
      obtain ⟨y, hy, hym⟩ := List.mem_map.1 hm
      have hy2 := (p.old y hy (by omega)).1
      have hyv := (vget_iff h.ok.keys).2 (show (y.1, y.2) ∈ R.vs from hy2)
      rw [hym, hv] at hyv
      obtain rfl := Option.some.inj hyv
      have := p.keptN.1 (by rw [← hym]; exact hy)
      omega
  · rw [if_neg hc]
    exact ⟨p.ok, p.fo, p.now.symm, hks, fun x hx => back x hx fun _ => by omega, fwd⟩
end Go.Proofs.YtmpbhoijkcanmaaGreat.R
