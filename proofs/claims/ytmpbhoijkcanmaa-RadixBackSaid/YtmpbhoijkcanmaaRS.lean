/- Radix: maps.Keys: the keys of a map come, one by one, each once. -/
import Derived.Test.YtmpbhoijkcanmaaRR
import Derived.Shelf.SlIter.Collect
namespace Go.Proofs.Ytmpbhoijkcanmaa.R
open Go.ChangeShapes Go.WideShapes Go.ChangeAt Go.RowKit Go.Maps Go.Proofs.Ytmpbhoijkcanmaa.G Go.Sort Go.Shelf Go.Lib
set_option linter.unusedVariables false
set_option linter.unusedSimpArgs false
set_option linter.unnecessarySimpa false

/-! ### at the operation, inside a fence -/
section
variable {α : Type} {F : Fence} {n : Nat} {P : Program} (w : World) {ops : Array Oper} {rest : List Oper} {o : Oper} {a : Act} {Q : Exit → Act → World → Prop}
theorem wp_rangeIn (hg : o.guard = none) (m : Operand) (t : TypeId) (hop : o.op = Op.range t m) {kt et : TypeId} {enc : α → Value} (ht : P.underlying t = some (.map kt et)) (b : Nat) (l : List (α × Value))
    (hm : a.eval m = .map (some b)) (h : MapIs P kt enc w b l)
    (hK : ∀ w', IterIs P kt enc w' w.heap.size b l [] → Turned [] w w' → wpListIn F n P ops Q rest (a.put o.dst (.pointer (some ⟨w.heap.size, 0, none⟩))) w') :
    wpListIn F n P ops Q (o :: rest) a w := by
  refine wpListIn_plain hg fun K' hK' => ?_
  obtain ⟨w', hrun, r1, r2⟩ := h.run_range ht
  unfold Oper.wpIn
  refine ⟨by simp [Oper.about, hop], ?_⟩
  rw [Oper.semAt_plain F _ _ (by rw [hop]; intro c hc'; cases hc')]
  simp [execOp, hop, hm, hrun, Result.andThen]
  exact hK' _ _ (hK w' r1 r2)
theorem wp_nextIn (hg : o.guard = none) (it : Operand) (hop : o.op = Op.next it false) {kt : TypeId} {enc : α → Value} (r b : Nat) (l done : List (α × Value))
    (hit : a.eval it = .pointer (some ⟨r, 0, none⟩)) (h : IterIs P kt enc w r b l done)
    (hDone : done.Perm l → wpListIn F n P ops Q rest (a.put o.dst (.tuple #[.bool false])) w)
    (hMore : ∀ (k : α) (v : Value) (w' : World), (k, v) ∈ l → IterIs P kt enc w' r b l (done ++ [(k, v)]) → Turned [r] w w' → w'.heap.size = w.heap.size →
      (Instr.entry (.pointer (some ⟨r, 0, none⟩))).run P w' = .ok (.tuple #[enc k, v]) w' → wpListIn F n P ops Q rest (a.put o.dst (.tuple #[.bool true, enc k, v])) w') :
    wpListIn F n P ops Q (o :: rest) a w := by
  refine wpListIn_plain hg fun K' hK' => ?_
  unfold Oper.wpIn
  refine ⟨by simp [Oper.about, hop], ?_⟩
  rw [Oper.semAt_plain F _ _ (by rw [hop]; intro c hc'; cases hc')]
  rcases h.run_next o.type with ⟨hp, hrun⟩ | ⟨⟨k, v⟩, w', hm, hrun, r1, r2, r3, r4⟩
  · simp [execOp, hop, hit, hrun, Result.andThen]
    exact hK' _ _ (hDone hp)
  · simp [execOp, hop, hit, hrun, Result.andThen]
    exact hK' _ _ (hMore k v w' hm r1 r2 r3 r4)
end
/-- how many entries are still to come -/
def leftIn (w : World) (r b : Nat) : Nat :=
  match w.heap[r]?, w.heap[b]? with
  | some (.mapIter _ _ seen _), some (.map E _) => E.size - seen.size
  | _, _ => 0
section
variable {α : Type} {P : Program} {kt : TypeId} {enc : α → Value} {w w' : World} {r b : Nat} {l done : List (α × Value)}
theorem iter_left (h : IterIs P kt enc w r b l done) : R.leftIn w r b = l.length - done.length := by
  obtain ⟨E, clock, since, c0, seen, idx, h1, h2, h3, h4, h5, h6, h7, h8, h9, h10, h11⟩ := h
  unfold R.leftIn
  rw [h4, h1]
  have e1 : E.size = l.length := by simpa using congrArg List.length h2
  have e2 : seen.size = idx.length := by simpa using congrArg List.length h10
  have e3 : done.length = idx.length := by simpa using congrArg List.length h11
  simp only
  omega
theorem iter_walks (h : IterIs P kt enc w r b l done) (k : KeepsWalks w w') : IterIs P kt enc w' r b l done := by
  obtain ⟨E, clock, since, c0, seen, idx, h1, h2, h3, h4, h5⟩ := h
  exact ⟨E, clock, since, c0, seen, idx, k.2 _ _ h1 rfl, h2, h3, k.2 _ _ h4 rfl, h5⟩
theorem iter_isWalk (h : IterIs P kt enc w r b l done) : ∃ o : Obj, w.heap[r]? = some o ∧ o.isWalk = true := by
  obtain ⟨E, clock, since, c0, seen, idx, h1, h2, h3, h4, h5⟩ := h
  exact ⟨_, h4, rfl⟩
theorem grown_of_turned (t : Turned [r] w w') : w.grownBy w' (some r) := ⟨t.os, t.tape, t.output, t.size, fun k hk hn => t.block k hk (by simpa using fun e => hn (by rw [e]))⟩
theorem grown_of_calm (t : Turned [] w w') : w.grownBy w' none := ⟨t.os, t.tape, t.output, t.size, fun k hk _ => t.block k hk (by simp)⟩
end

set_option maxRecDepth 100000 in
set_option maxHeartbeats 1000000 in
theorem keys1B (F : Fence) (n : Nat) (h10 : F.fn 69) (hro : F.round = none) (hn : 1 ≤ n) (l Bm b : Nat) (L : List (Slot × Value)) (J : List Slot → World → Prop)
    (hY : ∀ pre x W, J pre W → pre.length < L.length → YieldAt F (n - 1) Try.prog l #[encS x] W fun e W' => e = .returned (.bool true) ∧ J (pre ++ [x]) W' ∧ KeepsWalks W W')
    (W : World) (hJ : AbidesFrom W.heap.size J) (hm : W.cell? ⟨Bm, 0, none⟩ = some (.map (some b))) (hown : MapIs Try.prog 31 encS W b L) (h0 : J [] W) :
    CallsIn F n Try.prog 69 #[.func (.yield l) #[] #[], .pointer (some ⟨Bm, 0, none⟩)] W fun e W' => (∃ v, e = .returned v) ∧ ∃ ss : List Slot, ss.Perm (L.map (·.1)) ∧ J ss W' := by
  have hbl := hown.lt
  refine callsIn_of_wp Try.func69 rfl h10 ?_ hro
  simp only [Try.ntmps69, List.size_toArray, List.length_cons, List.length_nil, Nat.reduceAdd, Nat.reduceSub, Array.replicate_succ, Array.replicate_zero, List.push_toArray, List.append_toArray, List.nil_append, List.cons_append]
  gi_wp2_with (first
    | (gi_at_range; refine wp_rangeIn _ rfl _ 74 rfl Try.underlying74 b L rfl hown ?_; intro w0 hi0 ht0)
    | gi_in)
  go_frame
  gi_loopw [3] (fun _ wr => ∃ done : List (Slot × Value), IterIs Try.prog 31 encS wr W.heap.size b L done ∧ J (done.map (·.1)) wr) (fun _ wr => leftIn wr W.heap.size b)
  case atStart => exact ⟨[], hi0, hJ [] W w0 none h0 (grown_of_calm ht0) (fun r e => by cases e)⟩
  case round =>
    obtain ⟨done, hi, hJs⟩ := hrel
    gi_wp2_with (first
      | (gi_at_next; refine wp_nextIn _ rfl _ rfl W.heap.size b L done rfl hi ?_ ?_)
      | gi_in)
    · intro hp
      gi_wp2
      go_end0
      exact ⟨⟨_, rfl⟩, done.map (·.1), hp.map _, hJs⟩
    · rintro ⟨ke, kc, ki⟩ v w2 hmem hi2 ht2 hsz hen
      have hJ2 : J (done.map (·.1)) w2 := hJ _ wr w2 (some W.heap.size) hJs (grown_of_turned ht2) (fun r e => by cases e; exact ⟨Nat.le_refl _, iter_isWalk hi⟩)
      simp only [encS] at hen
      have hlen : done.length + 1 ≤ L.length := by have := hi2.len_le; simpa using this
      have tA := (Turned.refl [] w2).alloc (.cells #[.int .i64 ke, .int .i64 kc, .int .i64 ki] 31)
      have hJ3 : J (done.map (·.1)) (w2.alloc (.cells #[.int .i64 ke, .int .i64 kc, .int .i64 ki] 31)) := hJ _ w2 _ none hJ2 (grown_of_calm tA) (fun r e => by cases e)
      have hi3 := hi2.turned tA (by simp) (by simp)
      obtain ⟨fn, tmps, assign, body, hy, hR⟩ := hY (done.map (·.1)) ⟨ke, kc, ki⟩ _ hJ3 (by simp; omega)
      unfold encS at hy
      simp only at hy
      have HJ := Lib.hid hJ
      clear hJ2 hJs tA hJ hY
      gi_wp2
      refine hR.mono ?_
      rintro e W3 ⟨rfl, hJ4, hk3⟩
      have hi4 := iter_walks hi3 hk3
      gi_wp2
      go_roundw
      case rel => exact ⟨done ++ [(⟨ke, kc, ki⟩, v)], hi4, by rw [List.map_append]; exact hJ4⟩
      case measure => rw [iter_left hi4, iter_left hi, List.length_append, List.length_singleton]; omega
theorem keys_givesB (F : Fence) (n : Nat) (h10 : F.fn 69) (hro : F.round = none) (hn : 1 ≤ n) (Bm b : Nat) (L : List (Slot × Value)) (w : World) (hBm : Bm < w.heap.size)
    (hm : w.cell? ⟨Bm, 0, none⟩ = some (.map (some b))) (hown : MapIs Try.prog 31 encS w b L) :
    SeqGives F n Try.prog 69 #[.pointer (some ⟨Bm, 0, none⟩)] encS (fun ss => ss.Perm (L.map (·.1))) L.length w := fun l J W hW hJ hY h0 =>
  keys1B F n h10 hro hn l Bm b L J hY W hJ ((hW.cell (p := ⟨Bm, 0, none⟩) hBm).trans hm) (hown.turned (Turned.of_below hW) (by simp)) h0

set_option maxRecDepth 100000 in
set_option maxHeartbeats 1000000 in
theorem keys1I (F : Fence) (n : Nat) (h10 : F.fn 71) (hro : F.round = none) (hn : 1 ≤ n) (l Bm b : Nat) (L : List (Slot × Value)) (J : List Slot → World → Prop)
    (hY : ∀ pre x W, J pre W → pre.length < L.length → YieldAt F (n - 1) Try.prog l #[encS x] W fun e W' => e = .returned (.bool true) ∧ J (pre ++ [x]) W' ∧ KeepsWalks W W')
    (W : World) (hJ : AbidesFrom W.heap.size J) (hm : W.cell? ⟨Bm, 0, none⟩ = some (.map (some b))) (hown : MapIs Try.prog 31 encS W b L) (h0 : J [] W) :
    CallsIn F n Try.prog 71 #[.func (.yield l) #[] #[], .pointer (some ⟨Bm, 0, none⟩)] W fun e W' => (∃ v, e = .returned v) ∧ ∃ ss : List Slot, ss.Perm (L.map (·.1)) ∧ J ss W' := by
  have hbl := hown.lt
  refine callsIn_of_wp Try.func71 rfl h10 ?_ hro
  simp only [Try.ntmps71, List.size_toArray, List.length_cons, List.length_nil, Nat.reduceAdd, Nat.reduceSub, Array.replicate_succ, Array.replicate_zero, List.push_toArray, List.append_toArray, List.nil_append, List.cons_append]
  gi_wp2_with (first
    | (gi_at_range; refine wp_rangeIn _ rfl _ 88 rfl Try.underlying88 b L rfl hown ?_; intro w0 hi0 ht0)
    | gi_in)
  go_frame
  gi_loopw [3] (fun _ wr => ∃ done : List (Slot × Value), IterIs Try.prog 31 encS wr W.heap.size b L done ∧ J (done.map (·.1)) wr) (fun _ wr => leftIn wr W.heap.size b)
  case atStart => exact ⟨[], hi0, hJ [] W w0 none h0 (grown_of_calm ht0) (fun r e => by cases e)⟩
  case round =>
    obtain ⟨done, hi, hJs⟩ := hrel
    gi_wp2_with (first
      | (gi_at_next; refine wp_nextIn _ rfl _ rfl W.heap.size b L done rfl hi ?_ ?_)
      | gi_in)
    · intro hp
      gi_wp2
      go_end0
      exact ⟨⟨_, rfl⟩, done.map (·.1), hp.map _, hJs⟩
    · rintro ⟨ke, kc, ki⟩ v w2 hmem hi2 ht2 hsz hen
      have hJ2 : J (done.map (·.1)) w2 := hJ _ wr w2 (some W.heap.size) hJs (grown_of_turned ht2) (fun r e => by cases e; exact ⟨Nat.le_refl _, iter_isWalk hi⟩)
      simp only [encS] at hen
      have hlen : done.length + 1 ≤ L.length := by have := hi2.len_le; simpa using this
      have tA := (Turned.refl [] w2).alloc (.cells #[.int .i64 ke, .int .i64 kc, .int .i64 ki] 31)
      have hJ3 : J (done.map (·.1)) (w2.alloc (.cells #[.int .i64 ke, .int .i64 kc, .int .i64 ki] 31)) := hJ _ w2 _ none hJ2 (grown_of_calm tA) (fun r e => by cases e)
      have hi3 := hi2.turned tA (by simp) (by simp)
      obtain ⟨fn, tmps, assign, body, hy, hR⟩ := hY (done.map (·.1)) ⟨ke, kc, ki⟩ _ hJ3 (by simp; omega)
      unfold encS at hy
      simp only at hy
      have HJ := Lib.hid hJ
      clear hJ2 hJs tA hJ hY
      gi_wp2
      refine hR.mono ?_
      rintro e W3 ⟨rfl, hJ4, hk3⟩
      have hi4 := iter_walks hi3 hk3
      gi_wp2
      go_roundw
      case rel => exact ⟨done ++ [(⟨ke, kc, ki⟩, v)], hi4, by rw [List.map_append]; exact hJ4⟩
      case measure => rw [iter_left hi4, iter_left hi, List.length_append, List.length_singleton]; omega
theorem keys_givesI (F : Fence) (n : Nat) (h10 : F.fn 71) (hro : F.round = none) (hn : 1 ≤ n) (Bm b : Nat) (L : List (Slot × Value)) (w : World) (hBm : Bm < w.heap.size)
    (hm : w.cell? ⟨Bm, 0, none⟩ = some (.map (some b))) (hown : MapIs Try.prog 31 encS w b L) :
    SeqGives F n Try.prog 71 #[.pointer (some ⟨Bm, 0, none⟩)] encS (fun ss => ss.Perm (L.map (·.1))) L.length w := fun l J W hW hJ hY h0 =>
  keys1I F n h10 hro hn l Bm b L J hY W hJ ((hW.cell (p := ⟨Bm, 0, none⟩) hBm).trans hm) (hown.turned (Turned.of_below hW) (by simp)) h0
end Go.Proofs.Ytmpbhoijkcanmaa.R
