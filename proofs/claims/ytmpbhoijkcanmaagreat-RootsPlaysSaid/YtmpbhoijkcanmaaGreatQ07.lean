/- Maps of pages, and versions of them: lemmas, part 7 of 23. -/
import Derived.Shelf.SlIter.Collect
import Derived.Test.YtmpbhoijkcanmaaGreatQ06

/- Radix: maps.Keys: the keys of a map come, one by one, each once. -/
namespace Go.Proofs.YtmpbhoijkcanmaaGreat.R
open Go.ChangeShapes Go.WideShapes Go.ChangeAt Go.RowKit Go.Maps Go.Proofs.YtmpbhoijkcanmaaGreat.G Go.Sort Go.Shelf Go.Lib
set_option linter.unusedVariables false
set_option linter.unusedSimpArgs false
set_option linter.unnecessarySimpa false

/-! ### at the operation, inside a fence -/
section
variable {α : Type} {F : Fence} {n : Nat} {P : Program} (w : World) {ops : Array Oper} {rest : List Oper} {o : Oper} {a : Act} {Q : Exit → Act → World → Prop}
theorem wp_rangeIn (hg : o.guard = none) (m : Operand) (t : TypeId) (hop : o.op = Op.range t m) {kt et : TypeId} {enc : α → Value} (ht : P.underlying t = some (.map kt et)) (b : Nat) (l : List (α × Value))
    (hm : a.eval m = .map (some b)) (h : MapIs P kt enc w b l)
    (hK : ∀ w', IterIs P kt enc w' w.heap.size b l [] → Turned [] w w' → wpListIn F n P ops Q rest (a.put o.dst (.pointer (some ⟨w.heap.size, 0, none⟩))) w') :
    wpListIn F n P ops Q (o :: rest) a w := by
  refine wpListIn_plain hg fun K' hK' => ?_
  obtain ⟨w', hrun, r1, r2⟩ := h.run_range ht
  unfold Oper.wpIn
  refine ⟨by simp [Oper.about, hop], ?_⟩
  rw [Oper.semAt_plain F _ _ (by rw [hop]; intro c hc'; cases hc')]
  simp [execOp, hop, hm, hrun, Result.andThen]
  exact hK' _ _ (hK w' r1 r2)
theorem wp_nextIn (hg : o.guard = none) (it : Operand) (hop : o.op = Op.next it false) {kt : TypeId} {enc : α → Value} (r b : Nat) (l done : List (α × Value))
    (hit : a.eval it = .pointer (some ⟨r, 0, none⟩)) (h : IterIs P kt enc w r b l done)
    (hDone : done.Perm l → wpListIn F n P ops Q rest (a.put o.dst (.tuple #[.bool false])) w)
    (hMore : ∀ (k : α) (v : Value) (w' : World), (k, v) ∈ l → IterIs P kt enc w' r b l (done ++ [(k, v)]) → Turned [r] w w' → w'.heap.size = w.heap.size →
      (Instr.entry (.pointer (some ⟨r, 0, none⟩))).run P w' = .ok (.tuple #[enc k, v]) w' → wpListIn F n P ops Q rest (a.put o.dst (.tuple #[.bool true, enc k, v])) w') :
    wpListIn F n P ops Q (o :: rest) a w := by
  refine wpListIn_plain hg fun K' hK' => ?_
  unfold Oper.wpIn
  refine ⟨by simp [Oper.about, hop], ?_⟩
  rw [Oper.semAt_plain F _ _ (by rw [hop]; intro c hc'; cases hc')]
  rcases h.run_next o.type with ⟨hp, hrun⟩ | ⟨⟨k, v⟩, w', hm, hrun, r1, r2, r3, r4⟩
  · simp [execOp, hop, hit, hrun, Result.andThen]
    exact hK' _ _ (hDone hp)
  · simp [execOp, hop, hit, hrun, Result.andThen]
    exact hK' _ _ (hMore k v w' hm r1 r2 r3 r4)
end
/-- how many entries are still to come -/
def leftIn (w : World) (r b : Nat) : Nat :=
  match w.heap[r]?, w.heap[b]? with
  | some (.mapIter _ _ seen _), some (.map E _) => E.size - seen.size
  | _, _ => 0
section
variable {α : Type} {P : Program} {kt : TypeId} {enc : α → Value} {w w' : World} {r b : Nat} {l done : List (α × Value)}
theorem iter_left (h : IterIs P kt enc w r b l done) : R.leftIn w r b = l.length - done.length := by
  obtain ⟨E, clock, since, c0, seen, idx, h1, h2, h3, h4, h5, h6, h7, h8, h9, h10, h11⟩ := h
  unfold R.leftIn
  rw [h4, h1]
  have e1 : E.size = l.length := by simpa using congrArg List.length h2
  have e2 : seen.size = idx.length := by simpa using congrArg List.length h10
  have e3 : done.length = idx.length := by simpa using congrArg List.length h11
  simp only
  omega
theorem iter_walks (h : IterIs P kt enc w r b l done) (k : KeepsWalks w w') : IterIs P kt enc w' r b l done := by
  obtain ⟨E, clock, since, c0, seen, idx, h1, h2, h3, h4, h5⟩ := h
  exact ⟨E, clock, since, c0, seen, idx, k.2 _ _ h1 rfl, h2, h3, k.2 _ _ h4 rfl, h5⟩
theorem iter_isWalk (h : IterIs P kt enc w r b l done) : ∃ o : Obj, w.heap[r]? = some o ∧ o.isWalk = true := by
  obtain ⟨E, clock, since, c0, seen, idx, h1, h2, h3, h4, h5⟩ := h
  exact ⟨_, h4, rfl⟩
theorem grown_of_turned (t : Turned [r] w w') : w.grownBy w' (some r) := ⟨t.os, t.tape, t.output, t.size, fun k hk hn => t.block k hk (by simpa using fun e => hn (by rw [e]))⟩
theorem grown_of_calm (t : Turned [] w w') : w.grownBy w' none := ⟨t.os, t.tape, t.output, t.size, fun k hk _ => t.block k hk (by simp)⟩
end

set_option maxRecDepth 100000 in
set_option maxHeartbeats 1000000 in
theorem keys1B (F : Fence) (n : Nat) (h10 : F.fn 88) (hro : F.round = none) (hn : 1 ≤ n) (l Bm b : Nat) (L : List (Slot × Value)) (J : List Slot → World → Prop)
    (hY : ∀ pre x W, J pre W → pre.length < L.length → YieldAt F (n - 1) Tryz.prog l #[encS x] W fun e W' => e = .returned (.bool true) ∧ J (pre ++ [x]) W' ∧ KeepsWalks W W')
    (W : World) (hJ : AbidesFrom W.heap.size J) (hm : W.cell? ⟨Bm, 0, none⟩ = some (.map (some b))) (hown : MapIs Tryz.prog 45 encS W b L) (h0 : J [] W) :
    CallsIn F n Tryz.prog 88 #[.func (.yield l) #[] #[], .pointer (some ⟨Bm, 0, none⟩)] W fun e W' => (∃ v, e = .returned v) ∧ ∃ ss : List Slot, ss.Perm (L.map (·.1)) ∧ J ss W' := by
  have hbl := hown.lt
  refine callsIn_of_wp Tryz.func88 rfl h10 ?_ hro
  simp only [Tryz.ntmps88, List.size_toArray, List.length_cons, List.length_nil, Nat.reduceAdd, Nat.reduceSub, Array.replicate_succ, Array.replicate_zero, List.push_toArray, List.append_toArray, List.nil_append, List.cons_append]
  gi_wp2_with (first
    | (gi_at_range; refine wp_rangeIn _ rfl _ 86 rfl Tryz.underlying86 b L rfl hown ?_; intro w0 hi0 ht0)
    | gi_in)
  go_frame
  gi_loopw [3] (fun _ wr => ∃ done : List (Slot × Value), IterIs Tryz.prog 45 encS wr W.heap.size b L done ∧ J (done.map (·.1)) wr) (fun _ wr => leftIn wr W.heap.size b)
  case atStart => exact ⟨[], hi0, hJ [] W w0 none h0 (grown_of_calm ht0) (fun r e => by cases e)⟩
  case round =>
    obtain ⟨done, hi, hJs⟩ := hrel
    gi_wp2_with (first
      | (gi_at_next; refine wp_nextIn _ rfl _ rfl W.heap.size b L done rfl hi ?_ ?_)
      | gi_in)
    · intro hp
      gi_wp2
      go_end0
      exact ⟨⟨_, rfl⟩, done.map (·.1), hp.map _, hJs⟩
    · rintro ⟨ke, kc, ki⟩ v w2 hmem hi2 ht2 hsz hen
      have hJ2 : J (done.map (·.1)) w2 := hJ _ wr w2 (some W.heap.size) hJs (grown_of_turned ht2) (fun r e => by cases e; exact ⟨Nat.le_refl _, iter_isWalk hi⟩)
      simp only [encS] at hen
      have hlen : done.length + 1 ≤ L.length := by have := hi2.len_le; simpa using this
      have tA := (Turned.refl [] w2).alloc (.cells #[.int .i64 ke, .int .i64 kc, .int .i64 ki] 45)
      have hJ3 : J (done.map (·.1)) (w2.alloc (.cells #[.int .i64 ke, .int .i64 kc, .int .i64 ki] 45)) := hJ _ w2 _ none hJ2 (grown_of_calm tA) (fun r e => by cases e)
      have hi3 := hi2.turned tA (by simp) (by simp)
      obtain ⟨fn, tmps, assign, body, hy, hR⟩ := hY (done.map (·.1)) ⟨ke, kc, ki⟩ _ hJ3 (by simp; omega)
      unfold encS at hy
      simp only at hy
      have HJ := Lib.hid hJ
      clear hJ2 hJs tA hJ hY
      gi_wp2
      refine hR.mono ?_
      rintro e W3 ⟨rfl, hJ4, hk3⟩
      have hi4 := iter_walks hi3 hk3
      gi_wp2
      go_roundw
      case rel => exact ⟨done ++ [(⟨ke, kc, ki⟩, v)], hi4, by rw [List.map_append]; exact hJ4⟩
      case measure => rw [iter_left hi4, iter_left hi, List.length_append, List.length_singleton]; omega
theorem keys_givesB (F : Fence) (n : Nat) (h10 : F.fn 88) (hro : F.round = none) (hn : 1 ≤ n) (Bm b : Nat) (L : List (Slot × Value)) (w : World) (hBm : Bm < w.heap.size)
    (hm : w.cell? ⟨Bm, 0, none⟩ = some (.map (some b))) (hown : MapIs Tryz.prog 45 encS w b L) :
    SeqGives F n Tryz.prog 88 #[.pointer (some ⟨Bm, 0, none⟩)] encS (fun ss => ss.Perm (L.map (·.1))) L.length w := fun l J W hW hJ hY h0 =>
  keys1B F n h10 hro hn l Bm b L J hY W hJ ((hW.cell (p := ⟨Bm, 0, none⟩) hBm).trans hm) (hown.turned (Turned.of_below hW) (by simp)) h0

set_option maxRecDepth 100000 in
set_option maxHeartbeats 1000000 in
theorem keys1I (F : Fence) (n : Nat) (h10 : F.fn 85) (hro : F.round = none) (hn : 1 ≤ n) (l Bm b : Nat) (L : List (Slot × Value)) (J : List Slot → World → Prop)
    (hY : ∀ pre x W, J pre W → pre.length < L.length → YieldAt F (n - 1) Tryz.prog l #[encS x] W fun e W' => e = .returned (.bool true) ∧ J (pre ++ [x]) W' ∧ KeepsWalks W W')
    (W : World) (hJ : AbidesFrom W.heap.size J) (hm : W.cell? ⟨Bm, 0, none⟩ = some (.map (some b))) (hown : MapIs Tryz.prog 45 encS W b L) (h0 : J [] W) :
    CallsIn F n Tryz.prog 85 #[.func (.yield l) #[] #[], .pointer (some ⟨Bm, 0, none⟩)] W fun e W' => (∃ v, e = .returned v) ∧ ∃ ss : List Slot, ss.Perm (L.map (·.1)) ∧ J ss W' := by
  have hbl := hown.lt
  refine callsIn_of_wp Tryz.func85 rfl h10 ?_ hro
  simp only [Tryz.ntmps85, List.size_toArray, List.length_cons, List.length_nil, Nat.reduceAdd, Nat.reduceSub, Array.replicate_succ, Array.replicate_zero, List.push_toArray, List.append_toArray, List.nil_append, List.cons_append]
  gi_wp2_with (first
    | (gi_at_range; refine wp_rangeIn _ rfl _ 101 rfl Tryz.underlying101 b L rfl hown ?_; intro w0 hi0 ht0)
    | gi_in)
  go_frame
  gi_loopw [3] (fun _ wr => ∃ done : List (Slot × Value), IterIs Tryz.prog 45 encS wr W.heap.size b L done ∧ J (done.map (·.1)) wr) (fun _ wr => leftIn wr W.heap.size b)
  case atStart => exact ⟨[], hi0, hJ [] W w0 none h0 (grown_of_calm ht0) (fun r e => by cases e)⟩
  case round =>
    obtain ⟨done, hi, hJs⟩ := hrel
    gi_wp2_with (first
      | (gi_at_next; refine wp_nextIn _ rfl _ rfl W.heap.size b L done rfl hi ?_ ?_)
      | gi_in)
    · intro hp
      gi_wp2
      go_end0
      exact ⟨⟨_, rfl⟩, done.map (·.1), hp.map _, hJs⟩
    · rintro ⟨ke, kc, ki⟩ v w2 hmem hi2 ht2 hsz hen
      have hJ2 : J (done.map (·.1)) w2 := hJ _ wr w2 (some W.heap.size) hJs (grown_of_turned ht2) (fun r e => by cases e; exact ⟨Nat.le_refl _, iter_isWalk hi⟩)
      simp only [encS] at hen
      have hlen : done.length + 1 ≤ L.length := by have := hi2.len_le; simpa using this
      have tA := (Turned.refl [] w2).alloc (.cells #[.int .i64 ke, .int .i64 kc, .int .i64 ki] 45)
      have hJ3 : J (done.map (·.1)) (w2.alloc (.cells #[.int .i64 ke, .int .i64 kc, .int .i64 ki] 45)) := hJ _ w2 _ none hJ2 (grown_of_calm tA) (fun r e => by cases e)
      have hi3 := hi2.turned tA (by simp) (by simp)
      obtain ⟨fn, tmps, assign, body, hy, hR⟩ := hY (done.map (·.1)) ⟨ke, kc, ki⟩ _ hJ3 (by simp; omega)
      unfold encS at hy
      simp only at hy
      have HJ := Lib.hid hJ
      clear hJ2 hJs tA hJ hY
      gi_wp2
      refine hR.mono ?_
      rintro e W3 ⟨rfl, hJ4, hk3⟩
      have hi4 := iter_walks hi3 hk3
      gi_wp2
      go_roundw
      case rel => exact ⟨done ++ [(⟨ke, kc, ki⟩, v)], hi4, by rw [List.map_append]; exact hJ4⟩
      case measure => rw [iter_left hi4, iter_left hi, List.length_append, List.length_singleton]; omega
theorem keys_givesI (F : Fence) (n : Nat) (h10 : F.fn 85) (hro : F.round = none) (hn : 1 ≤ n) (Bm b : Nat) (L : List (Slot × Value)) (w : World) (hBm : Bm < w.heap.size)
    (hm : w.cell? ⟨Bm, 0, none⟩ = some (.map (some b))) (hown : MapIs Tryz.prog 45 encS w b L) :
    SeqGives F n Tryz.prog 85 #[.pointer (some ⟨Bm, 0, none⟩)] encS (fun ss => ss.Perm (L.map (·.1))) L.length w := fun l J W hW hJ hY h0 =>
  keys1I F n h10 hro hn l Bm b L J hY W hJ ((hW.cell (p := ⟨Bm, 0, none⟩) hBm).trans hm) (hown.turned (Turned.of_below hW) (by simp)) h0
end Go.Proofs.YtmpbhoijkcanmaaGreat.R

/- Radix: slices.AppendSeq, slices.Collect over slots. -/
namespace Go.Proofs.YtmpbhoijkcanmaaGreat.R
open Go.ChangeShapes Go.WideShapes Go.ChangeAt Go.RowKit Go.Maps Go.Proofs.YtmpbhoijkcanmaaGreat.G Go.Sort Go.Shelf Go.Lib
set_option linter.unusedVariables false
set_option linter.unusedSimpArgs false
set_option linter.unnecessarySimpa false

/-- the two codes of a function's loop over an iterator -/
def rfOf : Code → Option (Code × Code)
  | .rangeFunc _ _ a b => some (a, b)
  | .seq x y => match rfOf x with
    | some r => some r
    | none => rfOf y
  | .block _ x => rfOf x
  | .scope x => rfOf x
  | _ => none
def apAB : { p : Code × Code // Tryz.f95.body.bind rfOf = some p } := ⟨_, rfl⟩
def apAssign : Code := apAB.1.1
def apBody : Code := apAB.1.2
/-- the loop's record -/
def apRec (fn : FuncId) (sv : Value) (Bs D : Nat) (st : LoopState) (pend : Option Code) : Loop :=
  { state := st, pending := pend, fn, tmps := #[.slice none 0 0, sv, .pointer (some ⟨Bs, 0, none⟩), undef, .slice none 0 0, undef, sv, undef, undef, undef, undef, undef, undef], params := #[7], assign := apAssign, body := apBody, defers := D }
/-- between two rounds -/
structure ApAt (w0 : World) (fn : FuncId) (sv : Value) (Bs l D : Nat) (ss : List Slot) (W : World) : Prop where
  box : ∃ v, W.heap[Bs]? = some (.cells #[v] 42 (0, 0)) ∧ W.ownsRow w0.heap.size 45 3 v ss.length (flat ss) ∧ (v = .slice none 0 0 ↔ ss = [])
  L : W.heap[l]? = some (.loop (apRec fn sv Bs D .ready none))
  K : W.heap[D]? = some (.deferred (some []))
  below : Below w0.heap.size w0 W
theorem ap_abides (w0 : World) (fn : FuncId) (sv : Value) (Bs l D B : Nat) (hB : w0.heap.size ≤ B) : AbidesFrom B (ApAt w0 fn sv Bs l D) := fun s W W' row h hg hrow => by
  have hrow' : ∀ r, row = some r → ∃ o : Obj, W.heap[r]? = some o ∧ o.isWalk = true := fun r e => (hrow r e).2
  obtain ⟨v, hv, hr, hn⟩ := h.box
  exact ⟨⟨v, (grownBy_keeps hg hrow' hv rfl).trans hv, ownsRow_abides_a hr hg hrow', hn⟩, (grownBy_keeps hg hrow' h.L rfl).trans h.L, (grownBy_keeps hg hrow' h.K rfl).trans h.K,
    h.below.grown hg h.below.size (fun k e => Nat.le_trans hB (hrow k e).1)⟩
theorem infoSl : ∃ i0, Tryz.prog.info? 45 = some i0 ∧ i0.zero = some (.agg #[.int .i64 0, .int .i64 0, .int .i64 0]) ∧ i0.size = 3 ∧ i0.bytes = 24 := by
  have h : (Tryz.prog.info? 45).map (fun i => (i.zero, i.size, i.bytes)) = some (some (.agg #[.int .i64 0, .int .i64 0, .int .i64 0]), 3, 24) := by kernel_rfl
  cases e : Tryz.prog.info? 45 with
  | none => rw [e] at h; simp at h
  | some i =>
    rw [e] at h
    simp only [Option.map_some, Option.some.injEq, Prod.mk.injEq] at h
    exact ⟨i, rfl, h.1, h.2.1, h.2.2⟩
theorem flat_one (x : Slot) : flat [x] = encL x := by unfold flat; simp
theorem flat_snoc (ss : List Slot) (x : Slot) : flat (ss ++ [x]) = flat ss ++ encL x := by unfold flat; simp

set_option maxRecDepth 100000 in
set_option maxHeartbeats 2000000 in
theorem apYield (F : Fence) (m : Nat) (w0 : World) (fn : FuncId) (hfn : F.fn fn) (sv : Value) (Bs l D : Nat) (hBl : Bs ≠ l) (hDl : D ≠ l) (hDB : D ≠ Bs) (h0B : w0.heap.size ≤ Bs) (h0l : w0.heap.size ≤ l)
    (N : Nat) (hN : N ≤ maxLen) (hNb : N * 24 ≤ 140737488355328) (ss : List Slot) (x : Slot) (W : World) (h : ApAt w0 fn sv Bs l D ss W) (hlen : ss.length < N) :
    YieldAt F m Tryz.prog l #[encS x] W fun e W' => e = .returned (.bool true) ∧ ApAt w0 fn sv Bs l D (ss ++ [x]) W' ∧ KeepsWalks W W' := by
  have hne : (42 : Nat) ≠ 45 := by decide
  obtain ⟨i0, hi, hz0, hz1, hz2⟩ := infoSl
  have hl0 : l < W.heap.size := (Array.getElem?_eq_some_iff.1 h.L).1
  refine ⟨fn, #[.slice none 0 0, sv, .pointer (some ⟨Bs, 0, none⟩), undef, .slice none 0 0, undef, sv, encS x, undef, undef, undef, undef, undef], apAssign, apBody, by simpa [apRec] using run_yield (P := Tryz.prog) (args := #[encS x]) h.L rfl, roundIn_of_wpIn hfn ?_⟩
  obtain ⟨xe, xc, xi⟩ := x
  have tA := (Turned.refl [] W).alloc (.cells #[.int .i64 xe, .int .i64 xc, .int .i64 xi] 45)
  have hkA : KeepsWalks W (W.alloc (.cells #[.int .i64 xe, .int .i64 xc, .int .i64 xi] 45)) := KeepsWalks.alloc _ _
  have h1 : ApAt w0 fn sv Bs l D ss (W.alloc (.cells #[.int .i64 xe, .int .i64 xc, .int .i64 xi] 45)) := ap_abides w0 fn sv Bs l D w0.heap.size (Nat.le_refl _) ss W _ none h (grown_of_calm tA) (fun r e => by cases e)
  have hn5 : ∀ q u, [Value.int .i64 xe, .int .i64 xc, .int .i64 xi][q]? = some u → (W.alloc (.cells #[.int .i64 xe, .int .i64 xc, .int .i64 xi] 45)).cell? ((⟨W.heap.size, 0, none⟩ : Addr).add q) = some u := fun q u hq => cells_new W [.int .i64 xe, .int .i64 xc, .int .i64 xi] 45 q u hq
  unfold encS
  simp only
  unfold apAssign apAB
  dsimp only
  gi_wp2_with gi_round_op_a
  have n0 := hn5 0 _ rfl
  have n1 := hn5 1 _ rfl
  have n2 := hn5 2 _ rfl
  rw [Addr.add_mid, Nat.zero_add] at n0 n1 n2
  have hVl : l ≠ W.heap.size := by omega
  obtain ⟨V, hV⟩ : ∃ V, W.heap.size = V := ⟨_, rfl⟩
  rw [hV] at n0 n1 n2 hVl
  rw [hV]
  obtain ⟨W1, hW1⟩ : ∃ W1, W.alloc (.cells #[.int .i64 xe, .int .i64 xc, .int .i64 xi] 45) = W1 := ⟨_, rfl⟩
  rw [hW1] at h1 hkA n0 n1 n2
  rw [hW1]
  clear hn5 tA hW1 h hl0
  have h := h1
  obtain ⟨v, hv, hrow, _⟩ := h.box
  have hl : l < W1.heap.size := (Array.getElem?_eq_some_iff.1 h.L).1
  have hbr := run_beginRound (P := Tryz.prog) h.L rfl
  obtain ⟨W2, hW2⟩ : ∃ W2, W1.putObj l (.loop { apRec fn sv Bs D .ready none with state := .busy }) = W2 := ⟨_, rfl⟩
  rw [hW2] at hbr
  have hg2 : W1.grownBy W2 (some l) := by rw [← hW2]; exact grownBy_putObj_a _ _ _
  have hk2 : KeepsWalks W1 W2 := by rw [← hW2]; exact KeepsWalks.putObj _ h.L rfl
  have hv2 : W2.heap[Bs]? = some (.cells #[v] 42 (0, 0)) := by rw [← hW2]; exact (World.putObj_heap_other hBl).trans hv
  have hK2 : W2.heap[D]? = some (.deferred (some [])) := by rw [← hW2]; exact (World.putObj_heap_other hDl).trans h.K
  have hL2 : W2.heap[l]? = some (.loop { apRec fn sv Bs D .ready none with state := .busy }) := by rw [← hW2]; exact World.putObj_heap_same hl
  have hrow2 : W2.ownsRow w0.heap.size 45 3 v ss.length (flat ss) := hrow.kept hg2 (ownsRow_ne_a hrow h.L (fun cur e => by cases e))
  have hb2 : Below w0.heap.size w0 W2 := h.below.grown hg2 h.below.size (fun k e => by cases e; exact h0l)
  have tl : Turned [l] W1 W2 := ⟨hg2.os, hg2.tape, hg2.output, hg2.size, fun k hk hn => hg2.block k hk (by simpa using fun e => hn (by simp [e]))⟩
  have m0 := tl.cell n0 (by simpa using Ne.symm hVl)
  have m1 := tl.cell n1 (by simpa using Ne.symm hVl)
  have m2 := tl.cell n2 (by simpa using Ne.symm hVl)
  obtain ⟨hc2, hf2⟩ := cell_of_box_a hv2
  have hBlt : Bs < W2.heap.size := (Array.getElem?_eq_some_iff.1 hv2).1
  have hl2 : l < W2.heap.size := (Array.getElem?_eq_some_iff.1 hL2).1
  have hDlt : D < W2.heap.size := (Array.getElem?_eq_some_iff.1 hK2).1
  have ne_of : ∀ {j : Nat} {o : Obj}, W2.heap[j]? = some o → (∀ cur, o ≠ .cells cur 45 (0, 0)) → some j ≠ v.ownBlock := fun hj hno => by
    rcases ownsRow_ne_a hrow2 hj hno with e | e
    · rw [e]; simp
    · exact fun e' => e e'.symm
  clear hW2
  refine ⟨W2, hbr, ?_⟩
  unfold apBody apAB
  dsimp only
  gi_wp2_with (first
    | (gi_at_builtin; refine wpListIn_append_own _ rfl _ _ 42 rfl w0.heap.size 45 i0 (.agg #[.int .i64 0, .int .i64 0, .int .i64 0]) 3 24 Tryz.underlying42 hi hz0 hz1 hz2 rfl (by decide) _ _ _ rfl (hrow2.alloc _) ⟨W2.heap.size, 0, none⟩ 1 1 (encL ⟨xe, xc, xi⟩) rfl rfl (fun j u hj => cells_new W2 (encL ⟨xe, xc, xi⟩) 45 j u hj) (fun u hu => by simp [encL] at hu; rcases hu with rfl | rfl | rfl <;> rfl) (by omega) (by omega) (by have := hb2.size; simp; omega) ?_; intro v' w3 hown' hg3 hnil3
       have hv3 : w3.heap[Bs]? = some (.cells #[v] 42 (0, 0)) := (hg3.block Bs (by simp; omega) (ne_of hv2 (fun cur e => by first | cases e | exact hne (Obj.cells.inj e).2.1))).trans ((Below.heap_alloc _ _ Bs hBlt).trans hv2)
       obtain ⟨hc3, hf3⟩ := cell_of_box_a hv3
       obtain ⟨g', cap', cur', rfl, hbase', hgb', hr1, hr2, hr3, hr4⟩ : ∃ g' cap' cur', v' = .slice (some ⟨g', 0, none⟩) (ss.length + 1) cap' ∧ w0.heap.size ≤ g' ∧ w3.heap[g']? = some (.cells cur' 45 (0, 0)) ∧ ss.length + 1 ≤ cap' ∧ cap' ≤ maxLen ∧ cur'.size = cap' * 3 ∧ cur'.toList.take ((ss.length + 1) * 3) = flat ss ++ encL ⟨xe, xc, xi⟩ := by
         rcases hown'.2 with ⟨_, h0⟩ | h'
         · exact absurd h0 (by omega)
         · exact h'
       go_frame)
    | gi_round_op_a)
  have hg3' : (W2.alloc (.cells #[.int .i64 xe, .int .i64 xc, .int .i64 xi] 45)).grownBy w3 v.ownBlock := hg3
  have hL3 : w3.heap[l]? = some (.loop { apRec fn sv Bs D .ready none with state := .busy }) := (hg3'.block l (by simp; omega) (ne_of hL2 (fun cur e => by cases e))).trans ((Below.heap_alloc _ _ l hl2).trans hL2)
  have hK3 : w3.heap[D]? = some (.deferred (some [])) := (hg3'.block D (by simp; omega) (ne_of hK2 (fun cur e => by cases e))).trans ((Below.heap_alloc _ _ D hDlt).trans hK2)
  obtain ⟨w4, hw4⟩ : ∃ w4, w3.setCell ⟨Bs, 0, none⟩ (.slice (some ⟨g', 0, none⟩) (ss.length + 1) cap') = w4 := ⟨_, rfl⟩
  rw [hw4]
  have hg4 : w3.grownBy w4 (some Bs) := by rw [← hw4]; exact grownBy_setCell0_a _ _ _
  have hv4 : w4.heap[Bs]? = some (.cells #[.slice (some ⟨g', 0, none⟩) (ss.length + 1) cap'] 42 (0, 0)) := by rw [← hw4]; exact heap_setCell_box_a _ hv3
  have hL4 : w4.heap[l]? = some (.loop { apRec fn sv Bs D .ready none with state := .busy }) := (hg4.block l (Array.getElem?_eq_some_iff.1 hL3).1 (fun e => hBl (by cases e; rfl))).trans hL3
  have hK4 : w4.heap[D]? = some (.deferred (some [])) := (hg4.block D (Array.getElem?_eq_some_iff.1 hK3).1 (fun e => hDB (by cases e; rfl))).trans hK3
  have hrow4 := hown'.kept hg4 (ownsRow_ne_a hown' hv3 (fun cur e => by first | cases e | exact hne (Obj.cells.inj e).2.1))
  have hl4 : l < w4.heap.size := (Array.getElem?_eq_some_iff.1 hL4).1
  have hb3 : Below w0.heap.size w0 w3 := (hb2.alloc hb2.size _).grown hg3' (by have := hb2.size; simp; omega) (fun k e => (hrow2.lt k e).1)
  have hb4 : Below w0.heap.size w0 w4 := hb3.grown hg4 hb3.size (fun k e => by cases e; exact h0B)
  have hk4 : KeepsWalks W w4 := hkA.trans (((hk2.trans (KeepsWalks.alloc _ _)).trans (KeepsWalks.of_grownBy hg3' (ownsRow_not_walk_a (hrow2.alloc _)))).trans (by rw [← hw4]; exact KeepsWalks.setCell _ _ _))
  clear hw4
  refine ⟨_, _, run_endRound none hL4, rfl, ⟨⟨_, (World.putObj_heap_other hBl).trans hv4, ?_, by simp⟩, World.putObj_heap_same hl4, (World.putObj_heap_other hDl).trans hK4, hb4.grown (grownBy_putObj_a _ _ _) hb4.size (fun k e => by cases e; exact h0l)⟩, hk4.trans (KeepsWalks.putObj _ hL4 rfl)⟩
  have := hrow4.kept (grownBy_putObj_a w4 l (.loop { { apRec fn sv Bs D .ready none with state := .busy } with state := if (none : Option Code).isNone then .ready else .done, pending := none })) (ownsRow_ne_a hrow4 hL4 (fun cur e => by cases e))
  rw [flat_snoc]
  simpa using this

set_option maxRecDepth 100000 in
set_option maxHeartbeats 2000000 in
/-- slices.AppendSeq(nil, seq) -/
theorem appendSeq_in (F : Fence) (n : Nat) (h11 : F.fn 95) (hro : F.round = none) (hn : 2 ≤ n) (g : Nat) (lb : Array Value) (hFg : F.fn g) (eg : ∀ args w, (callFunc g args).run Tryz.prog w = .ok (.enter g args) w)
    (S : List Slot → Prop) (N : Nat) (hN : N ≤ maxLen) (hNb : N * 24 ≤ 140737488355328) (w : World) (hseq : SeqGives F (n - 1) Tryz.prog g lb encS S N w) :
    CallsIn F n Tryz.prog 95 #[.slice none 0 0, .func (.func g) #[] lb] w fun e w' => ∃ (v : Value) (ss : List Slot), e = .returned v ∧ S ss ∧ w'.ownsRow w.heap.size 45 3 v ss.length (flat ss) ∧ (v = .slice none 0 0 ↔ ss = []) ∧ Below w.heap.size w w' := by
  have h1 : 1 ≤ n := by omega
  have hne : (42 : Nat) ≠ 45 := by decide
  refine callsIn_of_wp_marks Tryz.func95 rfl h11 ?_ hro
  simp only [Tryz.ntmps95, List.size_toArray, List.length_cons, List.length_nil, Nat.reduceAdd, Nat.reduceSub, Array.replicate_succ, Array.replicate_zero, List.push_toArray, List.append_toArray, List.nil_append, List.cons_append]
  gi_wp2
  refine wpIn_rangeFunc ?_
  intro fn hfn
  rw [hro]
  obtain ⟨W0, hW0⟩ : ∃ W0, w.alloc (.cells #[.slice none 0 0] 42) = W0 := ⟨_, rfl⟩
  have hs0 : W0.heap.size = w.heap.size + 1 := by rw [← hW0]; simp
  have hv0 : W0.heap[w.heap.size]? = some (.cells #[.slice none 0 0] 42 (0, 0)) := by rw [← hW0]; exact World.alloc_heap_new w _
  have hb0 : Below w.heap.size w W0 := by rw [← hW0]; exact (Below.refl _ w).alloc (Nat.le_refl _) _
  rw [hW0]
  obtain ⟨W1, hW1⟩ : ∃ W1, (W0.alloc (.deferred (some []))).alloc (.loop (apRec fn (.func (.func g) #[] lb) w.heap.size W0.heap.size .ready none)) = W1 := ⟨_, rfl⟩
  have hold : ∀ k, k < W0.heap.size → W1.heap[k]? = W0.heap[k]? := fun k hk => by
    rw [← hW1]; exact (Below.heap_alloc _ _ k (by simp; omega)).trans (Below.heap_alloc _ _ k hk)
  have hb1 : Below w.heap.size w W1 := by rw [← hW1]; exact (hb0.alloc hb0.size _).alloc (by have := hb0.size; simp; omega) _
  have hs1 : W1.heap.size = W0.heap.size + 2 := by rw [← hW1]; simp
  have hM : ApAt w fn (.func (.func g) #[] lb) w.heap.size (W0.heap.size + 1) W0.heap.size [] W1 :=
    ⟨⟨_, (hold w.heap.size (by omega)).trans hv0, ⟨rfl, .inl ⟨rfl, rfl⟩⟩, by simp⟩,
     by rw [← hW1]; have := World.alloc_heap_new (W0.alloc (.deferred (some []))) (.loop (apRec fn (.func (.func g) #[] lb) w.heap.size W0.heap.size .ready none)); rwa [World.size_alloc] at this,
     by rw [← hW1]; exact (Below.heap_alloc _ _ _ (by simp)).trans (World.alloc_heap_new W0 _), hb1⟩
  refine ⟨W0.heap.size + 1, [{ target := .collected W0.heap.size, args := #[] }], W1, { target := .fn (.func g) lb, args := #[.func (.yield (W0.heap.size + 1)) #[] #[]] }, W1, g,
    #[.func (.yield (W0.heap.size + 1)) #[] #[]] ++ lb, W1, ?_, ?_, ?_, ?_, fun _ => h1, ?_⟩
  · rw [← hW1]; exact run_enterLoop_outer _ _ _ _ _
  · simp [resolve, go_sem]
  · intro f' hf'; simp [Target.leads] at hf'; subst hf'; exact hFg
  · simp [invoke, go_sem, eg]
  · refine (hseq (W0.heap.size + 1) (ApAt w fn (.func (.func g) #[] lb) w.heap.size (W0.heap.size + 1) W0.heap.size) W1 hb1 (ap_abides _ _ _ _ _ _ _ hb1.size)
      (fun pre x W hJ hl => apYield F (n - 1 - 1) w fn hfn _ w.heap.size (W0.heap.size + 1) W0.heap.size (by omega) (by omega) (by omega) (Nat.le_refl _) (by omega) N hN hNb pre x W hJ hl) hM).mono ?_
    rintro e W2 ⟨⟨v0, rfl⟩, ss, hS, h2⟩
    obtain ⟨v, hv, hrow, hnil⟩ := h2.box
    have hend := run_endLoop (P := Tryz.prog) h2.L (by simp [apRec])
    obtain ⟨W3, hW3⟩ : ∃ W3, W2.putObj (W0.heap.size + 1) (.loop { apRec fn (.func (.func g) #[] lb) w.heap.size W0.heap.size .ready none with state := .exhausted }) = W3 := ⟨_, rfl⟩
    rw [hW3] at hend
    have hg3 : W2.grownBy W3 (some (W0.heap.size + 1)) := by rw [← hW3]; exact grownBy_putObj_a _ _ _
    have hv3 : W3.heap[w.heap.size]? = some (.cells #[v] 42 (0, 0)) := by rw [← hW3]; exact (World.putObj_heap_other (by omega)).trans hv
    have hK3 : W3.heap[W0.heap.size]? = some (.deferred (some [])) := by rw [← hW3]; exact (World.putObj_heap_other (by omega)).trans h2.K
    have hrow3 := hrow.kept hg3 (ownsRow_ne_a hrow h2.L (fun cur e => by cases e))
    have hb3 : Below w.heap.size w W3 := h2.below.grown hg3 h2.below.size (fun k e => by cases e; omega)
    obtain ⟨hc3, hf3⟩ := cell_of_box_a hv3
    clear hW3
    refine ⟨none, W3, hend, ?_⟩
    gi_wp2
    rw [← hs0]
    refine ⟨by simp, .inl ⟨_, _, rfl, run_takeDeferred hK3, ?_⟩⟩
    exact ⟨_, results_tmp rfl _ _ _, v, ss, rfl, hS, hrow3.kept (grownBy_putObj_a _ _ _) (ownsRow_ne_a hrow3 hK3 (fun cur e => by cases e)), hnil, hb3.grown (grownBy_putObj_a _ _ _) hb3.size (fun k e => by cases e; omega)⟩

set_option maxHeartbeats 1000000 in
/-- slices.Collect(seq) -/
theorem collect_in (F : Fence) (n : Nat) (h8 : F.fn 83) (h11 : F.fn 95) (hro : F.round = none) (hn : 3 ≤ n) (g : Nat) (lb : Array Value) (hFg : F.fn g) (eg : ∀ args w, (callFunc g args).run Tryz.prog w = .ok (.enter g args) w)
    (S : List Slot → Prop) (N : Nat) (hN : N ≤ maxLen) (hNb : N * 24 ≤ 140737488355328) (w : World) (hseq : SeqGives F (n - 1 - 1) Tryz.prog g lb encS S N w) :
    CallsIn F n Tryz.prog 83 #[.func (.func g) #[] lb] w fun e w' => ∃ (v : Value) (ss : List Slot), e = .returned v ∧ S ss ∧ w'.ownsRow w.heap.size 45 3 v ss.length (flat ss) ∧ (v = .slice none 0 0 ↔ ss = []) ∧ Below w.heap.size w w' := by
  have h1 : 1 ≤ n := by omega
  have e11 : ∀ args w, (callFunc 95 args).run Tryz.prog w = .ok (.enter 95 args) w := enters_of Tryz.func95 (by kernel_rfl) rfl
  refine callsIn_of_wp Tryz.func83 rfl h8 ?_ hro
  simp only [Tryz.ntmps83, List.size_toArray, List.length_cons, List.length_nil, Nat.reduceAdd, Nat.reduceSub, Array.replicate_succ, Array.replicate_zero, List.push_toArray, List.append_toArray, List.nil_append, List.cons_append]
  gi_wp2_with (gi_at_fn 95; refine (appendSeq_in F (n - 1) h11 hro (by omega) g lb hFg eg S N hN hNb _ hseq).mono ?_; rintro e w' ⟨v, ss, rfl, hS, hrow, hnil, hb⟩)
  go_ret
  exact ⟨v, ss, rfl, hS, hrow, hnil, hb⟩
end Go.Proofs.YtmpbhoijkcanmaaGreat.R

/- Radix: the keys of a map of slots, sorted. -/
namespace Go.Proofs.YtmpbhoijkcanmaaGreat.R
open Go.ChangeShapes Go.WideShapes Go.ChangeAt Go.RowKit Go.Maps Go.Proofs.YtmpbhoijkcanmaaGreat.G Go.Sort Go.Shelf Go.Lib
set_option linter.unusedVariables false
set_option linter.unusedSimpArgs false
set_option linter.unnecessarySimpa false

/-- what is answered: the keys of a map, sorted -/
def sortedPost (L : List (Slot × Value)) (w : World) (e : Ending) (w' : World) : Prop := ∃ (v : Value) (ys : List Slot), e = .returned v ∧ ys.Perm (L.map (·.1)) ∧ ys.Pairwise leS ∧ w'.ownsRow w.heap.size 45 3 v ys.length (flat ys) ∧ Below w.heap.size w w'

theorem keysFB (b : Nat) (w : World) : Calls Tryz.prog 70 #[.map (some b)] w fun e w' => e = .returned (.func (.func 88) #[] #[.pointer (some ⟨w.heap.size, 0, none⟩)]) ∧ w.alloc (.cells #[.map (some b)] 86) = w' := by
  go_enter Tryz.func70, Tryz.ntmps70
  go_wp2
  go_ret
  exact ⟨rfl, rfl⟩

set_option maxRecDepth 100000 in
theorem sortedB (b : Nat) (L : List (Slot × Value)) (hL : L.length < 2 ^ 40) (w : World) (h : MapIs Tryz.prog 45 encS w b L) :
    Calls Tryz.prog 58 #[.map (some b)] w (sortedPost L w) := by
  have tA := (Turned.refl [] w).alloc (.cells #[.map (some b)] 86)
  have hseq : SeqGives Fence.wide 2 Tryz.prog 88 #[.pointer (some ⟨w.heap.size, 0, none⟩)] encS (fun ss => ss.Perm (L.map (·.1))) L.length (w.alloc (.cells #[.map (some b)] 86)) :=
    keys_givesB Fence.wide _ trivial rfl (by omega) w.heap.size b L _ (by simp) (by simp) (h.turned tA (by simp))
  have cC := collect_in Fence.wide 4 trivial trivial rfl (by omega) 88 #[.pointer (some ⟨w.heap.size, 0, none⟩)] trivial (enters_of Tryz.func88 (by kernel_rfl) rfl) _ _ (by unfold maxLen; omega) (by omega) _ hseq
  have cC := Lib.hid ((callsIn_wide (n := 4)).1 cC)
  have HF : Hid (∀ (w1 : World) (v : Value) (ss : List Slot), ss.Perm (L.map (·.1)) → w1.ownsRow (w.alloc (.cells #[.map (some b)] 86)).heap.size 45 3 v ss.length (flat ss) → Below (w.alloc (.cells #[.map (some b)] 86)).heap.size (w.alloc (.cells #[.map (some b)] 86)) w1 →
      Calls Tryz.prog 84 #[v, .func (.func 71) #[] #[]] w1 fun e w2 => e = .returned (.tuple #[]) ∧ sortedPost L w (.returned v) w2) := fun w1 v ss hp ho hb => by
    have hl : ss.length = L.length := by have := hp.length_eq; simpa using this
    refine (sort_ownsB ho (by omega)).mono fun e w2 ⟨e1, ys, y1, y2, y3, y4, y5⟩ => ⟨e1, v, ys, rfl, y1.trans hp, y2, ?_, ?_⟩
    · rw [y1.length_eq]
      refine ⟨y3.1, y3.2.imp id ?_⟩
      rintro ⟨g, cap, cur, a1, a2, a3⟩
      exact ⟨g, cap, cur, a1, by simp at a2; omega, a3⟩
    · have hb' : Below w.heap.size w w1 := by
        have := (Turned.of_below hb)
        exact (tA.trans (this.mono (fun _ _ h => by cases h))).below
      exact Turned.below_of hb' y4 (fun i hi => by have := y5 i hi; simp at this; omega)
  clear h hL tA hseq
  have CF : Hid (Calls Tryz.prog 62 #[.func (.func 88) #[] #[.pointer (some ⟨w.heap.size, 0, none⟩)], .func (.func 71) #[] #[]] (w.alloc (.cells #[.map (some b)] 86)) (sortedPost L w)) := by
    show Calls Tryz.prog 62 #[.func (.func 88) #[] #[.pointer (some ⟨w.heap.size, 0, none⟩)], .func (.func 71) #[] #[]] (w.alloc (.cells #[.map (some b)] 86)) (sortedPost L w)
    generalize w.alloc (.cells #[.map (some b)] 86) = wA at *
    obtain ⟨B, hB⟩ : ∃ B, w.heap.size = B := ⟨_, rfl⟩
    rw [hB] at cC ⊢
    clear hB
    go_enter Tryz.func62, Tryz.ntmps62
    go_wp2_with (first
      | (go_at_call 83; ((with_reducible refine cC.out.mono ?_); rintro e w1 ⟨v, ss, rfl, hS, hrow, hnil, hb⟩; have CS := Lib.hid (HF.out w1 v ss hS hrow hb); clear hS hrow hnil hb))
      | (go_at_call 84; ((with_reducible refine CS.out.mono ?_); rintro e w2 ⟨rfl, hp⟩; have HP := Lib.hid hp; clear hp)))
    go_ret
    exact HP.out
  have CK := Lib.hid (keysFB b w)
  generalize w.alloc (.cells #[.map (some b)] 86) = wA at *
  obtain ⟨B, hB⟩ : ∃ B, w.heap.size = B := ⟨_, rfl⟩
  rw [hB] at CF CK
  clear hB cC HF
  go_enter Tryz.func58, Tryz.ntmps58
  go_wp2_with (first
    | (go_at_call 70; ((with_reducible refine CK.out.mono ?_); rintro e w1 ⟨rfl, rfl⟩))
    | (go_at_call 62; ((with_reducible refine CF.out.mono ?_); rintro e w2 hp; obtain ⟨v, ys, rfl, hr⟩ := hp; have HR := Lib.hid hr; clear hr)))
  go_ret
  exact ⟨v, ys, rfl, HR.out⟩

theorem keysFI (b : Nat) (w : World) : Calls Tryz.prog 63 #[.map (some b)] w fun e w' => e = .returned (.func (.func 85) #[] #[.pointer (some ⟨w.heap.size, 0, none⟩)]) ∧ w.alloc (.cells #[.map (some b)] 101) = w' := by
  go_enter Tryz.func63, Tryz.ntmps63
  go_wp2
  go_ret
  exact ⟨rfl, rfl⟩

set_option maxRecDepth 100000 in
theorem sortedI (b : Nat) (L : List (Slot × Value)) (hL : L.length < 2 ^ 40) (w : World) (h : MapIs Tryz.prog 45 encS w b L) :
    Calls Tryz.prog 48 #[.map (some b)] w (sortedPost L w) := by
  have tA := (Turned.refl [] w).alloc (.cells #[.map (some b)] 101)
  have hseq : SeqGives Fence.wide 2 Tryz.prog 85 #[.pointer (some ⟨w.heap.size, 0, none⟩)] encS (fun ss => ss.Perm (L.map (·.1))) L.length (w.alloc (.cells #[.map (some b)] 101)) :=
    keys_givesI Fence.wide _ trivial rfl (by omega) w.heap.size b L _ (by simp) (by simp) (h.turned tA (by simp))
  have cC := collect_in Fence.wide 4 trivial trivial rfl (by omega) 85 #[.pointer (some ⟨w.heap.size, 0, none⟩)] trivial (enters_of Tryz.func85 (by kernel_rfl) rfl) _ _ (by unfold maxLen; omega) (by omega) _ hseq
  have cC := Lib.hid ((callsIn_wide (n := 4)).1 cC)
  have HF : Hid (∀ (w1 : World) (v : Value) (ss : List Slot), ss.Perm (L.map (·.1)) → w1.ownsRow (w.alloc (.cells #[.map (some b)] 101)).heap.size 45 3 v ss.length (flat ss) → Below (w.alloc (.cells #[.map (some b)] 101)).heap.size (w.alloc (.cells #[.map (some b)] 101)) w1 →
      Calls Tryz.prog 84 #[v, .func (.func 64) #[] #[]] w1 fun e w2 => e = .returned (.tuple #[]) ∧ sortedPost L w (.returned v) w2) := fun w1 v ss hp ho hb => by
    have hl : ss.length = L.length := by have := hp.length_eq; simpa using this
    refine (sort_ownsI ho (by omega)).mono fun e w2 ⟨e1, ys, y1, y2, y3, y4, y5⟩ => ⟨e1, v, ys, rfl, y1.trans hp, y2, ?_, ?_⟩
    · rw [y1.length_eq]
      refine ⟨y3.1, y3.2.imp id ?_⟩
      rintro ⟨g, cap, cur, a1, a2, a3⟩
      exact ⟨g, cap, cur, a1, by simp at a2; omega, a3⟩
    · have hb' : Below w.heap.size w w1 := by
        have := (Turned.of_below hb)
        exact (tA.trans (this.mono (fun _ _ h => by cases h))).below
      exact Turned.below_of hb' y4 (fun i hi => by have := y5 i hi; simp at this; omega)
  clear h hL tA hseq
  have CF : Hid (Calls Tryz.prog 62 #[.func (.func 85) #[] #[.pointer (some ⟨w.heap.size, 0, none⟩)], .func (.func 64) #[] #[]] (w.alloc (.cells #[.map (some b)] 101)) (sortedPost L w)) := by
    show Calls Tryz.prog 62 #[.func (.func 85) #[] #[.pointer (some ⟨w.heap.size, 0, none⟩)], .func (.func 64) #[] #[]] (w.alloc (.cells #[.map (some b)] 101)) (sortedPost L w)
    generalize w.alloc (.cells #[.map (some b)] 101) = wA at *
    obtain ⟨B, hB⟩ : ∃ B, w.heap.size = B := ⟨_, rfl⟩
    rw [hB] at cC ⊢
    clear hB
    go_enter Tryz.func62, Tryz.ntmps62
    go_wp2_with (first
      | (go_at_call 83; ((with_reducible refine cC.out.mono ?_); rintro e w1 ⟨v, ss, rfl, hS, hrow, hnil, hb⟩; have CS := Lib.hid (HF.out w1 v ss hS hrow hb); clear hS hrow hnil hb))
      | (go_at_call 84; ((with_reducible refine CS.out.mono ?_); rintro e w2 ⟨rfl, hp⟩; have HP := Lib.hid hp; clear hp)))
    go_ret
    exact HP.out
  have CK := Lib.hid (keysFI b w)
  generalize w.alloc (.cells #[.map (some b)] 101) = wA at *
  obtain ⟨B, hB⟩ : ∃ B, w.heap.size = B := ⟨_, rfl⟩
  rw [hB] at CF CK
  clear hB cC HF
  go_enter Tryz.func48, Tryz.ntmps48
  go_wp2_with (first
    | (go_at_call 63; ((with_reducible refine CK.out.mono ?_); rintro e w1 ⟨rfl, rfl⟩))
    | (go_at_call 62; ((with_reducible refine CF.out.mono ?_); rintro e w2 hp; obtain ⟨v, ys, rfl, hr⟩ := hp; have HR := Lib.hid hr; clear hr)))
  go_ret
  exact ⟨v, ys, rfl, HR.out⟩
end Go.Proofs.YtmpbhoijkcanmaaGreat.R

/- Radix: Drop, Slots: the plain law. -/
namespace Go.Proofs.YtmpbhoijkcanmaaGreat.R
open Go.ChangeShapes Go.WideShapes Go.ChangeAt Go.RowKit Go.Maps Go.Proofs.YtmpbhoijkcanmaaGreat.G
set_option linter.unusedVariables false
set_option linter.unusedSimpArgs false
set_option linter.unnecessarySimpa false

variable {F G : Fo} {pend : Nat → Nat} {pendS : Slot → Nat} {exc : Nat} {w w' : World} {p : Pf} {L : Nat}
theorem nodup_sub {α : Type} [DecidableEq α] : ∀ (l l' : List α), l.Nodup → (∀ x ∈ l, x ∈ l') → l.length ≤ l'.length
  | [], l', _, _ => Nat.zero_le _
  | a :: l, l', hnd, h => by
    rw [List.nodup_cons] at hnd
    have ha := h a List.mem_cons_self
    have ih := nodup_sub l (l'.erase a) hnd.2 (fun x hx => (List.mem_erase_of_ne (fun (e : x = a) => hnd.1 (e ▸ hx))).2 (h x (List.mem_cons_of_mem _ hx)))
    have hl := List.length_erase_of_mem ha
    have := List.length_pos_of_mem ha
    simp only [List.length_cons]; omega
/-- the slots of all nodes' entries -/
def slotsL (F : Fo) : List Slot := F.ids.flatMap fun m => (List.range 16).map fun q => ((F.nd m).ents q).s
theorem slotsL_len (F : Fo) : (slotsL F).length = 16 * F.ids.length := by
  unfold slotsL
  induction F.ids with
  | nil => rfl
  | cons a l ih => rw [List.flatMap_cons, List.length_append, ih, List.length_map, List.length_range, List.length_cons]; omega
theorem slHits_some {x : Node} {j : Nat} {s : Slot} (h : 0 < slHits x j s) : ∃ q, q < j ∧ x.bits.testBit q = true ∧ (x.ents q).s = s := by
  unfold slHits at h
  rw [List.countP_pos_iff] at h
  obtain ⟨q, hq, h⟩ := h
  simp only [Bool.and_eq_true, decide_eq_true_eq] at h
  exact ⟨q, List.mem_range.1 hq, h.1, h.2⟩
theorem slc_some {s : Slot} (h : 0 < slc F s) : ∃ m, m ∈ F.ids ∧ ∃ q, q < 16 ∧ (F.nd m).bits.testBit q = true ∧ ((F.nd m).ents q).s = s := by
  unfold slc at h
  have : ∀ l : List Nat, 0 < (l.map fun m => slHits (F.nd m) 16 s).sum → ∃ m, m ∈ l ∧ 0 < slHits (F.nd m) 16 s := by
    intro l
    induction l with
    | nil => intro h; simp at h
    | cons a l ih =>
      intro h
      rw [List.map_cons, List.sum_cons] at h
      by_cases h0 : 0 < slHits (F.nd a) 16 s
      · exact ⟨a, List.mem_cons_self, h0⟩
      · obtain ⟨m, hm, hp⟩ := ih (by omega)
        exact ⟨m, List.mem_cons_of_mem _ hm, hp⟩
  obtain ⟨m, hm, hp⟩ := this _ h
  exact ⟨m, hm, slHits_some hp⟩
theorem slc_pos {s : Slot} {m q : Nat} (hm : m ∈ F.ids) (hq : q < 16) (hb : (F.nd m).bits.testBit q = true) (hs : ((F.nd m).ents q).s = s) : 0 < slc F s := by
  unfold slc
  have h1 : 0 < slHits (F.nd m) 16 s := by
    unfold slHits
    rw [List.countP_pos_iff]
    exact ⟨q, List.mem_range.2 hq, by simp [hb, hs]⟩
  have : ∀ l : List Nat, m ∈ l → 0 < (l.map fun m => slHits (F.nd m) 16 s).sum := by
    intro l
    induction l with
    | nil => intro h; cases h
    | cons a l ih =>
      intro hl
      rw [List.map_cons, List.sum_cons]
      rcases List.mem_cons.1 hl with e | hl
      · subst e; omega
      · have := ih hl; omega
  exact this _ hm
theorem mem_slotsL {s : Slot} (h : 0 < slc F s) : s ∈ slotsL F := by
  obtain ⟨m, hm, q, hq, _, hs⟩ := slc_some h
  unfold slotsL
  rw [List.mem_flatMap]
  exact ⟨m, hm, List.mem_map.2 ⟨q, List.mem_range.2 hq, hs⟩⟩
theorem mem_keys {l : List (Slot × Value)} {s : Slot} : s ∈ l.map (·.1) ↔ (mget l s).isSome = true := by
  constructor
  · intro h
    cases e : mget l s with
    | some v => rfl
    | none =>
      have := look_none.1 e
      obtain ⟨p, hp, rfl⟩ := List.mem_map.1 h
      exact absurd rfl (this p hp)
  · intro h
    rcases Classical.em (s ∈ l.map (·.1)) with h' | h'
    · exact h'
    · rw [look_none.2 (fun p hp e => h' (List.mem_map.2 ⟨p, hp, e⟩))] at h; cases h
theorem Ok.len (h : Ok F L) : F.ids.length ≤ L + 1 := Nat.le_trans h.inv.len (by have := h.last; omega)
/-- which slots there are -/
def HasS (F : Fo) (s : Slot) : Prop := 0 < cnt F.sl s
theorem HasS.ent (h : Ok F L) {s : Slot} (hs : HasS F s) : ∃ m, m ∈ F.ids ∧ ∃ q, q < 16 ∧ (F.nd m).bits.testBit q = true ∧ ((F.nd m).ents q).s = s := slc_some (by have := h.inv.sls s; unfold HasS at hs; omega)
theorem HasS.of (h : Ok F L) {m q : Nat} (hm : m ∈ F.ids) (hq : q < 16) (hb : (F.nd m).bits.testBit q = true) : HasS F ((F.nd m).ents q).s := by
  have := slc_pos (F := F) hm hq hb rfl
  have := h.inv.sls ((F.nd m).ents q).s
  unfold HasS; omega
theorem HasS.ok (h : Ok F L) {s : Slot} (hs : HasS F s) : s.ok := by
  obtain ⟨m, hm, q, hq, hb, rfl⟩ := HasS.ent h hs
  exact ((h.inv.ok m hm).ents q hq hb).1
theorem keys_le (h : Ok F L) {l : List (Slot × Value)} (hnd : (l.map (·.1)).Nodup) (hl : ∀ s, (mget l s).isSome = true → HasS F s) : l.length ≤ 16 * (L + 1) := by
  have := nodup_sub (l.map (·.1)) (slotsL F) hnd (fun s hs => mem_slotsL (by
    have h1 := hl s (mem_keys.1 hs)
    have := h.inv.sls s
    unfold HasS at h1; omega))
  rw [List.length_map, slotsL_len] at this
  have := h.len
  omega
/-- slots, in their order -/
structure SlotsIs (C : Slot → Prop) (ys : List Slot) : Prop where
  mem : ∀ s, s ∈ ys ↔ C s
  nodup : ys.Nodup
  sorted : ys.Pairwise leS
/-- a root is held once less -/
def unheldL (F : Fo) (r : Nat) : List (Int × Value) := if cnt F.held (r : Int) = 1 then mdel (mput F.held (r : Int) (.int .i64 0)) (r : Int) else mput F.held (r : Int) (.int .i64 (cnt F.held (r : Int) - 1 : Nat))
def unheld (F : Fo) (r : Nat) : Fo := { F with held := unheldL F r }
theorem unheld_cnt (F : Fo) (r : Nat) (i : Int) : cnt (unheld F r).held i = if i = r then cnt F.held i - 1 else cnt F.held i := by
  show cnt (unheldL F r) i = _
  unfold unheldL
  by_cases h1 : cnt F.held (r : Int) = 1
  · rw [if_pos h1, cnt_del]
    by_cases e : i = r
    · subst e; rw [if_pos rfl, if_pos rfl, h1]
    · rw [if_neg e, if_neg e]
      unfold cnt
      rw [look_put, if_neg e]
  · rw [if_neg h1, cnt_put]
    by_cases e : i = r
    · subst e; rw [if_pos rfl]
    · rw [if_neg e, if_neg e]
theorem unheld_ext (F : Fo) (r : Nat) : Ext F (unheld F r) ∧ Ext (unheld F r) F := ⟨⟨fun _ h => h, fun _ _ => rfl, fun _ _ => rfl, fun _ _ => rfl, fun _ _ => rfl⟩, ⟨fun _ h => h, fun _ _ => rfl, fun _ _ => rfl, fun _ _ => rfl, fun _ _ => rfl⟩⟩
theorem Inv.unheld (h : Inv F (fun _ => 0) (fun _ => 0) 0) {r : Nat} (hr : 0 < cnt F.held (r : Int)) : Inv (R.unheld F r) (fun i => if i = r then 1 else 0) (fun _ => 0) 0 :=
  ⟨h.nd, h.pos, h.lev, fun i hi => (h.ok i hi).ext (unheld_ext F r).1, h.full, fun i hi => by
    have := h.refs i hi
    rw [unheld_cnt]
    show (F.nd i).refs = refc F i + _ + _
    have e : ((i : Int) = r) ↔ i = r := by omega
    simp only [e]
    by_cases e : i = r
    · subst e; rw [if_pos rfl, if_pos rfl]; omega
    · rw [if_neg e, if_neg e]; omega, fun q hq => h.held q (by
      rw [unheld_cnt] at hq
      split at hq
      · omega
      · exact hq), h.sls, h.live⟩
/-- what came of Drop -/
structure DropIs (F : Fo) (L r : Nat) (G : Fo) (ys : List Slot) : Prop where
  ok : Ok G L
  ext : Ext G F
  held : ∀ i : Int, cnt G.held i = if r ≠ 0 ∧ i = r then cnt F.held i - 1 else cnt F.held i
  last : G.last = F.last
  gone : SlotsIs (fun s => HasS F s ∧ ¬ HasS G s) ys
theorem DropIs.zero (h : Ok F L) : DropIs F L 0 F [] :=
  ⟨h, Ext.refl F, fun i => by rw [if_neg (by simp)], rfl, ⟨fun s => ⟨fun h => (by cases h), fun h => absurd h.1 h.2⟩, List.nodup_nil, List.Pairwise.nil⟩⟩
theorem drop_is (h : Ok F L) {r : Nat} (h0 : r ≠ 0) (hr : 0 < cnt F.held (r : Int)) {g : List (Slot × Value)} {ys : List Slot} (hs : Sub (unheld F r) G) (hi : Inv G (dec1 (fun i => if i = r then 1 else 0) r) (fun _ => 0) 0) (hg : Gone (unheld F r) G [] g) (hgn : (g.map (·.1)).Nodup)
    (hp : ys.Perm (g.map (·.1))) (hso : ys.Pairwise leS) : DropIs F L r G ys := by
  have hi' : Inv G (fun _ => 0) (fun _ => 0) 0 := hi.pendEq (fun i _ => by
    unfold dec1
    by_cases e : i = r
    · rw [if_pos e]; simp [e]
    · rw [if_neg e]; simp [e]) (fun _ => rfl)
  have hh : ∀ i : Int, cnt G.held i = if r ≠ 0 ∧ i = r then cnt F.held i - 1 else cnt F.held i := fun i => by
    rw [hs.held, unheld_cnt]
    by_cases e : i = r
    · rw [if_pos e, if_pos ⟨h0, e⟩]
    · rw [if_neg e, if_neg (fun h => e h.2)]
  refine ⟨⟨hi', by rw [hs.last]; exact h.last, fun i => ?_⟩, hs.ext.trans (unheld_ext F r).2, hh, hs.last, ⟨fun s => ?_, hp.nodup_iff.2 hgn, hso⟩⟩
  · rw [hh]; have := h.held i; split <;> omega
  · rw [hp.mem_iff, mem_keys, hg s]
    unfold HasS
    constructor
    · rintro (h' | ⟨h1, h2⟩)
      · cases h'
      · exact ⟨h1, by omega⟩
    · rintro ⟨h1, h2⟩
      exact .inr ⟨h1, by omega⟩
end Go.Proofs.YtmpbhoijkcanmaaGreat.R

/- Radix: Drop, Slots: the walk. -/
namespace Go.Proofs.YtmpbhoijkcanmaaGreat.R
open Go.ChangeShapes Go.WideShapes Go.ChangeAt Go.RowKit Go.Maps Go.Proofs.YtmpbhoijkcanmaaGreat.G
set_option linter.unusedVariables false
set_option linter.unusedSimpArgs false
set_option linter.unnecessarySimpa false

variable {F G : Fo} {w w' : World} {p : Pf} {L : Nat}
theorem owns_mono {w : World} {base base' : Nat} {e : TypeId} {size : Nat} {v : Value} {n : Nat} {xs : List Value} (h : w.ownsRow base e size v n xs) (hb : base' ≤ base) : w.ownsRow base' e size v n xs := by
  refine ⟨h.1, h.2.imp id ?_⟩
  rintro ⟨g, cap, cur, e1, e2, e3⟩
  exact ⟨g, cap, cur, e1, Nat.le_trans hb e2, e3⟩
/-- what Slots answers -/
def slotsPost (C : Slot → Prop) (w : World) (e : Ending) (w' : World) : Prop := ∃ (v : Value) (ys : List Slot), e = .returned v ∧ SlotsIs C ys ∧ w'.ownsRow w.heap.size 45 3 v ys.length (flat ys) ∧ Below w.heap.size w w'
set_option maxRecDepth 100000 in
theorem slots_fn (h : Ok F L) (hL : L ≤ 2 ^ 34) (w : World) (hF : FoAt w p F) : Calls Tryz.prog 31 #[.pointer (some ⟨p.f, 0, none⟩)] w (slotsPost (HasS F) w) := by
  have CN := Lib.hid (none_fn _ hF)
  have c2 := hF.c2
  have hk : ∀ s, (mget F.sl s).isSome = true ↔ HasS F s := fun s => hF.ns.some_iff s
  have CS := Lib.hid (sortedI p.s F.sl (by have := keys_le h hF.sl.nodup (fun s hs => (hk s).1 hs); omega) w hF.sl)
  have HE : Hid (∀ e w', sortedPost F.sl w e w' → slotsPost (HasS F) w e w') := by
    rintro e w' ⟨v, ys, he, h1, h2, h3, h4⟩
    exact ⟨v, ys, he, ⟨fun s => by rw [h1.mem_iff, mem_keys, hk], h1.nodup_iff.2 hF.sl.nodup, h2⟩, h3, h4⟩
  clear hF hk h
  go_enter Tryz.func31, Tryz.ntmps31
  go_wp2_with (first
    | (go_at_call 47; ((with_reducible refine CN.out.mono ?_); rintro e ww ⟨rfl, rfl⟩))
    | (go_at_call 48; ((with_reducible refine CS.out.mono ?_); rintro e w2 hp; obtain ⟨v, ys, rfl, hr⟩ := HE.out _ _ hp; have HR := Lib.hid hr; clear hr hp)))
  go_ret
  exact ⟨v, ys, rfl, HR.out⟩
/-- what Drop answers -/
def dropPost (p : Pf) (F : Fo) (L r : Nat) (w : World) (e : Ending) (w' : World) : Prop :=
  ∃ (v : Value) (G : Fo) (ys : List Slot), e = .returned (.tuple #[v, .int .i64 0]) ∧ DropIs F L r G ys ∧ w'.ownsRow w.heap.size 45 3 v ys.length (flat ys) ∧ FoAt w' p G ∧ FoOwn p F w w'
set_option maxRecDepth 100000 in
set_option maxHeartbeats 1000000 in
theorem drop_fn (h : Ok F L) (hL : L ≤ 2 ^ 34) {r : Nat} (hr : isB F (r : Int) = true) (w : World) (hF : FoAt w p F) :
    Calls Tryz.prog 38 #[.pointer (some ⟨p.f, 0, none⟩), .int .i64 (r : Nat)] w (dropPost p F L r w) := by
  have hr' := h.inv.root hr
  have hlt : r < 2 ^ 60 := by
    rcases hr' with h0 | ⟨h1, _⟩
    · omega
    · have := (h.inv.pos _ h1).2; have := h.last; omega
  have CN := Lib.hid (none_fn _ hF)
  have CI := Lib.hid (is_fn (r : Int) (by unfold I64; omega) _ hF)
  rw [hr] at CI
  by_cases h0 : r = 0
  · subst h0
    have HE : Hid (dropPost p F L 0 w (.returned (.tuple #[.slice none 0 0, .int .i64 0])) w) := ⟨_, F, [], rfl, DropIs.zero h, ⟨rfl, .inl ⟨rfl, rfl⟩⟩, hF, FoOwn.of (Turned.refl [] w)⟩
    have hz : ((0 : Nat) : Int) = 0 := rfl
    rw [hz] at CI
    clear h hF hr' hr hz
    go_enter Tryz.func38, Tryz.ntmps38
    go_wp2_with (first
      | (go_at_call 47; ((with_reducible refine CN.out.mono ?_); rintro e ww ⟨rfl, rfl⟩))
      | (go_at_call 50; ((with_reducible refine CI.out.mono ?_); rintro e ww ⟨rfl, rfl⟩)))
    go_ret2
    exact HE.out
  · have hne : ((r : Int) == 0) = false := by simpa using h0
    have hc := ((isB_iff F r).1 hr).resolve_left h0
    obtain ⟨hm, hlev⟩ := hr'.resolve_left h0
    have c1 := hF.c1
    have hLk := hF.look_held (r : Int) (by unfold I64; omega)
    obtain ⟨kk, hkk⟩ := keyI (r : Nat) (by unfold I64; omega)
    have HKK := Lib.hid hkk
    have HM := Lib.hid hF.held
    have hs := h.small (by omega)
    -- behind the counting down
    have HL : Hid (∀ w2, FoAt w2 p (unheld F r) → FoOwn p F w w2 → ∀ w3 gb, w3 = w2.alloc (.map #[] 0) → gb = w2.heap.size → Calls Tryz.prog 57 #[.pointer (some ⟨p.f, 0, none⟩), .int .i64 (r : Nat), .map (some gb)] w3 fun e w4 => e = .returned (.tuple #[]) ∧
        Calls Tryz.prog 58 #[.map (some gb)] w4 fun e w5 => ∃ v, e = .returned v ∧ dropPost p F L r w (.returned (.tuple #[v, .int .i64 0])) w5) := by
      intro w2 hF2 hO2 w3 gb hw3 hgb
      have t3 := (Turned.refl [] w2).alloc (.map #[] 0)
      rw [← hw3] at t3
      have hF3 := hF2.calm t3
      have hM3 : MapIs Tryz.prog 45 encS w3 gb [] := by rw [hw3, hgb]; exact MapIs.made w2
      have hgo : ¬ p.own (unheld F r) gb := fun ho => by have := hF2.lt ho; omega
      have hI := h.inv.unheld hc
      refine (less_fn 0 (by omega) p gb (unheld F r) _ _ r [] w3 hI hm hlev (by rw [if_pos rfl]; omega) (by have := h.last; show F.last ≤ _; omega) (fun i hi => by have := h.inv.refs_le hs i hi; show (F.nd i).refs ≤ _; omega) hF3 hM3 hgo).mono fun e w4 ⟨e1, G, g, l1, l2, l3, l4, l5, l6, l7⟩ => ⟨e1, ?_⟩
      have hsz : w.heap.size ≤ w4.heap.size := Nat.le_trans hO2.size (Nat.le_trans t3.size l7.size)
      refine (sortedB gb g (by
        have := keys_le h l6.nodup (fun s hs => by
          rcases (l4 s).1 hs with h' | ⟨h', _⟩
          · cases h'
          · exact h')
        omega) w4 l6).mono fun e w5 ⟨v, ys, s1, s2, s3, s4, s5⟩ => ⟨v, s1, v, G, ys, rfl, drop_is h h0 hc l1 l2 l4 l6.nodup s2 s3, owns_mono s4 hsz, l5.calm (Turned.of_below s5), ?_⟩
      have o1 : FoOwn p F w w3 := hO2.step t3 (by simp)
      obtain ⟨S, tS, hS⟩ := l7
      exact (o1.step tS (fun b hb => by
        rcases hS b hb with h' | h'
        · exact .inr h'
        · have := hO2.size; exact .inl (by omega))).step (Turned.of_below s5) (by simp)
    have hdis := hF.dis
    by_cases h1 : cnt F.held (r : Int) = 1
    · have HD : Hid (∀ w2, MapIs Tryz.prog 3 encI w2 p.h (mput F.held (r : Int) (.int .i64 0)) → Turned [p.h] w w2 → w2.cell? ⟨p.f, 1, none⟩ = some (.map (some p.h)) ∧ (Instr.lookup 100 (.map (some p.h)) (.int .i64 (r : Nat)) false).run Tryz.prog w2 = .ok (.int .i64 0) w2 ∧
          ∀ w3, MapIs Tryz.prog 3 encI w3 p.h (mdel (mput F.held (r : Int) (.int .i64 0)) (r : Int)) → Turned [p.h] w2 w3 → FoAt w3 p (unheld F r) ∧ FoOwn p F w w3) := fun w2 hm2 ht2 => by
        have hlk := hm2.run_look keyedI encI_inj Tryz.underlying100 (zeroI w2) (r : Int) hkk false
        rw [look_put, if_pos rfl] at hlk
        refine ⟨ht2.cell c1 (by simpa using hdis.1.2.1), hlk, fun w3 hm3 ht3 => ?_⟩
        have := hF.setHeld (l := unheldL F r) (by unfold unheldL; rw [if_pos h1]; exact hm3) (by unfold unheldL; rw [if_pos h1]; exact hF.nh.put0 _ _) (ht2.trans ht3)
        exact ⟨this, (FoOwn.of (Turned.refl [] w)).step (ht2.trans ht3) (fun b hb => by simp at hb; subst hb; exact .inr (.inr (.inr (.inl rfl))))⟩
      rw [h1] at hLk
      have hmm := @run_makeMap Tryz.prog
      clear h hL hF hr' hr hc hs hlev hdis h1 hm h0 hkk
      go_enter Tryz.func38, Tryz.ntmps38
      go_upto_region 8 with (first
        | (go_at_call 47; ((with_reducible refine CN.out.mono ?_); rintro e ww ⟨rfl, rfl⟩))
        | (go_at_call 50; ((with_reducible refine CI.out.mono ?_); rintro e ww ⟨rfl, rfl⟩))
        | (at_mapUpdate; refine wp_put _ rfl _ _ _ 100 rfl keyedI encI_inj Tryz.underlying100 p.h F.held rfl HM.out (r : Int) rfl _ rfl HKK.out ?_; intro w2 hm2 ht2; have HM2 := Lib.hid hm2; obtain ⟨d0, d1, d2⟩ := HD.out w2 hm2 ht2; have HD2 := Lib.hid d2; clear hm2 ht2 d2))
      go_upto_region 10 with (at_delete; refine wp_del _ rfl _ _ 100 3 rfl keyedI encI_inj Tryz.underlying100 p.h _ rfl HM2.out (r : Int) rfl HKK.out ?_; intro w3 hm3 ht3; obtain ⟨f1, f2⟩ := HD2.out w3 hm3 ht3; have HL3 := Lib.hid (HL.out w3 f1 f2); clear hm3 ht3 f1 f2)
      go_wp2_with (first
        | (go_at_call 57; ((with_reducible refine (HL3.out _ _ rfl rfl).mono ?_); rintro e w4 ⟨rfl, h4⟩; have H4 := Lib.hid h4; clear h4))
        | (go_at_call 58; ((with_reducible refine H4.out.mono ?_); rintro e w5 ⟨v, rfl, h5⟩; have H5 := Lib.hid h5; clear h5)))
      go_ret2
      exact H5.out
    · have hC2 : 2 ≤ cnt F.held (r : Int) := by omega
      have hC50 := hF.nh.le (r : Int)
      have hcast : ((cnt F.held (r : Int) : Int) - 1) = ((cnt F.held (r : Int) - 1 : Nat) : Int) := by omega
      have HD : Hid (∀ w2, MapIs Tryz.prog 3 encI w2 p.h (mput F.held (r : Int) (.int .i64 ((cnt F.held (r : Int) : Int) - 1))) → Turned [p.h] w w2 → w2.cell? ⟨p.f, 1, none⟩ = some (.map (some p.h)) ∧ (Instr.lookup 100 (.map (some p.h)) (.int .i64 (r : Nat)) false).run Tryz.prog w2 = .ok (.int .i64 ((cnt F.held (r : Int) : Int) - 1)) w2 ∧
          FoAt w2 p (unheld F r) ∧ FoOwn p F w w2) := fun w2 hm2 ht2 => by
        have hlk := hm2.run_look keyedI encI_inj Tryz.underlying100 (zeroI w2) (r : Int) hkk false
        rw [look_put, if_pos rfl] at hlk
        rw [hcast] at hm2
        have := hF.setHeld (l := unheldL F r) (by unfold unheldL; rw [if_neg h1]; exact hm2) (by unfold unheldL; rw [if_neg h1]; exact hF.nh.put _ _ (by omega) (by omega)) ht2
        exact ⟨ht2.cell c1 (by simpa using hdis.1.2.1), hlk, this, (FoOwn.of (Turned.refl [] w)).step ht2 (fun b hb => by simp at hb; subst hb; exact .inr (.inr (.inr (.inl rfl))))⟩
      have hmm := @run_makeMap Tryz.prog
      clear h hL hF hr' hr hc hs hlev hdis h1 hm h0 hkk hcast
      generalize cnt F.held (r : Int) = C at *
      have hcb : ((C : Int) - 1 == 0) = false := by simp; omega
      go_enter Tryz.func38, Tryz.ntmps38
      go_upto_region 8 with (first
        | (go_at_call 47; ((with_reducible refine CN.out.mono ?_); rintro e ww ⟨rfl, rfl⟩))
        | (go_at_call 50; ((with_reducible refine CI.out.mono ?_); rintro e ww ⟨rfl, rfl⟩))
        | (at_mapUpdate; refine wp_put _ rfl _ _ _ 100 rfl keyedI encI_inj Tryz.underlying100 p.h F.held rfl HM.out (r : Int) rfl _ rfl HKK.out ?_; intro w2 hm2 ht2; obtain ⟨d0, d1, f1, f2⟩ := HD.out w2 hm2 ht2; have HL3 := Lib.hid (HL.out w2 f1 f2); clear hm2 ht2 f1 f2))
      go_wp2_with (first
        | (go_at_call 57; ((with_reducible refine (HL3.out _ _ rfl rfl).mono ?_); rintro e w4 ⟨rfl, h4⟩; have H4 := Lib.hid h4; clear h4))
        | (go_at_call 58; ((with_reducible refine H4.out.mono ?_); rintro e w5 ⟨v, rfl, h5⟩; have H5 := Lib.hid h5; clear h5)))
      go_ret2
      exact H5.out
end Go.Proofs.YtmpbhoijkcanmaaGreat.R
