/- Maps of pages, and versions of them: lemmas, part 3 of 23. -/
import Derived.Test.YtmpbhoijkcanmaaGreatQ02

/- Radix: a node is copied. -/
namespace Go.Proofs.YtmpbhoijkcanmaaGreat.R
open Go.ChangeShapes Go.WideShapes Go.ChangeAt Go.RowKit Go.Maps Go.Proofs.YtmpbhoijkcanmaaGreat.G
set_option linter.unusedVariables false
set_option linter.unusedSimpArgs false
set_option linter.unnecessarySimpa false

variable {w w' : World} {p : Pf} {F : Fo}
/-- what copied is handed: what changes the node -/
inductive Fn where
  | leaf (bc bi i : Nat) (c : Chg)
  | kid (bk bi i k : Nat)
def Fn.val : Fn → Value
  | .leaf bc bi _ _ => .func (.func 68) #[] #[.pointer (some ⟨bc, 0, none⟩), .pointer (some ⟨bi, 0, none⟩)]
  | .kid bk bi _ _ => .func (.func 69) #[] #[.pointer (some ⟨bk, 0, none⟩), .pointer (some ⟨bi, 0, none⟩)]
def Fn.At (w : World) : Fn → Prop
  | .leaf bc bi i c => c.At w ∧ w.cell? ⟨bc, 0, none⟩ = some c.val ∧ w.cell? ⟨bi, 0, none⟩ = some (.int .i64 (i : Nat)) ∧ i < 16
  | .kid bk bi i k => w.cell? ⟨bk, 0, none⟩ = some (.int .i64 (k : Nat)) ∧ w.cell? ⟨bi, 0, none⟩ = some (.int .i64 (i : Nat)) ∧ i < 16
def Fn.app (x : Node) : Fn → Node
  | .leaf _ _ i c => c.app x i
  | .kid _ _ i k => setKid x i k
theorem EntAt.lt {b : Nat} {e : Ent} (h : EntAt w b e) : b < w.heap.size := lt_of_cell h.c0
theorem Chg.At.above {c : Chg} (h : c.At w) {S : List Nat} (t : Turned S w w') (hS : ∀ b ∈ S, w.heap.size ≤ b) : c.At w' := by
  cases c with
  | set be e => exact EntAt.turned h t (fun hm => by have := hS _ hm; have := EntAt.lt h; omega)
  | clear => trivial
theorem Fn.At.above {f : Fn} (h : f.At w) {S : List Nat} (t : Turned S w w') (hS : ∀ b ∈ S, w.heap.size ≤ b) : f.At w' := by
  cases f with
  | leaf bc bi i c =>
    obtain ⟨h1, h2, h3, h4⟩ := h
    exact ⟨h1.above t hS, t.cell h2 (fun hm => by have := hS _ hm; have := lt_of_cell h2; simp only at *; omega), t.cell h3 (fun hm => by have := hS _ hm; have := lt_of_cell h3; simp only at *; omega), h4⟩
  | kid bk bi i k =>
    obtain ⟨h2, h3, h4⟩ := h
    exact ⟨t.cell h2 (fun hm => by have := hS _ hm; have := lt_of_cell h2; simp only at *; omega), t.cell h3 (fun hm => by have := hS _ hm; have := lt_of_cell h3; simp only at *; omega), h4⟩
def copY (F : Fo) (n : Nat) : Node := if n = 0 then zeroN else F.nd n
def copSrc (F : Fo) (n : Nat) : Node := setRefs (copY F n) 0
/-- a node that may come in -/
structure CopOk (F : Fo) (x : Node) : Prop where
  ids : ∀ i, i ∈ F.ids → 0 < i ∧ i ≤ F.last
  last : F.last ≤ 2 ^ 40
  refs : ∀ i, i ∈ F.ids → (F.nd i).refs ≤ 2 ^ 45
  sls : ∀ s, cnt F.sl s ≤ 2 ^ 45
  kids : ∀ j, j < 16 → x.kids j = 0 ∨ x.kids j ∈ F.ids
  bits : x.bits < 2 ^ 16
  ents : ∀ j, j < 16 → x.bits.testBit j = true → (x.ents j).s.ok
theorem CopOk.fresh {x : Node} (h : CopOk F x) : F.last + 1 ∉ F.ids := fun hm => by have := (h.ids _ hm).2; omega
def copPost (p : Pf) (F : Fo) (x : Node) (lev : Nat) (w : World) (e : Ending) (w' : World) : Prop :=
  if emptyB x then e = .returned (.int .i64 0) ∧ FoAt w' p F ∧ FoOwn p F w w'
  else e = .returned (.int .i64 (F.last + 1 : Nat)) ∧ (∃ b, w.heap.size ≤ b ∧ FoAt w' (addP p (F.last + 1) b) (addN F x lev)) ∧ FoOwn p F w w'
theorem copPost.mk0 {x : Node} {lev : Nat} (hE : emptyB x = true) (h1 : FoAt w' p F) (h2 : FoOwn p F w w') : copPost p F x lev w (.returned (.int .i64 0)) w' := by
  unfold copPost
  rw [if_pos hE]
  exact ⟨rfl, h1, h2⟩
theorem copPost.mk1 {x : Node} {lev b : Nat} {v : Int} (hE : emptyB x = false) (hv : v = (F.last + 1 : Nat)) (hb : w.heap.size ≤ b) (h1 : FoAt w' (addP p (F.last + 1) b) (addN F x lev)) (h2 : FoOwn p F w w') : copPost p F x lev w (.returned (.int .i64 v)) w' := by
  unfold copPost
  rw [if_neg (by rw [hE]; simp), hv]
  exact ⟨rfl, ⟨b, hb, h1⟩, h2⟩

/-- the copy stands in a new block -/
structure CopA (w wc : World) (p : Pf) (F : Fo) (y : Node) (f : Fn) : Prop where
  fo : FoAt wc p F
  nd : NodeAt wc w.heap.size y
  fn : f.At wc
  bel : Below w.heap.size w wc
theorem CopA.lt {wc : World} {y : Node} {f : Fn} (h : CopA w wc p F y f) {b : Nat} (hb : p.own F b) (h0 : FoAt w p F) : b < w.heap.size := h0.lt hb
theorem CopA.step {wc w2 : World} {y y' : Node} {f : Fn} (h0 : FoAt w p F) (hf : f.At w) (h : CopA w wc p F y f) (hn : NodeAt w2 w.heap.size y') (t : Turned [w.heap.size] wc w2) : CopA w w2 p F y' f := by
  have hb : Below w.heap.size w w2 := Turned.below_of h.bel t (fun i hi => by simp at hi; omega)
  exact ⟨h.fo.turned t (fun b hb' hm => by have := h0.lt hb'; simp at hm; omega), hn, hf.above (Turned.of_below hb) (by simp), hb⟩
theorem CopA.own {wc : World} {y : Node} {f : Fn} (h : CopA w wc p F y f) : FoOwn p F w wc := FoOwn.of (Turned.of_below h.bel)

theorem indexKids (f : Nat → Nat) (j : Nat) (hj : j < 16) (w : World) : (Instr.index 112 (.agg (rowL f).toArray) (.int .i64 (j : Nat))).run Tryz.prog w = .ok (.int .i64 (f j)) w := by
  obtain ⟨i, hi, hc⟩ := infoI
  have hs : (sizeOf 3).run Tryz.prog w = .ok 1 w := by rw [← hc]; exact run_sizeOf w hi
  have hg : (rowL f).toArray[j]? = some (.int .i64 (f j)) := rowA_get f j hj
  simp [Instr.index, asIntOf, run_underlying Tryz.underlying112, hs, part, isAgg, run_underlying Tryz.underlying3, Result.andThen]
  rw [if_pos hj, show (rowL f)[j]? = some (.int .i64 (f j)) by simpa using hg]
  rfl
/-- a node's entries, in a row -/
def entL (f : Nat → Ent) : List Value := (List.range 64).map fun j => entCell (f (j / 4)) (j % 4)
theorem entL_len (f : Nat → Ent) : (entL f).length = 64 := by simp [entL]
theorem entL_get (f : Nat → Ent) (j : Nat) (hj : j < 64) : (entL f)[j]? = some (entCell (f (j / 4)) (j % 4)) := by
  unfold entL; rw [List.getElem?_map, List.getElem?_range hj]; rfl
theorem infoEnts64 : (Tryz.prog.info? 113).map (·.size) = some 64 := by kernel_rfl
theorem infoEnts (f : Nat → Ent) : (Tryz.prog.info? 113).map (·.size) = some (entL f).length := by rw [entL_len, infoEnts64]
theorem NodeAt.entsRange {b : Nat} {x : Node} (h : NodeAt w b x) : w.rangeAt b 16 (entL x.ents) := by
  intro j v hv
  have hj : j < 64 := by
    rcases Nat.lt_or_ge j 64 with h | h
    · exact h
    · rw [List.getElem?_eq_none (by rw [entL_len]; exact h)] at hv; cases hv
  rw [entL_get x.ents j hj] at hv
  simp only [Option.some.injEq] at hv
  have := h.ent (j / 4) (j % 4) (by omega) (by omega)
  rw [show 16 + j / 4 * 4 + j % 4 = 16 + j by omega] at this
  rw [this, hv]
theorem infoE : ∃ i, Tryz.prog.info? 47 = some i ∧ Tryz.prog.cellsOf 47 = 4 := by
  have h : (Tryz.prog.info? 47).isSome = true := by kernel_rfl
  obtain ⟨i, hi⟩ := Option.isSome_iff_exists.1 h
  exact ⟨i, hi, by kernel_rfl⟩
theorem indexEnts (f : Nat → Ent) (j : Nat) (hj : j < 16) (w : World) : (Instr.index 113 (.agg (entL f).toArray) (.int .i64 (j : Nat))).run Tryz.prog w = .ok (.agg #[.int .i64 (f j).s.e, .int .i64 (f j).s.c, .int .i64 (f j).s.i, .int .i64 (f j).g]) w := by
  obtain ⟨i, hi, hc⟩ := infoE
  have hs : (sizeOf 47).run Tryz.prog w = .ok 4 w := by rw [← hc]; exact run_sizeOf w hi
  have hx : List.take 4 (List.drop (j * 4) (entL f)) = [.int .i64 (f j).s.e, .int .i64 (f j).s.c, .int .i64 (f j).s.i, .int .i64 (f j).g] := by
    apply List.ext_getElem?
    intro q
    rw [List.getElem?_take, List.getElem?_drop]
    by_cases hq : q < 4
    · rw [if_pos hq, entL_get f _ (by omega), show (j * 4 + q) / 4 = j by omega, show (j * 4 + q) % 4 = q by omega]
      have : q = 0 ∨ q = 1 ∨ q = 2 ∨ q = 3 := by omega
      rcases this with rfl | rfl | rfl | rfl <;> rfl
    · rw [if_neg hq, List.getElem?_eq_none (by simp; omega)]
  simp [Instr.index, asIntOf, run_underlying Tryz.underlying113, hs, part, isAgg, run_underlying Tryz.underlying47, Result.andThen]
  rw [if_pos hj]
  rw [hx]
theorem refInc_nd (F : Fo) (k i : Nat) : ((refInc F k).nd i).kids = (F.nd i).kids ∧ ((refInc F k).nd i).ents = (F.nd i).ents ∧ ((refInc F k).nd i).bits = (F.nd i).bits ∧ ((refInc F k).nd i).refs = (F.nd i).refs + if k ≠ 0 ∧ i = k then 1 else 0 := by
  unfold refInc
  by_cases h : k = 0
  · rw [if_pos h]; simp [h]
  · rw [if_neg h]
    unfold R.setNd upN
    by_cases e : i = k
    · subst e; simp [setRefs, h]
    · simp [e]
theorem refIncs_keep (F : Fo) (f : Nat → Nat) (i : Nat) : ∀ j, (∀ q, q < j → f q ≠ i) → (refIncs F f j).nd i = F.nd i
  | 0, _ => rfl
  | j + 1, h => by
    have ih := refIncs_keep F f i j (fun q hq => h q (by omega))
    show (refInc (refIncs F f j) (f j)).nd i = _
    unfold refInc
    split
    · exact ih
    · show upN _ _ _ i = _
      rw [upN_ne (fun e => h j (by omega) e.symm), ih]
def hits (f : Nat → Nat) (j i : Nat) : Nat := (List.range j).countP fun q => f q == i
theorem refIncs_nd (F : Fo) (f : Nat → Nat) (i : Nat) : ∀ j, ((refIncs F f j).nd i).kids = (F.nd i).kids ∧ ((refIncs F f j).nd i).ents = (F.nd i).ents ∧ ((refIncs F f j).nd i).bits = (F.nd i).bits ∧ ((refIncs F f j).nd i).refs = (F.nd i).refs + if i ≠ 0 then hits f j i else 0
  | 0 => by simp [refIncs, hits]
  | j + 1 => by
    obtain ⟨a, b, c, d⟩ := refIncs_nd F f i j
    obtain ⟨a', b', c', d'⟩ := refInc_nd (refIncs F f j) (f j) i
    refine ⟨a'.trans a, b'.trans b, c'.trans c, ?_⟩
    show ((refInc (refIncs F f j) (f j)).nd i).refs = _
    rw [d', d]
    unfold hits
    rw [List.range_succ, List.countP_append]
    by_cases h0 : i = 0
    · subst h0; simp; intro h1 h2; exact absurd h2.symm h1
    · by_cases e : i = f j
      · rw [if_pos h0, if_pos ⟨by omega, e⟩, if_pos h0]
        simp [e]; omega
      · rw [if_pos h0, if_neg (fun h => e h.2), if_pos h0]
        simp [Ne.symm e]
theorem hits_le (f : Nat → Nat) (j i : Nat) : hits f j i ≤ j := by
  unfold hits
  exact Nat.le_trans List.countP_le_length (by simp)

/-- the kids' counts are raised, one by one -/
structure CopK (w wr : World) (p : Pf) (F : Fo) (x : Node) (lev B j : Nat) : Prop where
  fo : FoAt wr (addP p (F.last + 1) B) (refIncs (addId F x lev) x.kids j)
  own : FoOwn p F w wr
/-- the slots' counts are raised, one by one -/
structure CopS (w wr : World) (p : Pf) (F : Fo) (x : Node) (lev B j : Nat) : Prop where
  fo : FoAt wr (addP p (F.last + 1) B) (slIncs (refIncs (addId F x lev) x.kids 16) x j)
  own : FoOwn p F w wr
theorem slIncs_nd (F : Fo) (x : Node) : ∀ j, (slIncs F x j).nd = F.nd
  | 0 => rfl
  | j + 1 => by
    rw [slIncs]
    split
    · exact slIncs_nd F x j
    · exact slIncs_nd F x j
theorem addId_nd (F : Fo) (x : Node) (lev : Nat) : (addId F x lev).nd (F.last + 1) = x := upN_same _ _ _
theorem addId_old {F : Fo} {x : Node} {lev i : Nat} (h : i ≠ F.last + 1) : (addId F x lev).nd i = F.nd i := upN_ne h
theorem addId_mem {F : Fo} {x : Node} {lev i : Nat} : i ∈ (addId F x lev).ids ↔ i ∈ F.ids ∨ i = F.last + 1 := by
  unfold addId; simp
theorem new_nd {x : Node} {lev : Nat} (h : CopOk F x) : (refIncs (addId F x lev) x.kids 16).nd (F.last + 1) = x := by
  rw [refIncs_keep _ _ _ _ (fun q hq e => by
    rcases h.kids q hq with h0 | hm
    · omega
    · exact h.fresh (e ▸ hm)), addId_nd]
theorem CopK.nd {wr : World} {x : Node} {lev B : Nat} (hK : CopK w wr p F x lev B 16) (h : CopOk F x) : NodeAt wr B x := by
  have := hK.fo.nd (F.last + 1) (by rw [refIncs_ids]; exact addId_mem.2 (.inr rfl))
  rw [show (addP p (F.last + 1) B).blk (F.last + 1) = B from if_pos rfl, new_nd h] at this
  exact this
theorem CopS.nd {wr : World} {x : Node} {lev B j : Nat} (hK : CopS w wr p F x lev B j) (h : CopOk F x) : NodeAt wr B x := by
  have := hK.fo.nd (F.last + 1) (by rw [slIncs_ids, refIncs_ids]; exact addId_mem.2 (.inr rfl))
  rw [show (addP p (F.last + 1) B).blk (F.last + 1) = B from if_pos rfl, slIncs_nd, new_nd h] at this
  exact this
theorem slInc_nf (F : Fo) (x : Node) (j : Nat) (h : x.bits.testBit j = true) : slIncs F x (j + 1) = slInc (slIncs F x j) (x.ents j).s := by
  show (if _ then _ else _) = _
  rw [if_pos h]
theorem slInc_nn (F : Fo) (x : Node) (j : Nat) (h : ¬ x.bits.testBit j = true) : slIncs F x (j + 1) = slIncs F x j := by
  show (if _ then _ else _) = _
  rw [if_neg h]
theorem slIncs_le (F : Fo) (x : Node) (s : Slot) : ∀ j, cnt (slIncs F x j).sl s ≤ cnt F.sl s + j
  | 0 => Nat.le_refl _
  | j + 1 => by
    have ih := slIncs_le F x s j
    by_cases h : x.bits.testBit j = true
    · rw [slInc_nf F x j h]
      unfold slInc
      simp only
      rw [cnt_put]
      split
      · subst_vars; omega
      · omega
    · rw [slInc_nn F x j h]; omega
theorem refIncs_sl (F : Fo) (f : Nat → Nat) : ∀ j, (refIncs F f j).sl = F.sl
  | 0 => rfl
  | j + 1 => by
    show (refInc _ _).sl = _
    unfold refInc
    split
    · exact refIncs_sl F f j
    · exact refIncs_sl F f j
theorem slIncs_last (F : Fo) (x : Node) : ∀ j, (slIncs F x j).last = F.last
  | 0 => rfl
  | j + 1 => by
    rw [slIncs]
    split
    · exact slIncs_last F x j
    · exact slIncs_last F x j
theorem refIncs_last (F : Fo) (f : Nat → Nat) : ∀ j, (refIncs F f j).last = F.last
  | 0 => rfl
  | j + 1 => by
    show (refInc _ _).last = _
    unfold refInc
    split
    · exact refIncs_last F f j
    · exact refIncs_last F f j
/-- what the map of slots does at an entry -/
def EntryStep (w wr w6 : World) (p : Pf) (F : Fo) (x : Node) (lev B j : Nat) (y : Ent) (eb : Nat) : Prop :=
  ∃ (c : Nat) (w7 : World) (n7 : Int) (w8 : World), (Instr.lookup 101 (.map (some p.s)) (.agg #[.int .i64 y.s.e, .int .i64 y.s.c, .int .i64 y.s.i]) false).run Tryz.prog w6.drew = .ok (.int .i64 c) w6.drew ∧
    (Instr.lookup 101 (.map (some p.s)) (.agg #[.int .i64 y.s.e, .int .i64 y.s.c, .int .i64 y.s.i]) false).run Tryz.prog w7 = .ok (.int .i64 c) w7 ∧
    (Instr.mapEntry 101 (.map (some p.s)) (.agg #[.int .i64 y.s.e, .int .i64 y.s.c, .int .i64 y.s.i])).run Tryz.prog w6.drew = .ok (.tuple #[.int .i64 c, .int .i64 n7]) w7 ∧
    (Instr.entryStore 101 (.map (some p.s)) (.int .i64 n7) (.int .i64 ((c : Int) + 1))).run Tryz.prog w7 = .ok () w8 ∧
    (c ≤ 2 ^ 46) ∧ (w8.cell? ⟨p.f, 2, none⟩ = some (.map (some p.s)) ∧ w8.cell? ⟨eb, 0, none⟩ = some (.int .i64 y.s.e) ∧ w8.cell? ⟨eb, 1, none⟩ = some (.int .i64 y.s.c) ∧ w8.cell? ⟨eb, 2, none⟩ = some (.int .i64 y.s.i)) ∧
    (w7.cell? ⟨p.f, 2, none⟩ = some (.map (some p.s)) ∧ w7.cell? ⟨eb, 0, none⟩ = some (.int .i64 y.s.e) ∧ w7.cell? ⟨eb, 1, none⟩ = some (.int .i64 y.s.c) ∧ w7.cell? ⟨eb, 2, none⟩ = some (.int .i64 y.s.i)) ∧
    (w6.drew.cell? ⟨p.f, 2, none⟩ = some (.map (some p.s)) ∧ w6.drew.cell? ⟨eb, 0, none⟩ = some (.int .i64 y.s.e) ∧ w6.drew.cell? ⟨eb, 1, none⟩ = some (.int .i64 y.s.c) ∧ w6.drew.cell? ⟨eb, 2, none⟩ = some (.int .i64 y.s.i)) ∧
    CopS w w8 p F x lev B (j + 1)
theorem entry_step {wr : World} {x : Node} {lev B j : Nat} (h : CopOk F x) (hS : CopS w wr p F x lev B j) (hj : j < 16) (hb : x.bits.testBit j = true) :
    EntryStep w wr (wr.alloc (.cells #[.int .i64 (x.ents j).s.e, .int .i64 (x.ents j).s.c, .int .i64 (x.ents j).s.i, .int .i64 (x.ents j).g] 47)) p F x lev B j (x.ents j) wr.heap.size := by
  have hso := h.ents j hj hb
  obtain ⟨k, hk⟩ := keyS _ hso
  have t1 := (Turned.refl [] wr).alloc (.cells #[.int .i64 (x.ents j).s.e, .int .i64 (x.ents j).s.c, .int .i64 (x.ents j).s.i, .int .i64 (x.ents j).g] 47)
  have hnew := fun q u hq => cells_new wr [.int .i64 (x.ents j).s.e, .int .i64 (x.ents j).s.c, .int .i64 (x.ents j).s.i, .int .i64 (x.ents j).g] 47 q u hq
  have n0 := hnew 0 _ rfl
  have n1 := hnew 1 _ rfl
  have n2 := hnew 2 _ rfl
  rw [Addr.add_mid, Nat.zero_add] at n0 n1 n2
  have t2 := t1.drew
  generalize wr.alloc (.cells #[.int .i64 (x.ents j).s.e, .int .i64 (x.ents j).s.c, .int .i64 (x.ents j).s.i, .int .i64 (x.ents j).g] 47) = w6 at *
  have hF := hS.fo.calm t2
  obtain ⟨G, hG⟩ : ∃ G, slIncs (refIncs (addId F x lev) x.kids 16) x j = G := ⟨_, rfl⟩
  rw [hG] at hF
  have hle : cnt G.sl (x.ents j).s ≤ 2 ^ 45 + 16 := by
    rw [← hG]
    have h1 := slIncs_le (refIncs (addId F x lev) x.kids 16) x (x.ents j).s j
    rw [refIncs_sl] at h1
    have h2 := h.sls (x.ents j).s
    have h3 : (addId F x lev).sl = F.sl := rfl
    rw [h3] at h1
    omega
  have hz := zeroI
  obtain ⟨w7, n7, e1, e2, e3, e4⟩ := hF.sl.run_entry keyedS encS_inj Tryz.underlying101 hz (x.ents j).s hk
  obtain ⟨w8, g1, g2, g3⟩ := e4 (.int .i64 ((cnt G.sl (x.ents j).s : Int) + 1))
  rw [hF.ns.get] at e1
  have hl7 := e2.run_look keyedS encS_inj Tryz.underlying101 (hz w7) (x.ents j).s hk false
  rw [look_touch, hF.ns.get] at hl7
  have hS7 : p.f ≠ p.s := hF.dis.1.2.2
  have hlt : ∀ b, b ∈ [p.s] → b < wr.heap.size := fun b hb => by simp at hb; subst hb; exact hS.fo.lt (.inr (.inr (.inr (.inl rfl))))
  have hw6 := t2.size
  have e33 := e3.trans g3
  refine ⟨cnt G.sl (x.ents j).s, w7, n7, w8, hF.look_sl _ hso, hl7, e1, g1, by omega, ⟨e33.cell hF.c2 (show p.f ∉ [p.s] by simpa using hS7), e33.cell n0 (fun hm => by have := hlt _ hm; simp only at this; omega), e33.cell n1 (fun hm => by have := hlt _ hm; simp only at this; omega), e33.cell n2 (fun hm => by have := hlt _ hm; simp only at this; omega)⟩, ⟨e3.cell hF.c2 (show p.f ∉ [p.s] by simpa using hS7), e3.cell n0 (fun hm => by have := hlt _ hm; simp only at this; omega), e3.cell n1 (fun hm => by have := hlt _ hm; simp only at this; omega), e3.cell n2 (fun hm => by have := hlt _ hm; simp only at this; omega)⟩, ⟨hF.c2, n0, n1, n2⟩, ?_⟩
  have e5 : ((cnt G.sl (x.ents j).s : Int) + 1) = ((cnt G.sl (x.ents j).s + 1 : Nat) : Int) := by omega
  rw [e5] at g2
  refine ⟨?_, ((hS.own.step t2 (by simp)).step e3 (fun b hb => by simp at hb; subst hb; exact .inr (.inr (.inr (.inr (.inl rfl)))))).step g3 (fun b hb => by simp at hb; subst hb; exact .inr (.inr (.inr (.inr (.inl rfl)))))⟩
  rw [slInc_nf _ _ _ hb, hG]
  exact hF.setSl g2 (hF.ns.put _ _ (by omega) (by omega)) (e3.trans g3)
theorem addP_own {b i n : Nat} {p : Pf} {F : Fo} (h : i ∈ F.ids) (hn : i ≠ n) : p.own F ((addP p n b).blk i) := by
  have : (addP p n b).blk i = p.blk i := if_neg hn
  rw [this]
  exact .inr (.inr (.inr (.inr ⟨i, h, rfl⟩)))

set_option maxRecDepth 100000 in
set_option maxHeartbeats 4000000 in
theorem copied_fn (n : Nat) (hn : n = 0 ∨ n ∈ F.ids) (f : Fn) (x : Node) (hx : f.app (copSrc F n) = x) (hs : (copSrc F n).bits < 2 ^ 16) (hok : CopOk F x) (lev : Nat) (w : World) (h : FoAt w p F) (hf : f.At w) :
    Calls Tryz.prog 67 #[.pointer (some ⟨p.f, 0, none⟩), .int .i64 (n : Nat), f.val] w (copPost p F x lev w) := by
  have hn60 : n < 2 ^ 60 := by
    rcases hn with rfl | hm
    · decide
    · have := hok.ids n hm; have := hok.last; omega
  have HF := Lib.hid h
  have HFn := Lib.hid hf
  have HOk := Lib.hid hok
  have HLev := Lib.hid (show lev = lev from rfl)
  have A0 : Hid (CopA w (w.alloc (.cells (cellsN zeroN).toArray 116)) p F zeroN f) := by
    have t := (Turned.refl [] w).alloc (.cells (cellsN zeroN).toArray 116)
    exact ⟨h.calm t, NodeAt.new zeroN w, hf.above t (by simp), t.below⟩
  have HBd := Lib.hid (buildN w)
  have HBx := Lib.hid (boxN zeroN w)
  obtain ⟨fv, hfv⟩ : ∃ fv, f.val = fv := ⟨_, rfl⟩
  have HFv := Lib.hid hfv
  rw [hfv]
  generalize (cellsN zeroN).toArray = Z at *
  clear h hf hok hfv
  go_enter Tryz.func67, Tryz.ntmps67
  go_upto_region 2 with (first
    | (refine wpList_build_g (by rfl) 116 (by rfl) Z HBd.out ?_)
    | (refine wpList_box_g (by rfl) 116 _ (by rfl) Z (by rfl) w.heap.size HBx.out ?_))
  generalize w.alloc (.cells Z 116) = w1 at *
  clear HBd HBx
  obtain ⟨B, hB⟩ : ∃ B, w.heap.size = B := ⟨_, rfl⟩
  have HB := Lib.hid hB
  rw [hB]
  clear hB
  go_upto_if 15 with fail
  go_cut [] (fun wc => CopA w wc p F (copY F n) f)
  case first =>
    by_cases h0 : n = 0
    · subst h0
      go_wp2
      go_meet
      exact A0.out
    · have hm := hn.resolve_left h0
      have hb : ((n : Int) != 0) = true := by simpa using h0
      have c0 := A0.out.fo.c0
      have hL := A0.out.fo.look_node n hn60 hm
      unfold ptrV at hL
      have HR := Lib.hid (A0.out.fo.nd n hm).range
      have HI := Lib.hid (infoN (F.nd n))
      have HT := Lib.hid (A0.out.nd.there (F.nd n))
      have HO := Lib.hid (cellsN_one (F.nd n))
      have HE : Hid (CopA w (w1.setCells B 0 (cellsN (F.nd n))) p F (F.nd n) f) := by
        have := CopA.step HF.out HFn.out A0.out (A0.out.nd.put (F.nd n)) (turned_setCells _ 0 _)
        rw [HB.out] at this
        exact this
      rw [HB.out] at HT
      generalize cellsN (F.nd n) = L at *
      have he : copY F n = F.nd n := if_neg h0
      rw [← he] at HE
      clear h0 A0 he
      go_wp2_with (first
        | (refine wpList_load_mid (by rfl) 116 _ (by rfl) (p.blk n) 0 (by rfl) L _ HR.out Tryz.underlying116 (by rfl) HI.out ?_)
        | (refine wpList_store_mid (by rfl) 116 _ _ (by rfl) B 0 L.toArray (by rfl) (by rfl) HT.out HI.out HO.out ?_))
      go_meet
      exact HE.out
  case rest =>
    have A1 := Lib.hid hcut
    have c81 := hcut.nd.refs
    have f81 := hcut.nd.frozen 81
    have A2 : Hid (CopA w (wc.setCell ⟨B, 81, none⟩ (.int .i64 0)) p F (copSrc F n) f) := by
      have := CopA.step HF.out HFn.out hcut (hcut.nd.setRefs 0) ((Turned.refl [w.heap.size] wc).setCell (p := ⟨w.heap.size, 81, none⟩) (.inl (by simp)) _)
      rw [HB.out] at this
      exact this
    rw [HB.out] at c81 f81
    clear hcut A0 A1
    go_upto_region 5 with fail
    generalize wc.setCell ⟨B, 81, none⟩ (.int .i64 0) = w2 at *
    clear c81 f81
    go_cut [] (fun wc => CopA w wc p F x f)
    case first =>
      have HS : Hid (∀ w3, NodeAt w3 B x → Turned [B] w2 w3 → CopA w w3 p F x f) := fun w3 hn ht => CopA.step HF.out HFn.out A2.out (by rw [HB.out]; exact hn) (by rw [HB.out]; exact ht)
      have hnd := A2.out.nd
      rw [HB.out] at hnd
      have hfn := A2.out.fn
      have hfv := HFv.out
      cases f with
      | leaf bc bi i c =>
        obtain ⟨f1, f2, f3, f4⟩ := hfn
        have C := alonga_fn B bc bi i c (copSrc F n) f4 hs w2 hnd f1 f2 f3
        rw [show c.app (copSrc F n) i = x from hx] at C
        have C := Lib.hid C
        unfold Fn.val at hfv
        subst hfv
        clear f1 f2 f3 f4 hnd
        go_wp2_with (go_at_call 68; ((with_reducible refine C.out.mono ?_); rintro e ww ⟨rfl, h1, h2⟩; have A3 := Lib.hid (HS.out _ h1 h2); clear h1 h2))
        go_meet
        exact A3.out
      | kid bk bi i k =>
        obtain ⟨f2, f3, f4⟩ := hfn
        have C := alongb_fn B bk bi i k (copSrc F n) f4 w2 hnd f2 f3
        rw [show setKid (copSrc F n) i k = x from hx] at C
        have C := Lib.hid C
        unfold Fn.val at hfv
        subst hfv
        clear f2 f3 f4 hnd
        go_wp2_with (go_at_call 69; ((with_reducible refine C.out.mono ?_); rintro e ww ⟨rfl, h1, h2⟩; have A3 := Lib.hid (HS.out _ h1 h2); clear h1 h2))
        go_meet
        exact A3.out
    case rest =>
      have A3 := Lib.hid hcut
      have CE := empty_fn B x wc (by have := hcut.nd; rw [HB.out] at this; exact this)
      have CE := Lib.hid CE
      clear hcut A2 w2 hs hx HFv
      cases hE : emptyB x
      · rw [hE] at CE
        have HE := Lib.hid hE
        have hA := A3.out.fo
        have hl := HOk.out.last
        have c3 := hA.c3
        have f3 := hA.fz 3
        have A4 := Lib.hid (hA.setLast (F.last + 1))
        have HO4 : Hid (FoOwn p F w (wc.setCell ⟨p.f, 3, none⟩ (.int .i64 (F.last + 1 : Nat)))) := A3.out.own.step ((Turned.refl [p.f] wc).setCell (p := ⟨p.f, 3, none⟩) (.inl (by simp)) _) (fun b hb => by simp at hb; subst hb; exact .inr (.inl rfl))
        have HN4 : Hid (NodeAt (wc.setCell ⟨p.f, 3, none⟩ (.int .i64 (F.last + 1 : Nat))) B x) := by
          have h1 := A3.out.nd
          rw [HB.out] at h1
          exact h1.turned ((Turned.refl [p.f] wc).setCell (p := ⟨p.f, 3, none⟩) (.inl (by simp)) _) (by have := HF.out.lt (.inl rfl); have := HB.out; simp; omega)
        have hcast : ((F.last : Int) + 1) = ((F.last + 1 : Nat) : Int) := by omega
        rw [← hcast] at A4 HO4 HN4
        clear hE hA hcast
        go_upto_region 9 with (go_at_call 87; ((with_reducible refine CE.out.mono ?_); rintro e ww ⟨rfl, rfl⟩))
        obtain ⟨w4, hw4⟩ : ∃ w4, wc.setCell ⟨p.f, 3, none⟩ (.int .i64 ((F.last : Int) + 1)) = w4 := ⟨_, rfl⟩
        rw [hw4] at A4 HO4 HN4
        rw [hw4]
        clear hw4 c3 f3
        have hBo : ¬ p.own F B := fun hb => by have := HF.out.lt hb; have := HB.out; omega
        have HS5 : Hid (∀ w5, MapIs Tryz.prog 3 encI w5 p.m (mput (nodesL p F) ((F.last + 1 : Nat) : Int) (ptrV B)) → Turned [p.m] w4.drew w5 → CopK w w5 p F x lev B 0) := fun w5 hm ht =>
          ⟨FoAt.addId (F := F) (A4.out.calm (Turned.refl [] w4).drew) x lev B HOk.out.fresh (HN4.out.turned (Turned.refl [] w4).drew (by simp)) hBo hm ht, (HO4.out.step (Turned.refl [] w4).drew (by simp)).step ht (fun b hb => by simp at hb; subst hb; exact .inr (.inr (.inl rfl)))⟩
        have c0 := A4.out.c0
        have c3 := A4.out.c3
        have HM : Hid (MapIs Tryz.prog 3 encI w4.drew p.m (nodesL p F)) := A4.out.nodes
        simp only at c3
        obtain ⟨L, hL⟩ : ∃ L, F.last + 1 = L := ⟨_, rfl⟩
        rw [hL] at c3 HS5
        have HLL := Lib.hid hL
        have hL63 : L ≤ 2 ^ 41 := by omega
        obtain ⟨kk, hkk⟩ := keyI (L : Nat) (by unfold I64; omega)
        have HKK := Lib.hid hkk
        clear hL hkk A4 HN4 HO4 A3 hBo
        go_still_tail 9, (by kernel_rfl)
        change wpList _ _ _ _ _ w4.drew
        generalize w4.drew = w4d at *
        clear c0 c3
        go_upto_region 10 with (at_mapUpdate; refine wp_put _ rfl _ _ _ 99 rfl keyedI encI_inj Tryz.underlying99 p.m (nodesL p F) rfl HM.out (L : Int) rfl (ptrV B) rfl HKK.out ?_; intro w5 hm5 ht5; have A5 := Lib.hid (HS5.out w5 hm5 ht5); clear hm5 ht5)
        have HN5 : Hid (NodeAt w5 B x) := by
          have := A5.out.fo.nd (F.last + 1) (addId_mem.2 (.inr rfl))
          rw [show (addP p (F.last + 1) B).blk (F.last + 1) = B from if_pos rfl, show (refIncs (addId F x lev) x.kids 0).nd (F.last + 1) = x from addId_nd F x lev] at this
          exact this
        have HRk := Lib.hid HN5.out.kidsRange
        have HIk := Lib.hid (infoKids x.kids)
        have HIx := Lib.hid (indexKids x.kids)
        generalize rowL x.kids = A at *
        go_upto_block 1 with (refine wpList_load_mid (by rfl) 112 _ (by rfl) B 0 (by rfl) A _ HRk.out Tryz.underlying112 (by rfl) HIk.out ?_)
        go_loopw [54] (fun v wr => ∃ j : Nat, j ≤ 16 ∧ v = .int .i64 j ∧ Hid (CopK w wr p F x lev B j)) (fun v _ => 16 - (intOf v).toNat)
        case atStart => exact ⟨0, by omega, rfl, A5.out⟩
        case round =>
          obtain ⟨j, hj, rfl, hK⟩ := hrel
          by_cases hlt : j < 16
          · have hix := HIx.out j hlt
            have hkm := HOk.out.kids j hlt
            obtain ⟨k, hk⟩ : ∃ k, x.kids j = k := ⟨_, rfl⟩
            have HKj := Lib.hid hk
            rw [hk] at hix hkm
            clear hk
            by_cases h0 : k = 0
            · subst h0
              have HK1 : Hid (CopK w wr p F x lev B (j + 1)) := by
                have e : refIncs (addId F x lev) x.kids (j + 1) = refIncs (addId F x lev) x.kids j := by
                  show refInc _ (x.kids j) = _
                  rw [HKj.out]; exact if_pos rfl
                exact ⟨by rw [e]; exact hK.out.fo, hK.out.own⟩
              clear hK hkm
              go_wp2
              go_roundw
              case rel => exact ⟨j + 1, by omega, by go_num, HK1.out⟩
              case measure => simp [intOf]; omega
            · have hm := hkm.resolve_left h0
              have hkb : ((k : Int) != 0) = true := by simpa using h0
              have hid := HOk.out.ids k hm
              have hlast := HOk.out.last
              have hrf := HOk.out.refs k hm
              have hne : k ≠ F.last + 1 := by omega
              have hP : (addP p (F.last + 1) B).blk k = p.blk k := if_neg hne
              have hmem : k ∈ (refIncs (addId F x lev) x.kids j).ids := by rw [refIncs_ids]; exact addId_mem.2 (.inl hm)
              have c0 := hK.out.fo.c0
              have hL := hK.out.fo.look_node k (by omega) hmem
              have hN := hK.out.fo.nd k hmem
              have hn1 := hK.out.fo.refInc k hmem h0
              rw [hP] at hL hN hn1
              unfold ptrV at hL
              have c81 := hN.refs
              have f81 := hN.frozen 81
              have hrl : ((refIncs (addId F x lev) x.kids j).nd k).refs ≤ 2 ^ 45 + 16 := by
                rw [(refIncs_nd (addId F x lev) x.kids k j).2.2.2, addId_old hne]
                have := hits_le x.kids j k
                split <;> omega
              obtain ⟨R, hR⟩ : ∃ R, ((refIncs (addId F x lev) x.kids j).nd k).refs = R := ⟨_, rfl⟩
              rw [hR] at c81 hn1 hrl
              have HK1 : Hid (CopK w (wr.setCell ⟨p.blk k, 81, none⟩ (.int .i64 ((R : Int) + 1))) p F x lev B (j + 1)) := by
                have e : refIncs (addId F x lev) x.kids (j + 1) = refInc (refIncs (addId F x lev) x.kids j) k := by
                  show refInc _ (x.kids j) = _
                  rw [HKj.out]
                have ec : ((R : Int) + 1) = ((R + 1 : Nat) : Int) := by omega
                rw [ec]
                exact ⟨by rw [e]; exact hn1, hK.out.own.step ((Turned.refl [p.blk k] wr).setCell (p := ⟨p.blk k, 81, none⟩) (.inl (by simp)) _) (fun b hb => by simp at hb; subst hb; exact .inr (.inr (.inr (.inr (.inr ⟨k, hm, rfl⟩)))))⟩
              have c0' : wr.cell? ⟨p.f, 0, none⟩ = some (.map (some p.m)) := c0
              have hL' : (Instr.lookup 99 (.map (some p.m)) (.int .i64 (k : Nat)) false).run Tryz.prog wr = .ok (.pointer (some ⟨p.blk k, 0, none⟩)) wr := hL
              clear hK hkm hid hlast hrf hne hP hmem c0 hL hN hn1 hR hm h0
              go_wp2
              go_roundw
              case rel => exact ⟨j + 1, by omega, by go_num, HK1.out⟩
              case measure => simp [intOf]; omega
          · have hje : j = 16 := by omega
            subst hje
            have HN6 := Lib.hid (hK.out.nd HOk.out)
            have HRe := Lib.hid HN6.out.entsRange
            have HIe := Lib.hid (infoEnts x.ents)
            have HXe := Lib.hid (indexEnts x.ents)
            clear hj hlt HRk HIk HIx
            generalize entL x.ents = E at *
            go_wp2_with (refine wpList_load_mid (by rfl) 113 _ (by rfl) B 16 (by rfl) E _ HRe.out Tryz.underlying113 (by rfl) HIe.out ?_)
            have S0 : Hid (CopS w wr p F x lev B 0) := ⟨hK.out.fo, hK.out.own⟩
            clear hK HRe HIe HN6 A5 HN5
            go_loopw [76] (fun v ws => ∃ j : Nat, j ≤ 16 ∧ v = .int .i64 j ∧ Hid (CopS w ws p F x lev B j)) (fun v _ => 16 - (intOf v).toNat)
            case atStart => exact ⟨0, by omega, rfl, S0.out⟩
            case round =>
              obtain ⟨j, hj, rfl, hS⟩ := hrel
              clear S0
              by_cases hlt : j < 16
              · have hix := HXe.out j hlt
                have c80 := (hS.out.nd HOk.out).bits
                have c80' : ∀ o, (wr.alloc o).cell? ⟨B, 80, none⟩ = some (.int .u16 x.bits) := fun o => ((Turned.refl [] wr).alloc o).cell c80 (by simp)
                have hu := HOk.out.bits
                have hbo := bit_ofI x.bits j hu
                by_cases hb : x.bits.testBit j = true
                · rw [if_pos hb] at hbo
                  have hso := HOk.out.ents j hlt hb
                  have hrel := entry_step HOk.out hS.out hlt hb
                  have HS := Lib.hid hS.out
                  generalize hxe : x.ents j = xe at *
                  obtain ⟨⟨se, sc, si⟩, sg⟩ := xe
                  simp only at hix hrel
                  have HRel := Lib.hid hrel
                  clear hS hrel hso c80
                  go_upto_region 20 with fail
                  obtain ⟨w6, hw6⟩ : ∃ w6, wr.alloc (.cells #[.int .i64 se, .int .i64 sc, .int .i64 si, .int .i64 sg] 47) = w6 := ⟨_, rfl⟩
                  obtain ⟨eb, heb⟩ : ∃ eb, wr.heap.size = eb := ⟨_, rfl⟩
                  rw [hw6, heb] at HRel
                  rw [hw6, heb]
                  obtain ⟨c, w7, n7, w8, r1, r2, r3, r4, hc, k9, k7, k8, hfin⟩ := HRel.out
                  simp only at r1 r2 r3 k7 k8 k9
                  have K9 := Lib.hid k9
                  have HFin : Hid (CopS w w8 p F x lev B (j + 1)) := hfin
                  have K7 := Lib.hid k7
                  have K8 := Lib.hid k8
                  clear hfin k7 k8 k9 hix hu hbo hw6 c80'
                  have hwr : IntKind.i64.wrap ((c : Int) + 1) = (c : Int) + 1 := IntWalk.i64_in _ (by omega)
                  clear hc
                  go_region_held3 (fun w' => w'.cell? ⟨p.f, 2, none⟩ = some (.map (some p.s)) ∧ w'.cell? ⟨eb, 0, none⟩ = some (.int .i64 se) ∧ w'.cell? ⟨eb, 1, none⟩ = some (.int .i64 sc) ∧ w'.cell? ⟨eb, 2, none⟩ = some (.int .i64 si)) (first | exact K7.out | exact K8.out | exact K9.out | go_keep) (fail)
                  all_goals
                    go_wp2
                    go_roundw
                    case rel => exact ⟨j + 1, by omega, by go_num, HFin.out⟩
                    case measure => simp [intOf]; omega
                · have hbf : x.bits.testBit j = false := by simpa using hb
                  rw [if_neg hb] at hbo
                  have HFin : Hid (∀ o, CopS w (wr.alloc o) p F x lev B (j + 1)) := fun o =>
                    ⟨by rw [slInc_nn _ _ _ hb]; exact hS.out.fo.calm ((Turned.refl [] wr).alloc o), hS.out.own.step ((Turned.refl [] wr).alloc o) (by simp)⟩
                  clear hS c80 hb hbf
                  go_wp2
                  go_roundw
                  case rel => exact ⟨j + 1, by omega, by go_num, HFin.out _⟩
                  case measure => simp [intOf]; omega
              · have hje : j = 16 := by omega
                subst hje
                have c3 := hS.out.fo.c3
                have hl3 : (slIncs (refIncs (addId F x lev) x.kids 16) x 16).last = F.last + 1 := by rw [slIncs_last, refIncs_last]; rfl
                rw [hl3] at c3
                have c3' : wr.cell? ⟨p.f, 3, none⟩ = some (.int .i64 ((F.last + 1 : Nat) : Int)) := c3
                clear c3 hl3
                go_wp2
                go_ret
                exact copPost.mk1 HE.out rfl (Nat.le_of_eq HB.out) hS.out.fo hS.out.own
      · rw [hE] at CE
        have HE := Lib.hid hE
        clear hE
        go_wp2_with (go_at_call 87; ((with_reducible refine CE.out.mono ?_); rintro e ww ⟨rfl, rfl⟩))
        go_ret
        exact copPost.mk0 HE.out A3.out.fo A3.out.own
end Go.Proofs.YtmpbhoijkcanmaaGreat.R

/- Radix: what holds of a forest; a node comes in: the plain law. -/
namespace Go.Proofs.YtmpbhoijkcanmaaGreat.R
open Go.ChangeShapes Go.WideShapes Go.ChangeAt Go.RowKit Go.Maps Go.Proofs.YtmpbhoijkcanmaaGreat.G
set_option linter.unusedVariables false
set_option linter.unusedSimpArgs false
set_option linter.unnecessarySimpa false

/-- how often nodes refer to a node; in how many places of nodes a slot is -/
def refc (F : Fo) (i : Nat) : Nat := (F.ids.map fun m => hits (F.nd m).kids 16 i).sum
def slHits (x : Node) (j : Nat) (s : Slot) : Nat := (List.range j).countP fun q => x.bits.testBit q && decide ((x.ents q).s = s)
def slc (F : Fo) (s : Slot) : Nat := (F.ids.map fun m => slHits (F.nd m) 16 s).sum
theorem slHits_le (x : Node) (j : Nat) (s : Slot) : slHits x j s ≤ j := by
  unfold slHits
  exact Nat.le_trans List.countP_le_length (by simp)
/-- a node as it may stand at a level -/
structure NodeOk (F : Fo) (l : Nat) (x : Node) : Prop where
  kid : ∀ j, j < 16 → x.kids j = 0 ∨ (x.kids j ∈ F.ids ∧ F.lev (x.kids j) = l + 1 ∧ l < 2)
  bits : x.bits < 2 ^ 16 ∧ (l < 2 → x.bits = 0)
  ents : ∀ j, j < 16 → x.bits.testBit j = true → (x.ents j).ok
  zero : ∀ j, j < 16 → x.bits.testBit j = false → x.ents j = zeroE
/-- what holds of a forest; of each node some references may be counted that are let go of next (pend; of slots: pendS); one node may not be referred to yet (exc) -/
structure Inv (F : Fo) (pend : Nat → Nat) (pendS : Slot → Nat) (exc : Nat) : Prop where
  nd : F.ids.Nodup
  pos : ∀ i, i ∈ F.ids → 0 < i ∧ i ≤ F.last
  lev : ∀ i, i ∈ F.ids → F.lev i ≤ 2
  ok : ∀ i, i ∈ F.ids → NodeOk F (F.lev i) (F.nd i)
  full : ∀ i, i ∈ F.ids → emptyB (F.nd i) = false
  refs : ∀ i, i ∈ F.ids → (F.nd i).refs = refc F i + cnt F.held (i : Int) + pend i
  held : ∀ r : Int, 0 < cnt F.held r → ∃ n : Nat, r = n ∧ n ∈ F.ids ∧ F.lev n = 0
  sls : ∀ s, cnt F.sl s = slc F s + pendS s
  live : ∀ i, i ∈ F.ids → 0 < (F.nd i).refs ∨ i = exc
/-- numbers that are far from what fits -/
structure Small (F : Fo) (pend : Nat → Nat) (pendS : Slot → Nat) : Prop where
  last : F.last ≤ 2 ^ 39
  held : ∀ r, cnt F.held r ≤ 2 ^ 43
  pend : ∀ i, pend i ≤ 2 ^ 43
  pendS : ∀ s, pendS s ≤ 2 ^ 43
variable {F : Fo} {pend : Nat → Nat} {pendS : Slot → Nat} {exc : Nat}
theorem sum_le (l : List Nat) (f : Nat → Nat) (c : Nat) (h : ∀ i, f i ≤ c) : (l.map f).sum ≤ l.length * c := by
  induction l with
  | nil => simp
  | cons a l ih =>
    rw [List.map_cons, List.sum_cons, List.length_cons]
    have := h a
    rw [Nat.add_mul]; omega
theorem nodup_len : ∀ (N : Nat) (L : List Nat), L.Nodup → (∀ x ∈ L, x < N) → L.length ≤ N := by
  intro N L hnd hb
  have hp : L.Perm ((List.range N).filter fun i => decide (i ∈ L)) :=
    (List.perm_ext_iff_of_nodup hnd (List.nodup_range.filter _)).2 fun i => ⟨fun hi => List.mem_filter.2 ⟨by simpa using hb i hi, by simpa using hi⟩, fun hi => by simpa using (List.mem_filter.1 hi).2⟩
  rw [hp.length_eq]
  exact Nat.le_trans (List.length_filter_le _ _) (by simp)
theorem Inv.len (h : Inv F pend pendS exc) : F.ids.length ≤ F.last + 1 := nodup_len _ _ h.nd fun i hi => by have := (h.pos i hi).2; omega
theorem Inv.refs_le (h : Inv F pend pendS exc) (hs : Small F pend pendS) (i : Nat) (hi : i ∈ F.ids) : (F.nd i).refs ≤ 2 ^ 45 := by
  have h1 := h.refs i hi
  have h2 := sum_le F.ids (fun m => hits (F.nd m).kids 16 i) 16 (fun m => hits_le _ _ _)
  have h3 := h.len
  have h4 := hs.held i
  have h5 := hs.pend i
  have h6 := hs.last
  unfold refc at h1
  omega
theorem Inv.sls_le (h : Inv F pend pendS exc) (hs : Small F pend pendS) (s : Slot) : cnt F.sl s ≤ 2 ^ 45 := by
  have h1 := h.sls s
  have h2 := sum_le F.ids (fun m => slHits (F.nd m) 16 s) 16 (fun m => slHits_le _ _ _)
  have h3 := h.len
  have h5 := hs.pendS s
  have h6 := hs.last
  unfold slc at h1
  omega
theorem Inv.copOk (h : Inv F pend pendS exc) (hs : Small F pend pendS) {l : Nat} {x : Node} (hx : NodeOk F l x) : CopOk F x :=
  ⟨h.pos, by have := hs.last; omega, fun i hi => h.refs_le hs i hi, h.sls_le hs, fun j hj => (hx.kid j hj).imp id (fun h => h.1), hx.bits.1, fun j hj hb => (hx.ents j hj hb).1⟩

/-! ### fields behind a node's coming -/
theorem refInc_rest (F : Fo) (k : Nat) : (refInc F k).held = F.held ∧ (refInc F k).lev = F.lev := by unfold refInc; split <;> exact ⟨rfl, rfl⟩
theorem refIncs_rest (F : Fo) (f : Nat → Nat) : ∀ j, (refIncs F f j).held = F.held ∧ (refIncs F f j).lev = F.lev
  | 0 => ⟨rfl, rfl⟩
  | j + 1 => by
    obtain ⟨a, b⟩ := refIncs_rest F f j
    obtain ⟨a', b'⟩ := refInc_rest (refIncs F f j) (f j)
    exact ⟨a'.trans a, b'.trans b⟩
theorem slIncs_rest (F : Fo) (x : Node) : ∀ j, (slIncs F x j).held = F.held ∧ (slIncs F x j).lev = F.lev
  | 0 => ⟨rfl, rfl⟩
  | j + 1 => by
    rw [slIncs]
    split
    · exact slIncs_rest F x j
    · exact slIncs_rest F x j
theorem slIncs_cnt (F : Fo) (x : Node) (s : Slot) : ∀ j, cnt (slIncs F x j).sl s = cnt F.sl s + slHits x j s
  | 0 => by simp [slIncs, slHits]
  | j + 1 => by
    have ih := slIncs_cnt F x s j
    have e : slHits x (j + 1) s = slHits x j s + if x.bits.testBit j = true ∧ (x.ents j).s = s then 1 else 0 := by
      unfold slHits
      rw [List.range_succ, List.countP_append]
      by_cases h : x.bits.testBit j = true ∧ (x.ents j).s = s
      · rw [if_pos h]; simp [h.1, h.2]
      · rw [if_neg h]; simp; intro h1 h2; exact h ⟨h1, h2⟩
    rw [e]
    by_cases hb : x.bits.testBit j = true
    · rw [slInc_nf F x j hb]
      unfold slInc
      simp only
      rw [cnt_put]
      by_cases hs : s = (x.ents j).s
      · rw [if_pos hs, if_pos ⟨hb, hs.symm⟩]
        rw [← hs]; omega
      · rw [if_neg hs, if_neg (fun h => hs h.2.symm)]; omega
    · rw [slInc_nn F x j hb, if_neg (fun h => hb h.1)]; omega
theorem addN_ids (F : Fo) (x : Node) (l : Nat) : (addN F x l).ids = F.ids ++ [F.last + 1] := by unfold addN; rw [slIncs_ids, refIncs_ids]; rfl
theorem addN_last (F : Fo) (x : Node) (l : Nat) : (addN F x l).last = F.last + 1 := by unfold addN; rw [slIncs_last, refIncs_last]; rfl
theorem addN_held (F : Fo) (x : Node) (l : Nat) : (addN F x l).held = F.held := by unfold addN; rw [(slIncs_rest _ _ _).1, (refIncs_rest _ _ _).1]; rfl
theorem addN_lev (F : Fo) (x : Node) (l : Nat) : (addN F x l).lev = fun i => if i = F.last + 1 then l else F.lev i := by unfold addN; rw [(slIncs_rest _ _ _).2, (refIncs_rest _ _ _).2]; rfl
theorem addN_sl (F : Fo) (x : Node) (l : Nat) (s : Slot) : cnt (addN F x l).sl s = cnt F.sl s + slHits x 16 s := by unfold addN; rw [slIncs_cnt, refIncs_sl]; rfl
theorem addN_mem {F : Fo} {x : Node} {l i : Nat} : i ∈ (addN F x l).ids ↔ i ∈ F.ids ∨ i = F.last + 1 := by rw [addN_ids]; simp
theorem addN_new {F : Fo} {x : Node} {l : Nat} (h : CopOk F x) : (addN F x l).nd (F.last + 1) = x := by unfold addN; rw [slIncs_nd]; exact new_nd h
theorem addN_old {F : Fo} {x : Node} {l i : Nat} (h : i ≠ F.last + 1) : ((addN F x l).nd i).kids = (F.nd i).kids ∧ ((addN F x l).nd i).ents = (F.nd i).ents ∧ ((addN F x l).nd i).bits = (F.nd i).bits ∧ ((addN F x l).nd i).refs = (F.nd i).refs + if i ≠ 0 then hits x.kids 16 i else 0 := by
  unfold addN
  rw [slIncs_nd]
  have := refIncs_nd (addId F x l) x.kids i 16
  rw [addId_old h] at this
  exact this
theorem sum_congr {l : List Nat} {f g : Nat → Nat} (h : ∀ i, i ∈ l → f i = g i) : (l.map f).sum = (l.map g).sum := by
  rw [List.map_congr_left h]
theorem addN_refc {F : Fo} {x : Node} {l : Nat} (h : CopOk F x) (i : Nat) : refc (addN F x l) i = refc F i + hits x.kids 16 i := by
  unfold refc
  rw [addN_ids, List.map_append, List.sum_append]
  simp only [List.map_cons, List.map_nil, List.sum_cons, List.sum_nil, Nat.add_zero]
  rw [addN_new h]
  congr 1
  exact sum_congr fun m hm => by rw [(addN_old (fun e => h.fresh (by rw [← e]; exact hm))).1]
theorem addN_slc {F : Fo} {x : Node} {l : Nat} (h : CopOk F x) (s : Slot) : slc (addN F x l) s = slc F s + slHits x 16 s := by
  unfold slc
  rw [addN_ids, List.map_append, List.sum_append]
  simp only [List.map_cons, List.map_nil, List.sum_cons, List.sum_nil, Nat.add_zero]
  rw [addN_new h]
  congr 1
  refine sum_congr fun m hm => ?_
  obtain ⟨_, a, b, _⟩ := addN_old (F := F) (x := x) (l := l) (i := m) (fun e => h.fresh (by rw [← e]; exact hm))
  unfold slHits
  rw [a, b]
theorem hits_zero {f : Nat → Nat} {j i : Nat} (h : ∀ q, q < j → f q ≠ i) : hits f j i = 0 := by
  unfold hits
  rw [List.countP_eq_zero]
  intro q hq
  simpa using h q (List.mem_range.1 hq)
theorem hits_pos {f : Nat → Nat} {j i q : Nat} (hq : q < j) (h : f q = i) : 0 < hits f j i := by
  unfold hits
  rw [List.countP_pos_iff]
  exact ⟨q, List.mem_range.2 hq, by simpa using h⟩
theorem refc_zero {F : Fo} {i : Nat} (h : ∀ m, m ∈ F.ids → ∀ q, q < 16 → (F.nd m).kids q ≠ i) : refc F i = 0 := by
  unfold refc
  have : ∀ l : List Nat, (∀ m, m ∈ l → m ∈ F.ids) → (l.map fun m => hits (F.nd m).kids 16 i).sum = 0 := by
    intro l
    induction l with
    | nil => intro _; rfl
    | cons a l ih =>
      intro hl
      rw [List.map_cons, List.sum_cons, ih (fun m hm => hl m (List.mem_cons_of_mem _ hm)), hits_zero (h a (hl a List.mem_cons_self))]
  exact this _ (fun m hm => hm)
theorem refc_pos {F : Fo} {i m q : Nat} (hm : m ∈ F.ids) (hq : q < 16) (h : (F.nd m).kids q = i) : 0 < refc F i := by
  unfold refc
  have h1 := hits_pos hq h
  have : ∀ l : List Nat, m ∈ l → 0 < (l.map fun m => hits (F.nd m).kids 16 i).sum := by
    intro l
    induction l with
    | nil => intro h; cases h
    | cons a l ih =>
      intro hl
      rw [List.map_cons, List.sum_cons]
      rcases List.mem_cons.1 hl with e | hl
      · subst e; omega
      · have := ih hl; omega
  exact this _ hm
theorem refc_some {F : Fo} {i : Nat} (h : 0 < refc F i) : ∃ m, m ∈ F.ids ∧ ∃ q, q < 16 ∧ (F.nd m).kids q = i := by
  rcases Classical.em (∃ m, m ∈ F.ids ∧ ∃ q, q < 16 ∧ (F.nd m).kids q = i) with h' | h'
  · exact h'
  · rw [refc_zero (fun m hm q hq e => h' ⟨m, hm, q, hq, e⟩)] at h; omega

/-- the nodes of one are nodes of the other, as they were -/
structure Ext (F G : Fo) : Prop where
  mem : ∀ i, i ∈ F.ids → i ∈ G.ids
  kids : ∀ i, i ∈ F.ids → (G.nd i).kids = (F.nd i).kids
  ents : ∀ i, i ∈ F.ids → (G.nd i).ents = (F.nd i).ents
  bits : ∀ i, i ∈ F.ids → (G.nd i).bits = (F.nd i).bits
  lev : ∀ i, i ∈ F.ids → G.lev i = F.lev i
theorem Ext.refl (F : Fo) : Ext F F := ⟨fun _ h => h, fun _ _ => rfl, fun _ _ => rfl, fun _ _ => rfl, fun _ _ => rfl⟩
theorem Ext.trans {F G H : Fo} (a : Ext F G) (b : Ext G H) : Ext F H :=
  ⟨fun i h => b.mem i (a.mem i h), fun i h => (b.kids i (a.mem i h)).trans (a.kids i h), fun i h => (b.ents i (a.mem i h)).trans (a.ents i h), fun i h => (b.bits i (a.mem i h)).trans (a.bits i h), fun i h => (b.lev i (a.mem i h)).trans (a.lev i h)⟩
theorem NodeOk.ext {F G : Fo} {l : Nat} {x : Node} (h : NodeOk F l x) (e : Ext F G) : NodeOk G l x :=
  ⟨fun j hj => (h.kid j hj).imp id (fun ⟨a, b, c⟩ => ⟨e.mem _ a, (e.lev _ a).trans b, c⟩), h.bits, h.ents, h.zero⟩
theorem NodeOk.same {F : Fo} {l : Nat} {x y : Node} (h : NodeOk F l x) (a : y.kids = x.kids) (b : y.ents = x.ents) (c : y.bits = x.bits) : NodeOk F l y :=
  ⟨by rw [a]; exact h.kid, by rw [c]; exact h.bits, by rw [c, b]; exact h.ents, by rw [c, b]; exact h.zero⟩
theorem emptyB_same {x y : Node} (a : y.kids = x.kids) (c : y.bits = x.bits) : emptyB y = emptyB x := by unfold emptyB; rw [a, c]
theorem ext_addN {F : Fo} {x : Node} {l : Nat} (h : CopOk F x) : Ext F (addN F x l) := by
  have ne : ∀ i, i ∈ F.ids → i ≠ F.last + 1 := fun i hi e => h.fresh (by rw [← e]; exact hi)
  exact ⟨fun i hi => addN_mem.2 (.inl hi), fun i hi => (addN_old (ne i hi)).1, fun i hi => (addN_old (ne i hi)).2.1, fun i hi => (addN_old (ne i hi)).2.2.1, fun i hi => by rw [addN_lev]; exact if_neg (ne i hi)⟩
/-- a node comes in -/
theorem Inv.addN (h : Inv F pend pendS exc) (hs : Small F pend pendS) {l : Nat} (hl : l ≤ 2) {x : Node} (hx : NodeOk F l x) (hE : emptyB x = false) (h0 : x.refs = 0) (hp : pend (F.last + 1) = 0) (he : exc = 0 ∨ ∃ q, q < 16 ∧ x.kids q = exc) :
    Inv (R.addN F x l) pend pendS (F.last + 1) := by
  have hc := h.copOk hs hx
  have ext := ext_addN (l := l) hc
  have ne : ∀ i, i ∈ F.ids → i ≠ F.last + 1 := fun i hi e => hc.fresh (by rw [← e]; exact hi)
  have hnew := addN_new (l := l) hc
  have hlev : (R.addN F x l).lev (F.last + 1) = l := by rw [addN_lev]; exact if_pos rfl
  have hh0 : cnt F.held ((F.last + 1 : Nat) : Int) = 0 := by
    rcases Nat.eq_zero_or_pos (cnt F.held ((F.last + 1 : Nat) : Int)) with h' | h'
    · exact h'
    · obtain ⟨n, e, hn, _⟩ := h.held _ h'
      exact absurd (show F.last + 1 ∈ F.ids by rw [show F.last + 1 = n by omega]; exact hn) hc.fresh
  have hr0 : refc F (F.last + 1) = 0 := refc_zero fun m hm q hq e => by
    rcases (h.ok m hm).kid q hq with h' | ⟨h', _⟩
    · omega
    · rw [e] at h'; exact hc.fresh h'
  have hx0 : hits x.kids 16 (F.last + 1) = 0 := hits_zero fun q hq e => by
    rcases hx.kid q hq with h' | ⟨h', _⟩
    · omega
    · rw [e] at h'; exact hc.fresh h'
  refine ⟨?_, fun i hi => ?_, fun i hi => ?_, fun i hi => ?_, fun i hi => ?_, fun i hi => ?_, fun r hr => ?_, fun s => ?_, fun i hi => ?_⟩
  · rw [addN_ids, List.nodup_append]
    exact ⟨h.nd, by simp, fun a ha b hb e => by simp at hb; subst hb; subst e; exact hc.fresh ha⟩
  · rw [addN_last]
    rcases addN_mem.1 hi with hi | rfl
    · have := h.pos i hi; omega
    · omega
  · rcases addN_mem.1 hi with hi | rfl
    · rw [ext.lev i hi]; exact h.lev i hi
    · rw [hlev]; exact hl
  · rcases addN_mem.1 hi with hi | rfl
    · rw [ext.lev i hi]; exact ((h.ok i hi).ext ext).same (ext.kids i hi) (ext.ents i hi) (ext.bits i hi)
    · rw [hlev, hnew]; exact hx.ext ext
  · rcases addN_mem.1 hi with hi | rfl
    · rw [emptyB_same (ext.kids i hi) (ext.bits i hi)]; exact h.full i hi
    · rw [hnew]; exact hE
  · rw [addN_refc hc, addN_held]
    rcases addN_mem.1 hi with hi | rfl
    · rw [(addN_old (ne i hi)).2.2.2, h.refs i hi, if_pos (by have := (h.pos i hi).1; omega)]; omega
    · rw [hnew, h0, hr0, hx0, hh0, hp]
  · rw [addN_held] at hr
    obtain ⟨n, e, hn, h0⟩ := h.held r hr
    exact ⟨n, e, ext.mem n hn, by rw [ext.lev n hn]; exact h0⟩
  · rw [addN_sl, addN_slc hc, h.sls s]; omega
  · rcases addN_mem.1 hi with hi | rfl
    · left
      rw [(addN_old (ne i hi)).2.2.2, if_pos (by have := (h.pos i hi).1; omega)]
      rcases h.live i hi with h' | rfl
      · omega
      · rcases he with rfl | ⟨q, hq, e⟩
        · have := (h.pos 0 hi).1; omega
        · have := hits_pos hq e; omega
    · exact .inr rfl
end Go.Proofs.YtmpbhoijkcanmaaGreat.R
