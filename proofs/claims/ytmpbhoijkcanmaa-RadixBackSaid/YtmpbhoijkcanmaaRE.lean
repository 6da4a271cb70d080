/- Radix: a node is added: what becomes of a forest; laws for whole nodes. -/
import Derived.Test.YtmpbhoijkcanmaaRD
import Derived.Test.YtmpbhoijkcanmaaGEn
namespace Go.Proofs.Ytmpbhoijkcanmaa.R
open Go.ChangeShapes Go.WideShapes Go.ChangeAt Go.RowKit Go.Maps Go.Proofs.Ytmpbhoijkcanmaa.G
set_option linter.unusedVariables false
set_option linter.unusedSimpArgs false
set_option linter.unnecessarySimpa false

/-! ### laws -/
section
variable {P : Program} {ops : Array Oper} {rest : List Oper} {op : Oper} {a : Act} {w w' : World} {Q : Exit → Act → World → Prop}
theorem wpList_build_g (hg : op.guard = none) (t : TypeId) (ho : op.op = .build t #[]) (Z : Array Value) (hr : (Instr.build t #[]).run P w = .ok (.agg Z) w) (h : wpList P ops Q rest (a.put op.dst (.agg Z)) w) : wpList P ops Q (op :: rest) a w := by
  refine wpList_plain hg fun K' hK' => ?_
  unfold Oper.wp execOp
  simp [ho, hr, Result.andThen]
  exact hK' _ _ h
theorem wpList_box_g (hg : op.guard = none) (t : TypeId) (x : Operand) (ho : op.op = .box t x) (Z : Array Value) (hx : a.eval x = .agg Z) (b : Nat) (hr : (Instr.box t (.agg Z)).run P w = .ok (.pointer (some ⟨b, 0, none⟩)) w') (h : wpList P ops Q rest (a.put op.dst (.pointer (some ⟨b, 0, none⟩))) w') : wpList P ops Q (op :: rest) a w := by
  refine wpList_plain hg fun K' hK' => ?_
  unfold Oper.wp execOp
  simp [ho, hx, hr, Result.andThen]
  exact hK' _ _ h
theorem wpList_index_g (hg : op.guard = none) (t : TypeId) (x i : Operand) (ho : op.op = .index t x i) (u v n : Value) (hx : a.eval x = v) (hi : a.eval i = n) (hr : (Instr.index t v n).run P w = .ok u w) (h : wpList P ops Q rest (a.put op.dst u) w) : wpList P ops Q (op :: rest) a w := by
  refine wpList_plain hg fun K' hK' => ?_
  unfold Oper.wp execOp
  simp [ho, hx, hi, hr, Result.andThen]
  exact hK' _ _ h
end

variable {w w' : World} {p : Pf} {F : Fo}
/-! ### whole nodes -/
def cellsN (x : Node) : List Value := (List.range 82).map (cellN x)
theorem cellsN_len (x : Node) : (cellsN x).length = 82 := by simp [cellsN]
theorem cellsN_get (x : Node) (j : Nat) (hj : j < 82) : (cellsN x)[j]? = some (cellN x j) := by
  unfold cellsN; rw [List.getElem?_map, List.getElem?_range hj]; rfl
theorem info82 : (Try.prog.info? 98).map (·.size) = some 82 := by kernel_rfl
theorem infoN (x : Node) : (Try.prog.info? 98).map (·.size) = some (cellsN x).length := by rw [cellsN_len, info82]
theorem NodeAt.range {b : Nat} {x : Node} (h : NodeAt w b x) : w.rangeAt b 0 (cellsN x) := by
  intro j v hv
  have hj : j < 82 := by
    rcases Nat.lt_or_ge j 82 with h | h
    · exact h
    · rw [List.getElem?_eq_none (by rw [cellsN_len]; exact h)] at hv; cases hv
  rw [cellsN_get x j hj] at hv
  simp only [Option.some.injEq] at hv
  rw [Nat.zero_add, World.rowIs.cell h hj, hv]
theorem NodeAt.there {b : Nat} {x : Node} (h : NodeAt w b x) (y : Node) : w.there b 0 (cellsN y).toArray.size := by
  intro j hj
  rw [List.size_toArray, cellsN_len] at hj
  exact ⟨by rw [Nat.zero_add, World.rowIs.cell h hj]; rfl, h.frozen _⟩
theorem cellN_one (x : Node) (j : Nat) : (cellN x j).oneCell' = true := by
  unfold cellN entCell
  repeat' split
  all_goals rfl
theorem cellsN_one (x : Node) : (cellsN x).toArray.all (·.oneCell') = true := by
  refine all_oneCell_toArray fun v hv => ?_
  obtain ⟨j, _, rfl⟩ := List.mem_map.1 hv
  exact cellN_one x j
theorem rowIs_setCells {t : TypeId} {n b : Nat} : ∀ (vs : List Value) (o : Nat) (w : World) (f : Nat → Value), w.rowIs b t n f → (w.setCells b o vs).rowIs b t n (fun j => if o ≤ j ∧ j < o + vs.length then vs.getD (j - o) undef else f j)
  | [], o, w, f, h => World.rowIs.congr h fun j _ => by rw [if_neg (by simp only [List.length_nil]; omega)]
  | v :: vs, o, w, f, h => by
    rw [World.setCells]
    refine World.rowIs.congr (rowIs_setCells vs (o + 1) _ _ (World.rowIs.set h o v)) fun j _ => ?_
    by_cases h1 : o + 1 ≤ j ∧ j < o + 1 + vs.length
    · rw [if_pos h1, if_pos (by simp; omega)]
      rw [show j - o = (j - (o + 1)) + 1 by omega]
      rfl
    · rw [if_neg h1]
      by_cases h2 : j = o
      · subst h2
        rw [if_pos rfl, if_pos (by simp)]
        simp
      · rw [if_neg h2, if_neg (by simp; omega)]
theorem NodeAt.put {b : Nat} {x : Node} (h : NodeAt w b x) (y : Node) : NodeAt (w.setCells b 0 (cellsN y)) b y := by
  refine World.rowIs.congr (rowIs_setCells (cellsN y) 0 w _ h) fun j hj => ?_
  rw [if_pos (by rw [cellsN_len]; omega), List.getD_eq_getElem?_getD, Nat.sub_zero, cellsN_get y j hj]
  rfl
theorem turned_setCells {b : Nat} : ∀ (vs : List Value) (o : Nat) (w : World), Turned [b] w (w.setCells b o vs)
  | [], o, w => Turned.refl _ _
  | v :: vs, o, w => by
    rw [World.setCells]
    exact ((Turned.refl [b] w).setCell (p := ⟨b, o, none⟩) (.inl (by simp)) v).trans (turned_setCells vs (o + 1) _)
theorem buildN (w : World) : (Instr.build 98 #[]).run Try.prog w = .ok (.agg (cellsN zeroN).toArray) w := by kernel_rfl
theorem boxN (x : Node) (w : World) : (Instr.box 98 (.agg (cellsN x).toArray)).run Try.prog w = .ok (.pointer (some ⟨w.heap.size, 0, none⟩)) (w.alloc (.cells (cellsN x).toArray 98)) := by
  simp [Instr.box, newVar, newRow, Value.cells, Result.andThen]
theorem NodeAt.new (x : Node) (w : World) : NodeAt (w.alloc (.cells (cellsN x).toArray 98)) w.heap.size x := by
  have := World.rowIs_alloc w (cellsN x).toArray 98 (cellN x) (fun i hi => by
    rw [List.size_toArray, cellsN_len] at hi
    rw [List.getElem?_toArray, cellsN_get x i hi])
  have e : (cellsN x).toArray.size = 82 := by rw [List.size_toArray, cellsN_len]
  rw [e] at this
  exact this

/-! ### a forest that changes -/
def FoOwn (p : Pf) (F : Fo) (w w' : World) : Prop := ∃ S, Turned S w w' ∧ ∀ b ∈ S, p.own F b
theorem FoOwn.of (t : Turned [] w w') : FoOwn p F w w' := ⟨[], t, by simp⟩
theorem FoOwn.step {w2 w3 : World} (h : FoOwn p F w w2) {S : List Nat} (t : Turned S w2 w3) (hS : ∀ b ∈ S, w.heap.size ≤ b ∨ p.own F b) : FoOwn p F w w3 := by
  obtain ⟨T, h1, h2⟩ := h
  refine ⟨T ++ S.filter (fun b => decide (b < w.heap.size)), ?_, fun b hb => ?_⟩
  · refine ⟨t.os.trans h1.os, t.tape.trans h1.tape, t.output.trans h1.output, Nat.le_trans h1.size t.size, fun i hi hn => ?_⟩
    rw [List.mem_append, not_or, List.mem_filter] at hn
    have h3 : i ∉ S := fun hm => hn.2 ⟨hm, by simpa using hi⟩
    exact (t.block i (Nat.lt_of_lt_of_le hi h1.size) h3).trans (h1.block i hi hn.1)
  · rw [List.mem_append, List.mem_filter] at hb
    rcases hb with hb | ⟨hb, hl⟩
    · exact h2 b hb
    · rcases hS b hb with h | h
      · simp at hl; omega
      · exact h
theorem FoOwn.cell {a : Addr} {v : Value} (h : FoOwn p F w w') (hc : w.cell? a = some v) (ha : ¬ p.own F a.block) : w'.cell? a = some v := by
  obtain ⟨S, t, hS⟩ := h
  exact t.cell hc (fun hm => ha (hS _ hm))
theorem FoOwn.size (h : FoOwn p F w w') : w.heap.size ≤ w'.heap.size := let ⟨_, t, _⟩ := h; t.size

def upN (f : Nat → Node) (k : Nat) (x : Node) : Nat → Node := fun i => if i = k then x else f i
theorem upN_same (f : Nat → Node) (k : Nat) (x : Node) : upN f k x k = x := if_pos rfl
theorem upN_ne {f : Nat → Node} {k i : Nat} {x : Node} (h : i ≠ k) : upN f k x i = f i := if_neg h
def setNd (F : Fo) (k : Nat) (x : Node) : Fo := { F with nd := upN F.nd k x }
theorem FoAt.setNd {w2 : World} (h : FoAt w p F) (k : Nat) (hk : k ∈ F.ids) (x : Node) (hx : NodeAt w2 (p.blk k) x) (t : Turned [p.blk k] w w2) : FoAt w2 p (setNd F k x) := by
  have hf := h.far k hk
  refine ⟨t.cell h.c0 (by simpa using hf.1.symm), t.cell h.c1 (by simpa using hf.1.symm), t.cell h.c2 (by simpa using hf.1.symm), t.cell h.c3 (by simpa using hf.1.symm), fun j => (t.frozen (a := ⟨p.f, j, none⟩) (h.lt (.inl rfl)) (by simpa using hf.1.symm)).trans (h.fz j),
    h.nodes.turned t (by simpa using hf.2.1.symm), h.held.turned t (by simpa using hf.2.2.1.symm), h.sl.turned t (by simpa using hf.2.2.2.symm), fun i hi => ?_, h.nh, h.ns, h.inj, h.far, h.dis⟩
  show NodeAt w2 (p.blk i) (upN F.nd k x i)
  by_cases e : i = k
  · subst e; rw [upN_same]; exact hx
  · rw [upN_ne e]; exact (h.nd i hi).turned t (by simpa using h.inj i k hi hk e)
/-- a node is referred to once more -/
def refInc (F : Fo) (k : Nat) : Fo := if k = 0 then F else setNd F k (setRefs (F.nd k) ((F.nd k).refs + 1))
def refIncs (F : Fo) (f : Nat → Nat) : Nat → Fo
  | 0 => F
  | j + 1 => refInc (refIncs F f j) (f j)
theorem refInc_ids (F : Fo) (k : Nat) : (refInc F k).ids = F.ids := by unfold refInc; split <;> rfl
theorem refIncs_ids (F : Fo) (f : Nat → Nat) : ∀ j, (refIncs F f j).ids = F.ids
  | 0 => rfl
  | j + 1 => by rw [refIncs, refInc_ids, refIncs_ids F f j]
theorem FoAt.refInc (h : FoAt w p F) (k : Nat) (hk : k ∈ F.ids) (h0 : k ≠ 0) : FoAt (w.setCell ⟨p.blk k, 81, none⟩ (.int .i64 ((F.nd k).refs + 1 : Nat))) p (refInc F k) := by
  unfold R.refInc
  rw [if_neg h0]
  exact h.setNd k hk _ ((h.nd k hk).setRefs _) ((Turned.refl [p.blk k] w).setCell (p := ⟨p.blk k, 81, none⟩) (.inl (by simp)) _)
/-- a slot is in one node more -/
def slInc (F : Fo) (s : Slot) : Fo := { F with sl := mput F.sl s (.int .i64 (cnt F.sl s + 1 : Nat)) }
def slIncs (F : Fo) (x : Node) : Nat → Fo
  | 0 => F
  | j + 1 => if x.bits.testBit j then slInc (slIncs F x j) (x.ents j).s else slIncs F x j
theorem slIncs_ids (F : Fo) (x : Node) : ∀ j, (slIncs F x j).ids = F.ids
  | 0 => rfl
  | j + 1 => by
    rw [slIncs]
    split
    · exact slIncs_ids F x j
    · exact slIncs_ids F x j
theorem FoAt.setSl {l : List (Slot × Value)} (h : FoAt w p F) (hm : MapIs Try.prog 31 encS w' p.s l) (hn : NumL l) (t : Turned [p.s] w w') : FoAt w' p { F with sl := l } := by
  have hd := h.dis
  exact ⟨t.cell h.c0 (by simpa using hd.1.2.2), t.cell h.c1 (by simpa using hd.1.2.2), t.cell h.c2 (by simpa using hd.1.2.2), t.cell h.c3 (by simpa using hd.1.2.2), fun j => (t.frozen (a := ⟨p.f, j, none⟩) (h.lt (.inl rfl)) (by simpa using hd.1.2.2)).trans (h.fz j),
    h.nodes.turned t (by simpa using hd.2.1.2), h.held.turned t (by simpa using hd.2.2), hm, fun i hi => (h.nd i hi).turned t (by simpa using (h.far i hi).2.2.2), h.nh, hn, h.inj, h.far, h.dis⟩
theorem FoAt.setHeld {l : List (Int × Value)} (h : FoAt w p F) (hm : MapIs Try.prog 3 encI w' p.h l) (hn : NumL l) (t : Turned [p.h] w w') : FoAt w' p { F with held := l } := by
  have hd := h.dis
  exact ⟨t.cell h.c0 (by simpa using hd.1.2.1), t.cell h.c1 (by simpa using hd.1.2.1), t.cell h.c2 (by simpa using hd.1.2.1), t.cell h.c3 (by simpa using hd.1.2.1), fun j => (t.frozen (a := ⟨p.f, j, none⟩) (h.lt (.inl rfl)) (by simpa using hd.1.2.1)).trans (h.fz j),
    h.nodes.turned t (by simpa using hd.2.1.1), hm, h.sl.turned t (by simpa using hd.2.2.symm), fun i hi => (h.nd i hi).turned t (by simpa using (h.far i hi).2.2.1), hn, h.ns, h.inj, h.far, h.dis⟩
theorem FoAt.setLast (h : FoAt w p F) (n : Nat) : FoAt (w.setCell ⟨p.f, 3, none⟩ (.int .i64 n)) p { F with last := n } := by
  have t : Turned [p.f] w (w.setCell ⟨p.f, 3, none⟩ (.int .i64 n)) := (Turned.refl [p.f] w).setCell (.inl (by simp)) _
  have hd := h.dis
  have ho : ∀ j, j ≠ 3 → (w.setCell ⟨p.f, 3, none⟩ (.int .i64 n)).cell? ⟨p.f, j, none⟩ = w.cell? ⟨p.f, j, none⟩ := fun j hj => World.cell?_setCell_other _ _ _ _ (by simpa using hj.symm)
  refine ⟨(ho 0 (by omega)).trans h.c0, (ho 1 (by omega)).trans h.c1, (ho 2 (by omega)).trans h.c2, World.cell?_setCell_same _ _ _ h.c3, fun j => ?_,
    h.nodes.turned t (by simpa using hd.1.1.symm), h.held.turned t (by simpa using hd.1.2.1.symm), h.sl.turned t (by simpa using hd.1.2.2.symm), fun i hi => (h.nd i hi).turned t (by simpa using (h.far i hi).1), h.nh, h.ns, h.inj, h.far, h.dis⟩
  rw [World.frozen?_setCell]; exact h.fz j
/-- a node comes in -/
def addId (F : Fo) (x : Node) (lev : Nat) : Fo := { F with ids := F.ids ++ [F.last + 1], nd := upN F.nd (F.last + 1) x, last := F.last + 1, lev := fun i => if i = F.last + 1 then lev else F.lev i }
def addP (p : Pf) (n b : Nat) : Pf := { p with blk := fun i => if i = n then b else p.blk i }
theorem nodesL_add (p : Pf) (F : Fo) (x : Node) (lev b : Nat) (hn : F.last + 1 ∉ F.ids) : mput (nodesL p F) ((F.last + 1 : Nat) : Int) (ptrV b) = nodesL (addP p (F.last + 1) b) (addId F x lev) := by
  unfold mput
  rw [any_iff, find_nodes, if_neg hn]
  simp only [Option.isSome_none, Bool.false_eq_true, if_false]
  unfold nodesL addId addP
  simp only [List.map_append, List.map_cons, List.map_nil, if_true]
  congr 1
  apply List.map_congr_left
  intro i hi
  have hne : i ≠ F.last + 1 := fun e => hn (by rw [← e]; exact hi)
  rw [if_neg hne]
theorem FoAt.addId {w2 : World} (h : FoAt w p { F with last := F.last + 1 }) (x : Node) (lev b : Nat) (hn : F.last + 1 ∉ F.ids) (hx : NodeAt w b x) (hb : ¬ p.own F b)
    (hm : MapIs Try.prog 3 encI w2 p.m (mput (nodesL p F) ((F.last + 1 : Nat) : Int) (ptrV b))) (t : Turned [p.m] w w2) : FoAt w2 (addP p (F.last + 1) b) (addId F x lev) := by
  have hd := h.dis
  have hbo : b ≠ p.f ∧ b ≠ p.m ∧ b ≠ p.h ∧ b ≠ p.s ∧ ∀ i, i ∈ F.ids → b ≠ p.blk i := ⟨fun e => hb (.inl e), fun e => hb (.inr (.inl e)), fun e => hb (.inr (.inr (.inl e))), fun e => hb (.inr (.inr (.inr (.inl e)))), fun i hi e => hb (.inr (.inr (.inr (.inr ⟨i, hi, e⟩))))⟩
  rw [nodesL_add p F x lev b hn] at hm
  have mem : ∀ i, i ∈ (R.addId F x lev).ids → i = F.last + 1 ∨ (i ≠ F.last + 1 ∧ i ∈ F.ids) := fun i hi => by
    rcases List.mem_append.1 hi with hi | hi
    · exact .inr ⟨fun e => hn (e ▸ hi), hi⟩
    · exact .inl (by simpa using hi)
  have bn : (addP p (F.last + 1) b).blk (F.last + 1) = b := if_pos rfl
  have bo : ∀ i, i ≠ F.last + 1 → (addP p (F.last + 1) b).blk i = p.blk i := fun i hi => if_neg hi
  refine ⟨t.cell h.c0 (show p.f ∉ [p.m] by simpa using hd.1.1), t.cell h.c1 (show p.f ∉ [p.m] by simpa using hd.1.1), t.cell h.c2 (show p.f ∉ [p.m] by simpa using hd.1.1), t.cell h.c3 (show p.f ∉ [p.m] by simpa using hd.1.1), fun j => (t.frozen (a := ⟨p.f, j, none⟩) (h.lt (.inl rfl)) (show p.f ∉ [p.m] by simpa using hd.1.1)).trans (h.fz j),
    hm, h.held.turned t (by simpa using hd.2.1.1.symm), h.sl.turned t (by simpa using hd.2.1.2.symm), fun i hi => ?_, h.nh, h.ns, fun i j hi hj hij => ?_, fun i hi => ?_, h.dis⟩
  · show NodeAt w2 _ (upN F.nd (F.last + 1) x i)
    rcases mem i hi with rfl | ⟨hne, hi⟩
    · rw [bn, upN_same]; exact hx.turned t (by simpa using hbo.2.1)
    · rw [bo i hne, upN_ne hne]; exact (h.nd i hi).turned t (by simpa using (h.far i hi).2.1)
  · rcases mem i hi with rfl | ⟨hne, hi⟩
    · rcases mem j hj with rfl | ⟨hne2, hj⟩
      · exact absurd rfl hij
      · rw [bn, bo j hne2]; exact hbo.2.2.2.2 j hj
    · rcases mem j hj with rfl | ⟨hne2, hj⟩
      · rw [bn, bo i hne]; exact (hbo.2.2.2.2 i hi).symm
      · rw [bo i hne, bo j hne2]; exact h.inj i j hi hj hij
  · rcases mem i hi with rfl | ⟨hne, hi⟩
    · rw [bn]; exact ⟨hbo.1, hbo.2.1, hbo.2.2.1, hbo.2.2.2.1⟩
    · rw [bo i hne]; exact h.far i hi
def addN (F : Fo) (x : Node) (lev : Nat) : Fo := slIncs (refIncs (addId F x lev) x.kids 16) x 16
end Go.Proofs.Ytmpbhoijkcanmaa.R
