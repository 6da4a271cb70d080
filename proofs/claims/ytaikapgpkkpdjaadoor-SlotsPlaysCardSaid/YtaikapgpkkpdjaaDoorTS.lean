/- Slots: the document's: Take. -/
import Derived.Test.YtaikapgpkkpdjaaDoorTR
namespace Go.Proofs.YtaikapgpkkpdjaaDoor.L
open Go.ChangeShapes Go.WideShapes Go.ChangeAt Go.RowKit Go.Maps Go.Proofs.YtaikapgpkkpdjaaDoor.G Go.Sort Go.Shelf Go.Lib Go.Deep
set_option linter.unusedVariables false
set_option linter.unusedSimpArgs false

variable {w w' : World} {br bL n cap : Nat} {pg : Int} {rx : Nat → RX}
/-- an extent of the class has no free slot -/
def fullX (c : Int) (r : RX) : Prop := r.cls = c → ∀ k, k < r.K → r.st k ≠ 0
def newX (c : Int) (sb eb : Nat) : RX := ⟨c, (slotsC c).toNat, fun _ => 0, fun _ => 0, sb, eb⟩
/-- what Take answers -/
inductive TakeIs (n : Nat) (rx : Nat → RX) (c : Int) (lo : Nat) : Slot → Int → (Nat → RX) → Prop where
  | bad (h : c < 0 ∨ 5 < c) : TakeIs n rx c lo zeroS 2 rx
  | found (i k : Nat) (hc : 0 ≤ c ∧ c ≤ 5) (hi : i < n) (hcl : (rx i).cls = c) (hk : k < (rx i).K) (h0 : (rx i).st k = 0) (hb : ∀ j, j < i → fullX c (rx j)) (hkb : ∀ j, j < k → (rx i).st j ≠ 0) : TakeIs n rx c lo ⟨i, c, k⟩ 0 (rxS rx i k 1)
  | fresh (i sb eb : Nat) (hc : 0 ≤ c ∧ c ≤ 5) (hi : i < n) (hcl : (rx i).cls < 0) (ha : ∀ j, j < n → fullX c (rx j)) (hb : ∀ j, j < i → 0 ≤ (rx j).cls) (hs : lo ≤ sb) (he : lo ≤ eb) : TakeIs n rx c lo ⟨i, c, 0⟩ 0 (rxS (updR rx i (newX c sb eb)) i 0 1)
  | full (hc : 0 ≤ c ∧ c ≤ 5) (ha : ∀ j, j < n → fullX c (rx j)) (hb : ∀ j, j < n → 0 ≤ (rx j).cls) : TakeIs n rx c lo zeroS 4 rx
def rtakePost (br bL n cap : Nat) (pg : Int) (rx : Nat → RX) (c : Int) (w : World) (e : Ending) (w' : World) : Prop :=
  ∃ x err rx', e = .returned (.tuple #[encS x, .int .i64 err]) ∧ TakeIs n rx c w.heap.size x err rx' ∧ RefAt w' br bL n cap pg rx' ∧ OwnR br bL n rx w w'
theorem ResAt.own {rx0 : Nat → RX} {w1 w2 : World} {B : Nat} {x : Slot} (h : ResAt w1 B x) (o : OwnR br bL n rx0 w1 w2) (h0 : ∀ b, RBlk br bL n rx0 b → b < B) : ResAt w2 B x := by
  obtain ⟨S, t, hS⟩ := o
  exact h.turned t (fun hm => by have := h0 _ (hS _ hm); omega)
theorem OwnR.tr {rx0 : Nat → RX} {w1 w2 w3 : World} (h : OwnR br bL n rx0 w1 w2) (k : OwnR br bL n rx0 w2 w3) : OwnR br bL n rx0 w1 w3 := by
  obtain ⟨S, t, hS⟩ := k
  exact h.step t (fun b hb => .inr (hS b hb))
theorem RefAt.box {w1 : World} {B : Nat} {x : Slot} (h : RefAt w1 br bL n cap pg rx) (hr : ResAt w1 B x) (y : Slot) (hB : ∀ b, RBlk br bL n rx b → b ≠ B) :
    RefAt (((w1.setCell ⟨B, 0, none⟩ (.int .i64 y.e)).setCell ⟨B, 1, none⟩ (.int .i64 y.c)).setCell ⟨B, 2, none⟩ (.int .i64 y.i)) br bL n cap pg rx :=
  h.turned (hr.set y).2 (fun b hb => by have := hB b hb; simpa using this)
theorem rxS_blk {e k : Nat} {v : Int} {b : Nat} (h : RBlk br bL n (rxS rx e k v) b) : RBlk br bL n rx b := by
  rcases h with rfl | hb | ⟨j, hj, hK, e'⟩
  · exact .inl rfl
  · exact .inr (.inl hb)
  · refine .inr (.inr ⟨j, hj, ?_⟩)
    unfold rxS at hK e'
    by_cases hji : j = e
    · subst hji; rw [updR_same] at hK e'; exact ⟨hK, e'⟩
    · rw [updR_ne hji] at hK e'; exact ⟨hK, e'⟩

theorem rtake_mk {c : Int} {w w' : World} {x : Slot} {err : Int} {rx' : Nat → RX} {v : Value} (hv : v = encS x) (h1 : TakeIs n rx c w.heap.size x err rx') (h2 : RefAt w' br bL n cap pg rx') (h3 : OwnR br bL n rx w w') :
    rtakePost br bL n cap pg rx c w (.returned (.tuple #[v, .int .i64 err])) w' := ⟨x, err, rx', by rw [hv], h1, h2, h3⟩
theorem rtake_box {w ww : World} {x0 : Slot} {rx' : Nat → RX} (hz : ResAt ww w.heap.size x0) (hr : RefAt ww br bL n cap pg rx') (ho : OwnR br bL n rx w ww) (hB : ∀ b, RBlk br bL n rx' b → b ≠ w.heap.size) (y : Slot) :
    ResAt (((ww.setCell ⟨w.heap.size, 0, none⟩ (.int .i64 y.e)).setCell ⟨w.heap.size, 1, none⟩ (.int .i64 y.c)).setCell ⟨w.heap.size, 2, none⟩ (.int .i64 y.i)) w.heap.size y ∧
    RefAt (((ww.setCell ⟨w.heap.size, 0, none⟩ (.int .i64 y.e)).setCell ⟨w.heap.size, 1, none⟩ (.int .i64 y.c)).setCell ⟨w.heap.size, 2, none⟩ (.int .i64 y.i)) br bL n cap pg rx' ∧
    OwnR br bL n rx w (((ww.setCell ⟨w.heap.size, 0, none⟩ (.int .i64 y.e)).setCell ⟨w.heap.size, 1, none⟩ (.int .i64 y.c)).setCell ⟨w.heap.size, 2, none⟩ (.int .i64 y.i)) :=
  ⟨(hz.set y).1, hr.box hz y hB, ho.step (hz.set y).2 (fun b hb => by simp at hb; subst hb; exact .inl (Nat.le_refl _))⟩

theorem info3 : (Tryd.prog.info? 3).map (fun i => (i.zero, i.size, i.bytes)) = some (some (.int .i64 0), 1, 8) := by kernel_rfl
theorem info38 : (Tryd.prog.info? 38).map (fun i => (i.zero, i.size, i.bytes)) = some (some (.int .u64 0), 1, 8) := by kernel_rfl
theorem keepA {w : World} {o : Obj} {br bL m : Nat} {x u0 u1 u2 : Value} (h : w.cell? ⟨br, 1, none⟩ = some x ∧ w.cell? ⟨bL, m * 3, none⟩ = some u0 ∧ w.cell? ⟨bL, m * 3 + 1, none⟩ = some u1 ∧ w.cell? ⟨bL, m * 3 + 2, none⟩ = some u2 ∧
    w.frozen? ⟨bL, m * 3, none⟩ = false ∧ w.frozen? ⟨bL, m * 3 + 1, none⟩ = false ∧ w.frozen? ⟨bL, m * 3 + 2, none⟩ = false) :
    (w.alloc o).cell? ⟨br, 1, none⟩ = some x ∧ (w.alloc o).cell? ⟨bL, m * 3, none⟩ = some u0 ∧ (w.alloc o).cell? ⟨bL, m * 3 + 1, none⟩ = some u1 ∧ (w.alloc o).cell? ⟨bL, m * 3 + 2, none⟩ = some u2 ∧
    (w.alloc o).frozen? ⟨bL, m * 3, none⟩ = false ∧ (w.alloc o).frozen? ⟨bL, m * 3 + 1, none⟩ = false ∧ (w.alloc o).frozen? ⟨bL, m * 3 + 2, none⟩ = false := by
  have t := (Turned.refl [] w).alloc o
  obtain ⟨a, b, c, d, e, f, g⟩ := h
  exact ⟨t.cell a (by simp), t.cell b (by simp), t.cell c (by simp), t.cell d (by simp), (t.frozen (lt_of_cell b) (by simp)).trans e, (t.frozen (lt_of_cell c) (by simp)).trans f, (t.frozen (lt_of_cell d) (by simp)).trans g⟩
theorem keepD {w : World} {o : Obj} {br bL m : Nat} {x u0 u1 u2 : Value} (h : w.cell? ⟨br, 1, none⟩ = some x ∧ w.cell? ⟨bL, m * 3, none⟩ = some u0 ∧ w.cell? ⟨bL, m * 3 + 1, none⟩ = some u1 ∧ w.cell? ⟨bL, m * 3 + 2, none⟩ = some u2 ∧
    w.frozen? ⟨bL, m * 3, none⟩ = false ∧ w.frozen? ⟨bL, m * 3 + 1, none⟩ = false ∧ w.frozen? ⟨bL, m * 3 + 2, none⟩ = false) :
    (w.alloc o).drew.cell? ⟨br, 1, none⟩ = some x ∧ (w.alloc o).drew.cell? ⟨bL, m * 3, none⟩ = some u0 ∧ (w.alloc o).drew.cell? ⟨bL, m * 3 + 1, none⟩ = some u1 ∧ (w.alloc o).drew.cell? ⟨bL, m * 3 + 2, none⟩ = some u2 ∧
    (w.alloc o).drew.frozen? ⟨bL, m * 3, none⟩ = false ∧ (w.alloc o).drew.frozen? ⟨bL, m * 3 + 1, none⟩ = false ∧ (w.alloc o).drew.frozen? ⟨bL, m * 3 + 2, none⟩ = false := by
  have t := ((Turned.refl [] w).alloc o).drew
  obtain ⟨a, b, c, d, e, f, g⟩ := h
  exact ⟨t.cell a (by simp), t.cell b (by simp), t.cell c (by simp), t.cell d (by simp), (t.frozen (lt_of_cell b) (by simp)).trans e, (t.frozen (lt_of_cell c) (by simp)).trans f, (t.frozen (lt_of_cell d) (by simp)).trans g⟩
theorem fzD {w : World} {o : Obj} {a : Addr} {u : Value} (h : w.cell? a = some u) (f : w.frozen? a = false) : (w.alloc o).drew.frozen? a = false :=
  (((Turned.refl [] w).alloc o).drew.frozen (lt_of_cell h) (by simp)).trans f
theorem fzA {w : World} {o : Obj} {a : Addr} {u : Value} (h : w.cell? a = some u) (f : w.frozen? a = false) : (w.alloc o).frozen? a = false :=
  (((Turned.refl [] w).alloc o).frozen (lt_of_cell h) (by simp)).trans f
theorem fzE {w : World} {a : Addr} (f : w.frozen? a = false) : w.drew.frozen? a = false := f
theorem cell_after {w : World} {br bL k0 k1 k2 : Nat} {x : Value} (h : w.cell? ⟨br, 1, none⟩ = some x) (hb : br ≠ bL) (v0 v1 v2 : Value) (o1 o2 : Obj) :
    (((((w.setCell ⟨bL, k0, none⟩ v0).setCell ⟨bL, k1, none⟩ v1).setCell ⟨bL, k2, none⟩ v2).alloc o1).alloc o2).drew.cell? ⟨br, 1, none⟩ = some x :=
  Turned.cell ((((((Turned.refl [bL] w).setCell (p := ⟨bL, k0, none⟩) (.inl (by simp)) v0).setCell (p := ⟨bL, k1, none⟩) (.inl (by simp)) v1).setCell (p := ⟨bL, k2, none⟩) (.inl (by simp)) v2).alloc o1).alloc o2).drew h (by simpa using hb)
/-- an extent is laid out of two new rows -/
def TakeMid (w wc : World) (br bL n cap : Nat) (pg : Int) (rx : Nat → RX) (m : Nat) (c : Int) : Prop :=
  ∃ sb eb, w.heap.size < sb ∧ w.heap.size < eb ∧ RefAt wc br bL n cap pg (updR rx m (newX c sb eb)) ∧ OwnR br bL n rx w wc ∧ ResAt wc w.heap.size zeroS
theorem takeMid {w w1 wa wc : World} {m : Nat} {c : Int} {K sb eb : Nat} (hm : m < n) (hc : 0 ≤ c ∧ c ≤ 5) (hK : slotsC c = (K : Int)) (h : RefAt w1 br bL n cap pg rx) (hz : ResAt w1 w.heap.size zeroS) (ho : OwnR br bL n rx w w1)
    (h0 : ∀ b, RBlk br bL n rx b → b < w.heap.size) (t : Turned [] w1 wa) (hs : wa.rowIs sb 3 K (fun _ => .int .i64 0)) (he : wa.rowIs eb 38 K (fun _ => .int .u64 0)) (hse : sb ≠ eb) (hs1 : w1.heap.size ≤ sb) (he1 : w1.heap.size ≤ eb)
    (hwc : wc = setX wa bL m (newX c sb eb)) : TakeMid w wc br bL n cap pg rx m c := by
  have hlt := World.rowIs.lt hz
  have hp := slotsC_pos c hc
  have hKe : (newX c sb eb).K = K := by show (slotsC c).toNat = K; omega
  have hbr := h0 br (.inl rfl)
  have hbL := h0 bL (.inr (.inl ⟨rfl, by omega⟩))
  have hnum : numRX (newX c sb eb) := ⟨⟨by show (-1 : Int) ≤ c; omega, hc.2⟩, .inr ⟨hc.1, by rw [hKe]; exact hK.symm⟩, fun _ _ => ⟨by show (0:Int) ≤ 0; omega, by show (0:Int) ≤ 2; omega⟩, fun _ _ => by show 0 < 2 ^ 64; decide⟩
  have hr := (h.calm t).setX m hm (newX c sb eb) hnum (.inr ⟨by rw [hKe]; exact hs, by rw [hKe]; exact he⟩)
    (fun _ => ⟨⟨by show sb ≠ br; omega, by show sb ≠ bL; omega⟩, ⟨by show eb ≠ br; omega, by show eb ≠ bL; omega⟩, hse⟩)
    (fun j hj hjm _ hkj => by
      have b1 := h0 (rx j).sb (.inr (.inr ⟨j, hj, hkj, .inl rfl⟩))
      have b2 := h0 (rx j).eb (.inr (.inr ⟨j, hj, hkj, .inr rfl⟩))
      refine ⟨?_, ?_, ?_, ?_⟩
      · show sb ≠ _; omega
      · show sb ≠ _; omega
      · show eb ≠ _; omega
      · show eb ≠ _; omega)
  have tx := setX_turned wa bL m (newX c sb eb)
  subst hwc
  exact ⟨sb, eb, by omega, by omega, hr, (ho.step t (by simp)).step tx (fun b hb => by simp at hb; subst hb; exact .inr (.inr (.inl ⟨rfl, by omega⟩))), (hz.turned t (by simp)).turned tx (by simp; omega)⟩

theorem rxNew_blk {m : Nat} {c : Int} {sb eb b : Nat} (h : RBlk br bL n (updR rx m (newX c sb eb)) b) : RBlk br bL n rx b ∨ b = sb ∨ b = eb := by
  rcases h with rfl | hb | ⟨j, hj, hK, e'⟩
  · exact .inl (.inl rfl)
  · exact .inl (.inr (.inl hb))
  · by_cases hjm : j = m
    · subst hjm
      rw [updR_same] at e'
      exact .inr e'
    · rw [updR_ne hjm] at hK e'
      exact .inl (.inr (.inr ⟨j, hj, hK, e'⟩))
theorem takeRest {w wc w' : World} {m : Nat} {c : Int} {sb eb : Nat} (h0 : ∀ b, RBlk br bL n rx b → b < w.heap.size) (hs : w.heap.size < sb) (he : w.heap.size < eb) (ho : OwnR br bL n rx w wc) (hz : ResAt wc w.heap.size zeroS)
    (hr : RefAt w' br bL n cap pg (rxS (updR rx m (newX c sb eb)) m 0 1)) (ho2 : OwnR br bL n (updR rx m (newX c sb eb)) wc w') :
    ResAt w' w.heap.size zeroS ∧ OwnR br bL n rx w w' ∧ ∀ b, RBlk br bL n (rxS (updR rx m (newX c sb eb)) m 0 1) b → b ≠ w.heap.size := by
  have hb : ∀ b, RBlk br bL n (updR rx m (newX c sb eb)) b → b ≠ w.heap.size ∧ (w.heap.size ≤ b ∨ RBlk br bL n rx b) := fun b hb => by
    rcases rxNew_blk hb with h | rfl | rfl
    · exact ⟨by have := h0 _ h; omega, .inr h⟩
    · exact ⟨by omega, .inl (by omega)⟩
    · exact ⟨by omega, .inl (by omega)⟩
  obtain ⟨S, t, hS⟩ := ho2
  exact ⟨hz.turned t (fun hm => (hb _ (hS _ hm)).1 rfl), ho.step t (fun b hbb => (hb b (hS b hbb)).2), fun b hbb => (hb b (rxS_blk hbb)).1⟩

/-- the three cells of an extent, ahead of two allocs, or behind them -/
theorem setX_allocs (w : World) (bL m : Nat) (r : RX) (hb : bL < w.heap.size) (o1 o2 : Obj) :
    (((((w.setCell ⟨bL, m * 3, none⟩ (.int .i64 r.cls)).setCell ⟨bL, m * 3 + 1, none⟩ (svOf r.sb r.K)).setCell ⟨bL, m * 3 + 2, none⟩ (svOf r.eb r.K)).alloc o1).alloc o2).drew = setX ((w.alloc o1).alloc o2).drew bL m r := by
  have h1 : ∀ (w : World) o (i : Nat) v, bL < w.heap.size → (w.alloc o).setCell ⟨bL, i, none⟩ v = (w.setCell ⟨bL, i, none⟩ v).alloc o := fun w o i v h => World.setCell_alloc_past o bL i v h
  have hs : ∀ (w : World) (a : Addr) v, (w.setCell a v).heap.size = w.heap.size := fun w a v => by simp [World.setCell]
  unfold setX
  simp only [World.setCell_drew]
  rw [h1 _ o2 _ _ (by simp; omega), h1 _ o1 _ _ hb, h1 _ o2 _ _ (by simp; omega), h1 _ o1 _ _ (by simp; omega), h1 _ o2 _ _ (by simp; omega), h1 _ o1 _ _ (by simp; omega)]
theorem takeMid1 {w w1 : World} {m : Nat} {c : Int} {K : Nat} (hm : m < n) (hc : 0 ≤ c ∧ c ≤ 5) (hK : slotsC c = (K : Int)) (h : RefAt w1 br bL n cap pg rx) (hz : ResAt w1 w.heap.size zeroS) (ho : OwnR br bL n rx w w1)
    (h0 : ∀ b, RBlk br bL n rx b → b < w.heap.size) :
    TakeMid w (((((w1.setCell ⟨bL, m * 3, none⟩ (.int .i64 c)).setCell ⟨bL, m * 3 + 1, none⟩ (.slice (some ⟨w1.heap.size, 0, none⟩) K K)).setCell ⟨bL, m * 3 + 2, none⟩ (.slice (some ⟨w1.heap.size + 1, 0, none⟩) K K)).alloc (.cells (madeCells #[.int .i64 0] K) 3)).alloc (.cells (madeCells #[.int .u64 0] K) 38)).drew br bL n cap pg rx m c := by
  have hp := slotsC_pos c hc
  have hbL : bL < w1.heap.size := h.lt (.inr (.inl ⟨rfl, by omega⟩))
  have hKe : (newX c w1.heap.size (w1.heap.size + 1)).K = K := by show (slotsC c).toNat = K; omega
  have e := setX_allocs w1 bL m (newX c w1.heap.size (w1.heap.size + 1)) hbL (.cells (madeCells #[.int .i64 0] K) 3) (.cells (madeCells #[.int .u64 0] K) 38)
  rw [hKe, svOf_pos (by omega), svOf_pos (by omega)] at e
  have r1 := World.rowIs_made w1 (.int .i64 0) K 3
  have r2 := World.rowIs_made (w1.alloc (.cells (madeCells #[.int .i64 0] K) 3)) (.int .u64 0) K 38
  have hsz : (w1.alloc (.cells (madeCells #[.int .i64 0] K) 3)).heap.size = w1.heap.size + 1 := by simp
  rw [hsz] at r2
  have t2 := (Turned.refl [] (w1.alloc (.cells (madeCells #[.int .i64 0] K) 3))).alloc (.cells (madeCells #[.int .u64 0] K) 38)
  exact takeMid hm hc hK h hz ho h0 (((Turned.refl [] w1).alloc _).alloc _).drew ((r1.of_block (t2.block _ (by rw [hsz]; omega) (by simp))).of_block rfl) (r2.of_block rfl) (by omega) (by omega) (by omega) e
theorem takeMid2 {w w1 : World} {m : Nat} {c : Int} {K : Nat} (hm : m < n) (hc : 0 ≤ c ∧ c ≤ 5) (hK : slotsC c = (K : Int)) (h : RefAt w1 br bL n cap pg rx) (hz : ResAt w1 w.heap.size zeroS) (ho : OwnR br bL n rx w w1)
    (h0 : ∀ b, RBlk br bL n rx b → b < w.heap.size) :
    TakeMid w (((((w1.setCell ⟨bL, m * 3, none⟩ (.int .i64 c)).setCell ⟨bL, m * 3 + 1, none⟩ (.slice (some ⟨w1.heap.size + 1, 0, none⟩) K K)).setCell ⟨bL, m * 3 + 2, none⟩ (.slice (some ⟨w1.heap.size, 0, none⟩) K K)).alloc (.cells (madeCells #[.int .u64 0] K) 38)).alloc (.cells (madeCells #[.int .i64 0] K) 3)).drew br bL n cap pg rx m c := by
  have hp := slotsC_pos c hc
  have hbL : bL < w1.heap.size := h.lt (.inr (.inl ⟨rfl, by omega⟩))
  have hKe : (newX c (w1.heap.size + 1) w1.heap.size).K = K := by show (slotsC c).toNat = K; omega
  have e := setX_allocs w1 bL m (newX c (w1.heap.size + 1) w1.heap.size) hbL (.cells (madeCells #[.int .u64 0] K) 38) (.cells (madeCells #[.int .i64 0] K) 3)
  rw [hKe, svOf_pos (by omega), svOf_pos (by omega)] at e
  have r1 := World.rowIs_made w1 (.int .u64 0) K 38
  have r2 := World.rowIs_made (w1.alloc (.cells (madeCells #[.int .u64 0] K) 38)) (.int .i64 0) K 3
  have hsz : (w1.alloc (.cells (madeCells #[.int .u64 0] K) 38)).heap.size = w1.heap.size + 1 := by simp
  rw [hsz] at r2
  have t2 := (Turned.refl [] (w1.alloc (.cells (madeCells #[.int .u64 0] K) 38))).alloc (.cells (madeCells #[.int .i64 0] K) 3)
  exact takeMid hm hc hK h hz ho h0 (((Turned.refl [] w1).alloc _).alloc _).drew (r2.of_block rfl) ((r1.of_block (t2.block _ (by rw [hsz]; omega) (by simp))).of_block rfl) (by omega) (by omega) (by omega) e

set_option maxRecDepth 100000 in
set_option maxHeartbeats 8000000 in
theorem rtake (c : Int) (w : World) (h : RefAt w br bL n cap pg rx) :
    Calls Tryd.prog 29 #[.pointer (some ⟨br, 0, none⟩), .int .i64 c] w (rtakePost br bL n cap pg rx c w) := by
  have t0 : Turned [] w (w.alloc (.cells #[.int .i64 0, .int .i64 0, .int .i64 0] 24)) := (Turned.refl [] w).alloc _
  have HR := Lib.hid (h.calm t0)
  have HZ : Hid (ResAt (w.alloc (.cells #[.int .i64 0, .int .i64 0, .int .i64 0] 24)) w.heap.size zeroS) := res_new w zeroS
  have HO : Hid (OwnR br bL n rx w (w.alloc (.cells #[.int .i64 0, .int .i64 0, .int .i64 0] 24))) := ⟨[], t0, by simp⟩
  have HLtB : Hid (∀ b, RBlk br bL n rx b → b < w.heap.size) := fun b hb => h.lt hb
  have HN := Lib.hid h.num
  have hfew := h.few
  have C44 : Hid (∀ ww i k, RefAt ww br bL n cap pg rx → i < n → k < (rx i).K → Calls Tryd.prog 44 #[.pointer (some ⟨br, 0, none⟩), .int .i64 (i : Nat), .int .i64 (k : Nat)] ww fun e w' => e = .returned (.agg #[.int .i64 (i : Nat), .int .i64 (rx i).cls, .int .i64 (k : Nat)]) ∧ RefAt w' br bL n cap pg (rxS rx i k 1) ∧ OwnR br bL n rx ww w') := fun ww i k hh hi hk => rtake1 i k hi hk ww hh
  have C45 := Lib.hid (rslots c)
  clear h t0
  by_cases hc0 : c < 0 ∨ 5 < c
  · have r := HZ.out
    obtain ⟨hr, hrf, hof⟩ := rtake_box r HR.out HO.out (fun b hb => by have := HLtB.out b hb; omega) zeroS
    have HF := Lib.hid (And.intro hrf hof)
    have c0 := r.c0
    have c1 := r.c1
    have c2 := r.c2
    have f0 := r.f 0
    have f1 := r.f 1
    have f2 := r.f 2
    have g0 := hr.c0
    have g1 := hr.c1
    have g2 := hr.c2
    clear r hr hrf hof
    simp only [zeroS] at c0 c1 c2 g0 g1 g2
    have HBad : Hid (c < 0 ∨ 5 < c) := hc0
    by_cases hcc : c < 0
    · clear hc0
      go_enter Tryd.func29, Tryd.ntmps29
      go_wp2
      refine bodyPost_ret (v := .tuple #[.agg #[.int .i64 0, .int .i64 0, .int .i64 0], .int .i64 2]) (by simp [results, Tryd.results29, go_sem, c0, c1, c2]) rfl (rtake_mk (x := zeroS) rfl (.bad HBad.out) HR.out HO.out)
    · have hc5 : 5 < c := by omega
      clear hc0
      go_enter Tryd.func29, Tryd.ntmps29
      go_wp2
      refine bodyPost_ret (v := .tuple #[.agg #[.int .i64 0, .int .i64 0, .int .i64 0], .int .i64 2]) (by simp [results, Tryd.results29, go_sem, c0, c1, c2]) rfl (rtake_mk (x := zeroS) rfl (.bad HBad.out) HR.out HO.out)
  · have hc1 : ¬ c < 0 := by omega
    have hc2 : ¬ 5 < c := by omega
    have HC : Hid (0 ≤ c ∧ c ≤ 5) := ⟨by omega, by omega⟩
    clear hc0
    go_enter Tryd.func29, Tryd.ntmps29
    go_upto_block 4 with fail
    obtain ⟨W1, hW1⟩ : ∃ W1, w.alloc (.cells #[.int .i64 0, .int .i64 0, .int .i64 0] 24) = W1 := ⟨_, rfl⟩
    rw [hW1] at HR HZ HO
    rw [hW1]
    clear hW1
    go_loopw [6] (fun y wr => wr = W1 ∧ ∃ i : Nat, i ≤ n ∧ y = .int .i64 i ∧ Hid (∀ j, j < i → fullX c (rx j))) (fun y _ => n - (intOf y).toNat)
    case atStart => exact ⟨rfl, 0, Nat.zero_le _, rfl, fun j hj => absurd hj (Nat.not_lt_zero j)⟩
    case round =>
      obtain ⟨rfl, i, hi, rfl, hA⟩ := hrel
      by_cases hin : i < n
      · have hx := HR.out.ext1 (by omega)
        go_upto_block 7 with fail
        go_loopw [7] (fun y w2 => w2 = wr ∧ ∃ k : Nat, k ≤ (rx i).K ∧ y = .int .i64 k ∧ Hid ((rx i).cls = c → ∀ j, j < k → (rx i).st j ≠ 0)) (fun y _ => (rx i).K - (intOf y).toNat)
        case atStart => exact ⟨rfl, 0, Nat.zero_le _, rfl, fun _ j hj => absurd hj (Nat.not_lt_zero j)⟩
        case round =>
          obtain ⟨rfl, k, hk, rfl, hB⟩ := hrel
          have hc1 := HR.out.c1 i hin
          have hc0 := HR.out.c0 i hin
          have hK64 := (HN.out i hin).k64
          by_cases hkK : k < (rx i).K
          · rw [svOf_pos (by omega)] at hc1
            have hs := HR.out.s i hin k hkK
            have hg1 : (k : Int) < (rx i).K := by omega
            obtain ⟨K, hKe⟩ : ∃ K, (rx i).K = K := ⟨_, rfl⟩
            have HKe := Lib.hid hKe
            have Hkk := Lib.hid hkK
            rw [hKe] at hc1 hg1 hK64
            obtain ⟨cl, hcl⟩ : ∃ cl, (rx i).cls = cl := ⟨_, rfl⟩
            have HCl := Lib.hid hcl
            rw [hcl] at hc0
            obtain ⟨sv, hsv⟩ : ∃ sv, (rx i).st k = sv := ⟨_, rfl⟩
            have HSv := Lib.hid hsv
            rw [hsv] at hs
            generalize (rx i).sb = sb at *
            clear hKe hkK hcl hsv hk
            by_cases hcc : cl = c
            · by_cases hs0 : sv = 0
              · subst hcc hs0
                go_upto_region 10 with fail
                have C := Lib.hid (C44.out _ i k HR.out hin Hkk.out)
                rw [HCl.out] at C
                go_upto_block 100 with (go_at_call 44; ((with_reducible refine C.out.mono ?_); rintro e ww ⟨rfl, hrf, hof⟩; have HRf := Lib.hid hrf; have HOf := Lib.hid hof; have hz := HZ.out.own hof HLtB.out; have HZz := Lib.hid hz; have c0 := hz.c0; have c1 := hz.c1; have c2 := hz.c2; have f0 := hz.f 0; have f1 := hz.f 1; have f2 := hz.f 2; clear hz hrf hof; simp only [zeroS] at c0 c1 c2))
                obtain ⟨hr, hrf, hof⟩ := rtake_box HZz.out HRf.out (HO.out.tr HOf.out) (fun b hb => by have := HLtB.out b (rxS_blk hb); omega) ⟨i, cl, k⟩
                have g0 := hr.c0
                have g1 := hr.c1
                have g2 := hr.c2
                simp only at g0 g1 g2 hrf hof
                refine bodyPost_ret (v := .tuple #[encS ⟨i, cl, k⟩, .int .i64 0]) (by simp [results, Tryd.results29, go_sem, g0, g1, g2, encS]) rfl (rtake_mk (x := ⟨i, cl, k⟩) rfl (.found i k HC.out hin HCl.out Hkk.out HSv.out hA.out (hB.out HCl.out)) hrf hof)
              · have hsb : (sv == 0) = false := by simpa using hs0
                have hB2 : Hid ((rx i).cls = c → ∀ j, j < k + 1 → (rx i).st j ≠ 0) := fun h j hj => by
                  by_cases hjk : j = k
                  · subst hjk; rw [HSv.out]; exact hs0
                  · exact hB.out h j (by omega)
                subst hcc
                clear hB
                go_wp2
                go_roundw
                case rel => exact ⟨trivial, k + 1, by have := HKe.out; have := Hkk.out; omega, by go_num, hB2.out⟩
                case measure => have := HKe.out; have := Hkk.out; simp [intOf]; omega
            · have hcb : (cl == c) = false := by simpa using hcc
              have hA2 : Hid (∀ j, j < i + 1 → fullX c (rx j)) := fun j hj => by
                by_cases hji : j = i
                · subst hji; intro h; exact absurd (HCl.out.symm.trans h) hcc
                · exact hA.out j (by omega)
              have Hcc := Lib.hid hcc
              clear hA hB hcc
              go_wp2
              go_roundw
              case rel => exact ⟨trivial, i + 1, by omega, by go_num, hA2.out⟩
              case measure => simp [intOf]; omega
          · have hke : k = (rx i).K := by omega
            have hA2 : Hid (∀ j, j < i + 1 → fullX c (rx j)) := fun j hj => by
              by_cases hji : j = i
              · subst hji; intro h k' hk'; exact hB.out h k' (by omega)
              · exact hA.out j (by omega)
            have hlen : ∃ K : Nat, (∃ a, svOf (rx i).sb (rx i).K = .slice a K K) ∧ K = (rx i).K := by
              by_cases h0 : (rx i).K = 0
              · exact ⟨0, ⟨none, by rw [h0]; rfl⟩, h0.symm⟩
              · exact ⟨_, ⟨_, svOf_pos h0⟩, rfl⟩
            obtain ⟨K, ⟨a, ha⟩, hKe⟩ := hlen
            rw [ha] at hc1
            have hkK2 : ¬ k < K := by omega
            clear hA hB hke hKe hkK ha hK64 hk
            go_wp2
            go_roundw
            case rel => exact ⟨trivial, i + 1, by omega, by go_num, hA2.out⟩
            case measure => simp [intOf]; omega
      · have hie : i = n := by omega
        subst hie
        have hx := HR.out.exts
        generalize (if i = 0 then none else some (⟨bL, 0, none⟩ : Addr)) = A at hx
        have HAll := Lib.hid hA.out
        clear hA hin hi
        go_upto_block 12 with fail
        clear hx
        go_loopw [8] (fun y w2 => w2 = wr ∧ ∃ m : Nat, m ≤ i ∧ y = .int .i64 m ∧ Hid (∀ j, j < m → 0 ≤ (rx j).cls)) (fun y _ => i - (intOf y).toNat)
        case atStart => exact ⟨rfl, 0, Nat.zero_le _, rfl, fun j hj => absurd hj (Nat.not_lt_zero j)⟩
        case round =>
          obtain ⟨rfl, m, hm, rfl, hB⟩ := hrel
          by_cases hmi : m < i
          · have hx := HR.out.ext1 (by omega)
            have hc0 := HR.out.c0 m hmi
            obtain ⟨cl, hcl⟩ : ∃ cl, (rx m).cls = cl := ⟨_, rfl⟩
            have HCl := Lib.hid hcl
            rw [hcl] at hc0
            clear hcl
            by_cases hneg : cl < 0
            · obtain ⟨K, hK⟩ : ∃ K : Nat, slotsC c = (K : Int) := ⟨(slotsC c).toNat, by have := slotsC_pos c HC.out; omega⟩
              have hKp := slotsC_pos c HC.out
              have hK64 := slotsC_le c
              rw [hK] at C45 hKp hK64
              have HK := Lib.hid hK
              clear hK
              have hmk67 := fun w => run_make_row' (P := Tryd.prog) 67 3 (.int .i64 0) 8 Tryd.underlying67 info3 rfl .i64 .i64 K (by omega) (by omega) w
              have hmk68 := fun w => run_make_row' (P := Tryd.prog) 68 38 (.int .u64 0) 8 Tryd.underlying68 info38 rfl .i64 .i64 K (by omega) (by omega) w
              have hc1 := HR.out.c1 m hmi
              have hc2 := HR.out.c2 m hmi
              have f0 := (HR.out.row (by omega)).frozen (m * 3)
              have f1 := (HR.out.row (by omega)).frozen (m * 3 + 1)
              have f2 := (HR.out.row (by omega)).frozen (m * 3 + 2)
              go_upto_region 16 with (go_at_call 45; ((with_reducible refine (C45.out _).mono ?_); rintro e ww ⟨rfl, rfl⟩))
              go_cut [] from 87 to 101 (fun wc => TakeMid w wc br bL i cap pg rx m c)
              case first =>
                clear hmk67 hmk68
                have hmk67 : ∀ w, (Instr.makeSlice 67 (.int .i64 (K : Int)) (.int .i64 (K : Int))).run Tryd.prog w = .ok (.slice (some ⟨w.heap.size, 0, none⟩) K K) (w.alloc (.cells (madeCells #[.int .i64 0] K) 3)) := fun w => run_make_row' (P := Tryd.prog) 67 3 (.int .i64 0) 8 Tryd.underlying67 info3 rfl .i64 .i64 K (by omega) (by omega) w
                have hmk68 : ∀ w, (Instr.makeSlice 68 (.int .i64 (K : Int)) (.int .i64 (K : Int))).run Tryd.prog w = .ok (.slice (some ⟨w.heap.size, 0, none⟩) K K) (w.alloc (.cells (madeCells #[.int .u64 0] K) 38)) := fun w => run_make_row' (P := Tryd.prog) 68 38 (.int .u64 0) 8 Tryd.underlying68 info38 rfl .i64 .i64 K (by omega) (by omega) w
                generalize svOf (rx m).sb (rx m).K = u1 at *
                generalize svOf (rx m).eb (rx m).K = u2 at *
                have hbb : br ≠ bL := HR.out.nbr
                have hm1 : m * 3 ≠ m * 3 + 1 := by omega
                have hsz1 := HR.out.lt (.inl rfl)
                have hsz2 := HR.out.lt (.inr (.inl ⟨rfl, by omega⟩))
                have fA0 : ∀ o1 o2, ((wr.alloc o1).drew.alloc o2).drew.cell? ⟨bL, m * 3, none⟩ = some (.int .i64 cl) := fun o1 o2 => ((((Turned.refl [] wr).alloc o1).drew.alloc o2).drew).cell hc0 (by simp)
                have fA1 : ∀ o1 o2, ((wr.alloc o1).drew.alloc o2).drew.cell? ⟨bL, m * 3 + 1, none⟩ = some u1 := fun o1 o2 => ((((Turned.refl [] wr).alloc o1).drew.alloc o2).drew).cell hc1 (by simp)
                have fA2 : ∀ o1 o2, ((wr.alloc o1).drew.alloc o2).drew.cell? ⟨bL, m * 3 + 2, none⟩ = some u2 := fun o1 o2 => ((((Turned.refl [] wr).alloc o1).drew.alloc o2).drew).cell hc2 (by simp)
                have fA3 : ∀ o1 o2 j, ((wr.alloc o1).drew.alloc o2).drew.frozen? ⟨bL, j, none⟩ = false := fun o1 o2 j => (((((Turned.refl [] wr).alloc o1).drew.alloc o2).drew).frozen hsz2 (by simp)).trans ((HR.out.row (by omega)).frozen j)
                go_region_held3 (fun w' => w'.cell? ⟨br, 1, none⟩ = some (.slice (some ⟨bL, 0, none⟩) i cap)) (first | with_reducible exact cell_after hx hbb _ _ _ _ _ | go_keep) (fail)
                all_goals clear C44 C45 HN HAll fA0 fA1 fA2 fA3
                all_goals go_wp2
                all_goals go_meet
                all_goals first
                  | with_reducible exact takeMid1 hmi HC.out HK.out HR.out HZ.out HO.out HLtB.out
                  | with_reducible exact takeMid2 hmi HC.out HK.out HR.out HZ.out HO.out HLtB.out
              case rest =>
                obtain ⟨sb, eb, hsb, heb, hRn, hOn, hZn⟩ := hcut
                have hKn : (updR rx m (newX c sb eb) m).K = K := by rw [updR_same]; show (slotsC c).toNat = K; have := HK.out; omega
                have hCn : (updR rx m (newX c sb eb) m).cls = c := by rw [updR_same]; rfl
                have hC := rtake1 m 0 hmi (by rw [hKn]; omega) wc hRn
                rw [hCn] at hC
                have C : Hid (Calls Tryd.prog 44 #[.pointer (some ⟨br, 0, none⟩), .int .i64 (m : Nat), .int .i64 0] wc fun e w' => e = .returned (.agg #[.int .i64 (m : Nat), .int .i64 c, .int .i64 0]) ∧ RefAt w' br bL i cap pg (rxS (updR rx m (newX c sb eb)) m 0 1) ∧ OwnR br bL i (updR rx m (newX c sb eb)) wc w') := hC
                have HRest : Hid (∀ w', RefAt w' br bL i cap pg (rxS (updR rx m (newX c sb eb)) m 0 1) → OwnR br bL i (updR rx m (newX c sb eb)) wc w' → ResAt w' w.heap.size zeroS ∧ OwnR br bL i rx w w' ∧ ∀ b, RBlk br bL i (rxS (updR rx m (newX c sb eb)) m 0 1) b → b ≠ w.heap.size) := fun w' a b => takeRest HLtB.out hsb heb hOn hZn a b
                have HTk : Hid (TakeIs i rx c w.heap.size ⟨m, c, 0⟩ 0 (rxS (updR rx m (newX c sb eb)) m 0 1)) := .fresh m sb eb HC.out hmi (by have := HCl.out; omega) HAll.out hB.out (by omega) (by omega)
                clear hC hCn hKn hRn hOn hZn hc0 hc1 hc2 f0 f1 f2 hx hmk67 hmk68 hsb heb C44 C45
                go_upto_block 100 with (go_at_call 44; ((with_reducible refine C.out.mono ?_); rintro e ww ⟨rfl, hrf, hof⟩; have HRf := Lib.hid hrf; have HOf := Lib.hid hof; obtain ⟨hz, _, _⟩ := HRest.out _ hrf hof; have HZz := Lib.hid hz; have c0 := hz.c0; have c1 := hz.c1; have c2 := hz.c2; have f0 := hz.f 0; have f1 := hz.f 1; have f2 := hz.f 2; clear hz hrf hof; simp only [zeroS] at c0 c1 c2))
                obtain ⟨hr, hrf, hof⟩ := rtake_box HZz.out HRf.out (HRest.out _ HRf.out HOf.out).2.1 (HRest.out _ HRf.out HOf.out).2.2 ⟨m, c, 0⟩
                have g0 := hr.c0
                have g1 := hr.c1
                have g2 := hr.c2
                simp only at g0 g1 g2 hrf hof
                refine bodyPost_ret (v := .tuple #[encS ⟨m, c, 0⟩, .int .i64 0]) (by simp [results, Tryd.results29, go_sem, g0, g1, g2, encS]) rfl (rtake_mk (x := ⟨m, c, 0⟩) rfl HTk.out hrf hof)
            · have hB2 : Hid (∀ j, j < m + 1 → 0 ≤ (rx j).cls) := fun j hj => by
                by_cases hjk : j = m
                · subst hjk; rw [HCl.out]; omega
                · exact hB.out j (by omega)
              clear hB
              go_wp2
              go_roundw
              case rel => exact ⟨trivial, m + 1, by omega, by go_num, hB2.out⟩
              case measure => simp [intOf]; omega
          · have hme : m = i := by omega
            subst hme
            have hx := HR.out.exts
            generalize (if m = 0 then none else some (⟨bL, 0, none⟩ : Addr)) = A at hx
            have r := HZ.out
            obtain ⟨hr, hrf, hof⟩ := rtake_box r HR.out HO.out (fun b hb => by have := HLtB.out b hb; omega) zeroS
            have HF := Lib.hid (And.intro hrf hof)
            have c0 := r.c0
            have c1 := r.c1
            have c2 := r.c2
            have f0 := r.f 0
            have f1 := r.f 1
            have f2 := r.f 2
            have g0 := hr.c0
            have g1 := hr.c1
            have g2 := hr.c2
            clear r hr hrf hof
            simp only [zeroS] at c0 c1 c2 g0 g1 g2
            go_wp2
            refine bodyPost_ret (v := .tuple #[.agg #[.int .i64 0, .int .i64 0, .int .i64 0], .int .i64 4]) (by simp [results, Tryd.results29, go_sem, g0, g1, g2]) rfl (rtake_mk (x := zeroS) rfl (.full HC.out HAll.out hB.out) HF.out.1 HF.out.2)
end Go.Proofs.YtaikapgpkkpdjaaDoor.L
