/- Radix: forests in memory; small functions. -/
import Derived.Test.YtmpbhoijkcanmaaRA
namespace Go.Proofs.Ytmpbhoijkcanmaa.R
open Go.ChangeShapes Go.WideShapes Go.ChangeAt Go.RowKit Go.Maps Go.Proofs.Ytmpbhoijkcanmaa.G
set_option linter.unusedVariables false
set_option linter.unusedSimpArgs false
set_option linter.unnecessarySimpa false

theorem ret1 {k : IntKind} {a b : Int} (h : a = b) : Ending.returned (.int k a) = .returned (.int k b) := by rw [h]
theorem retB {a b : Bool} (h : a = b) : Ending.returned (.bool a) = .returned (.bool b) := by rw [h]

/-! ### counts -/
def natAt : Option Value → Nat
  | some (.int _ n) => n.toNat
  | _ => 0
def cnt {α : Type} [DecidableEq α] (l : List (α × Value)) (a : α) : Nat := natAt (mget l a)
/-- each entry counts something, and not more than fits -/
def NumL {α : Type} [DecidableEq α] (l : List (α × Value)) : Prop := ∀ a v, mget l a = some v → ∃ n : Nat, 0 < n ∧ n ≤ 2 ^ 50 ∧ v = .int .i64 n
theorem NumL.get {α : Type} [DecidableEq α] {l : List (α × Value)} (h : NumL l) (a : α) : (mget l a).getD (.int .i64 0) = .int .i64 (cnt l a) := by
  unfold cnt
  cases e : mget l a with
  | none => rfl
  | some v =>
    obtain ⟨n, _, _, rfl⟩ := h a v e
    rfl
theorem NumL.le {α : Type} [DecidableEq α] {l : List (α × Value)} (h : NumL l) (a : α) : cnt l a ≤ 2 ^ 50 := by
  unfold cnt
  cases e : mget l a with
  | none => exact Nat.zero_le _
  | some v =>
    obtain ⟨n, _, hn, rfl⟩ := h a v e
    simpa [natAt] using hn
theorem NumL.some_iff {α : Type} [DecidableEq α] {l : List (α × Value)} (h : NumL l) (a : α) : (mget l a).isSome = true ↔ 0 < cnt l a := by
  unfold cnt
  cases e : mget l a with
  | none => simp [natAt]
  | some v =>
    obtain ⟨n, h0, _, rfl⟩ := h a v e
    simp only [Option.isSome_some, natAt, Int.toNat_natCast, true_iff]
    exact h0
theorem cnt_put {α : Type} [DecidableEq α] (l : List (α × Value)) (a : α) (n : Nat) (b : α) : cnt (mput l a (.int .i64 n)) b = if b = a then n else cnt l b := by
  unfold cnt
  rw [look_put]
  by_cases h : b = a
  · rw [if_pos h, if_pos h]; simp [natAt]
  · rw [if_neg h, if_neg h]
theorem cnt_del {α : Type} [DecidableEq α] (l : List (α × Value)) (a b : α) : cnt (mdel l a) b = if b = a then 0 else cnt l b := by
  unfold cnt
  rw [look_del]
  by_cases h : b = a
  · rw [if_pos h, if_pos h]; rfl
  · rw [if_neg h, if_neg h]
theorem NumL.put {α : Type} [DecidableEq α] {l : List (α × Value)} (h : NumL l) (a : α) (n : Nat) (h0 : 0 < n) (h1 : n ≤ 2 ^ 50) : NumL (mput l a (.int .i64 n)) := by
  intro b v hv
  rw [look_put] at hv
  split at hv
  · simp only [Option.some.injEq] at hv; exact ⟨n, h0, h1, hv.symm⟩
  · exact h b v hv
theorem NumL.del {α : Type} [DecidableEq α] {l : List (α × Value)} (h : NumL l) (a : α) : NumL (mdel l a) := by
  intro b v hv
  rw [look_del] at hv
  split at hv
  · cases hv
  · exact h b v hv
theorem NumL.nil {α : Type} [DecidableEq α] : NumL ([] : List (α × Value)) := fun a v h => by cases h

/-! ### forests -/
/-- a forest: its nodes, how often roots are held, in how many nodes slots are, the last number; at which level a node stands (kept along) -/
structure Fo where
  ids : List Nat
  nd : Nat → Node
  held : List (Int × Value)
  sl : List (Slot × Value)
  last : Nat
  lev : Nat → Nat
/-- where it lies -/
structure Pf where
  f : Nat
  m : Nat
  h : Nat
  s : Nat
  blk : Nat → Nat
def ptrV (b : Nat) : Value := .pointer (some ⟨b, 0, none⟩)
def nodesL (p : Pf) (F : Fo) : List (Int × Value) := F.ids.map fun (i : Nat) => ((i : Int), ptrV (p.blk i))
def Pf.own (p : Pf) (F : Fo) (b : Nat) : Prop := b = p.f ∨ b = p.m ∨ b = p.h ∨ b = p.s ∨ ∃ i, i ∈ F.ids ∧ b = p.blk i
structure FoAt (w : World) (p : Pf) (F : Fo) : Prop where
  c0 : w.cell? ⟨p.f, 0, none⟩ = some (.map (some p.m))
  c1 : w.cell? ⟨p.f, 1, none⟩ = some (.map (some p.h))
  c2 : w.cell? ⟨p.f, 2, none⟩ = some (.map (some p.s))
  c3 : w.cell? ⟨p.f, 3, none⟩ = some (.int .i64 F.last)
  fz : ∀ j, w.frozen? ⟨p.f, j, none⟩ = false
  nodes : MapIs Try.prog 3 encI w p.m (nodesL p F)
  held : MapIs Try.prog 3 encI w p.h F.held
  sl : MapIs Try.prog 31 encS w p.s F.sl
  nd : ∀ i, i ∈ F.ids → NodeAt w (p.blk i) (F.nd i)
  nh : NumL F.held
  ns : NumL F.sl
  inj : ∀ i j, i ∈ F.ids → j ∈ F.ids → i ≠ j → p.blk i ≠ p.blk j
  far : ∀ i, i ∈ F.ids → p.blk i ≠ p.f ∧ p.blk i ≠ p.m ∧ p.blk i ≠ p.h ∧ p.blk i ≠ p.s
  dis : (p.f ≠ p.m ∧ p.f ≠ p.h ∧ p.f ≠ p.s) ∧ (p.m ≠ p.h ∧ p.m ≠ p.s) ∧ p.h ≠ p.s
variable {w w' : World} {p : Pf} {F : Fo}
theorem FoAt.lt (h : FoAt w p F) {b : Nat} (hb : p.own F b) : b < w.heap.size := by
  rcases hb with rfl | rfl | rfl | rfl | ⟨i, hi, rfl⟩
  · exact lt_of_cell h.c0
  · exact h.nodes.lt
  · exact h.held.lt
  · exact h.sl.lt
  · exact (h.nd i hi).lt
theorem FoAt.turned (h : FoAt w p F) {S : List Nat} (t : Turned S w w') (hS : ∀ b, p.own F b → b ∉ S) : FoAt w' p F := by
  have hf := hS p.f (.inl rfl)
  have hl := h.lt (.inl rfl)
  exact ⟨t.cell h.c0 hf, t.cell h.c1 hf, t.cell h.c2 hf, t.cell h.c3 hf, fun j => (t.frozen (a := ⟨p.f, j, none⟩) hl hf).trans (h.fz j),
    h.nodes.turned t (hS _ (.inr (.inl rfl))), h.held.turned t (hS _ (.inr (.inr (.inl rfl)))), h.sl.turned t (hS _ (.inr (.inr (.inr (.inl rfl))))),
    fun i hi => (h.nd i hi).turned t (hS _ (.inr (.inr (.inr (.inr ⟨i, hi, rfl⟩))))), h.nh, h.ns, h.inj, h.far, h.dis⟩
theorem FoAt.calm (h : FoAt w p F) (t : Turned [] w w') : FoAt w' p F := h.turned t (fun _ _ => by simp)
theorem find_nodes (p : Pf) (F : Fo) (n : Nat) : mget (nodesL p F) (n : Int) = if n ∈ F.ids then some (ptrV (p.blk n)) else none := by
  unfold nodesL
  induction F.ids with
  | nil => rfl
  | cons i l ih =>
    rw [List.map_cons, look_cons, ih]
    simp only
    by_cases h : i = n
    · subst h; simp
    · rw [if_neg (by omega)]
      have : n ∈ i :: l ↔ n ∈ l := by simp [Ne.symm h]
      by_cases hm : n ∈ l
      · rw [if_pos hm, if_pos (this.2 hm)]
      · rw [if_neg hm, if_neg (fun h => hm (this.1 h))]

/-! ### small functions -/
set_option maxRecDepth 100000 in
theorem none_fn (w : World) (h : FoAt w p F) : Calls Try.prog 37 #[.pointer (some ⟨p.f, 0, none⟩)] w fun e w' => e = .returned (.bool false) ∧ w = w' := by
  have c0 := h.c0
  have qT : ∀ (w : World) (r : Option Nat), (binOp .eql 86 (.map r) (.map none)).run Try.prog w = .ok (.bool r.isNone) w := fun w r => run_eql_map_nil w 86 3 94 r Try.underlying86
  clear h
  go_enter Try.func37, Try.ntmps37
  go_wp2
  go_ret
  exact ⟨rfl, rfl⟩
set_option maxRecDepth 100000 in
theorem none_nil (w : World) : Calls Try.prog 37 #[.pointer none] w fun e w' => e = .returned (.bool true) ∧ w = w' := by
  go_enter Try.func37, Try.ntmps37
  go_wp2
  go_ret
  exact ⟨rfl, rfl⟩
def isB (F : Fo) (r : Int) : Bool := r == 0 || decide (0 < cnt F.held r)
theorem zeroI (w : World) : (zeroValue 3).run Try.prog w = .ok (.int .i64 0) w := by kernel_rfl
theorem FoAt.look_held (h : FoAt w p F) (r : Int) (hr : I64 r) : (Instr.lookup 87 (.map (some p.h)) (.int .i64 r) false).run Try.prog w = .ok (.int .i64 (cnt F.held r)) w := by
  obtain ⟨k, hk⟩ := keyI r hr
  have := h.held.run_look keyedI encI_inj Try.underlying87 (zeroI w) r hk false
  rw [h.nh.get] at this
  exact this
theorem FoAt.look_sl (h : FoAt w p F) (x : Slot) (hx : x.ok) : (Instr.lookup 88 (.map (some p.s)) (encS x) false).run Try.prog w = .ok (.int .i64 (cnt F.sl x)) w := by
  obtain ⟨k, hk⟩ := keyS x hx
  have := h.sl.run_look keyedS encS_inj Try.underlying88 (zeroI w) x hk false
  rw [h.ns.get] at this
  exact this
theorem zeroP (w : World) : (zeroValue 94).run Try.prog w = .ok (.pointer none) w := by kernel_rfl
theorem FoAt.look_node (h : FoAt w p F) (n : Nat) (hn : n < 2 ^ 60) (hi : n ∈ F.ids) : (Instr.lookup 86 (.map (some p.m)) (.int .i64 (n : Nat)) false).run Try.prog w = .ok (ptrV (p.blk n)) w := by
  obtain ⟨k, hk⟩ := keyI n (by unfold I64; omega)
  have := h.nodes.run_look keyedI encI_inj Try.underlying86 (zeroP w) n hk false
  rw [find_nodes, if_pos hi] at this
  exact this
set_option maxRecDepth 100000 in
theorem is_fn (r : Int) (hr : I64 r) (w : World) (h : FoAt w p F) : Calls Try.prog 38 #[.pointer (some ⟨p.f, 0, none⟩), .int .i64 r] w fun e w' => e = .returned (.bool (isB F r)) ∧ w = w' := by
  have c1 := h.c1
  have hL := h.look_held r hr
  clear h
  by_cases h0 : r = 0
  · subst h0
    rw [show isB F 0 = true from rfl]
    go_enter Try.func38, Try.ntmps38
    go_wp2
    go_ret
    exact ⟨rfl, rfl⟩
  · have hb : (r == 0) = false := by simpa using h0
    unfold isB
    rw [hb, Bool.false_or]
    generalize cnt F.held r = n at *
    go_enter Try.func38, Try.ntmps38
    go_wp2
    go_ret
    exact ⟨rfl, rfl⟩
def pageB (n : Int) : Bool := decide (0 ≤ n) && decide (n < 4096)
set_option maxRecDepth 100000 in
theorem page_fn (n : Int) (w : World) : Calls Try.prog 39 #[.int .i64 n] w fun e w' => e = .returned (.bool (pageB n)) ∧ w = w' := by
  unfold pageB
  by_cases h0 : 0 ≤ n
  · have hd : decide (0 ≤ n) = true := by simpa using h0
    rw [hd, Bool.true_and]
    by_cases h1 : n < 4096
    · rw [decide_eq_true h1]
      go_enter Try.func39, Try.ntmps39
      go_wp2
      go_ret
      exact ⟨rfl, rfl⟩
    · rw [decide_eq_false h1]
      go_enter Try.func39, Try.ntmps39
      go_wp2
      go_ret
      exact ⟨rfl, rfl⟩
  · have hd : decide (0 ≤ n) = false := by simpa using h0
    rw [hd, Bool.false_and]
    go_enter Try.func39, Try.ntmps39
    go_wp2
    go_ret
    exact ⟨rfl, rfl⟩
def partN (n lev : Nat) : Nat := n / 16 ^ (2 - lev) % 16
theorem and15_all : ∀ a : Fin 64, ∀ b : Fin 64, bits BinOp.and IntKind.i64 ((64 * a.val + b.val : Nat) : Int) 15 = (((64 * a.val + b.val) % 16 : Nat) : Int) := by decide +kernel
theorem and15 (k : Nat) (h : k < 4096) : bits BinOp.and IntKind.i64 (k : Int) 15 = ((k % 16 : Nat) : Int) := by
  have := and15_all ⟨k / 64, by omega⟩ ⟨k % 64, by omega⟩
  have e : 64 * (k / 64) + k % 64 = k := by omega
  simp only [e] at this
  exact this
theorem part_fn (n lev : Nat) (hn : n < 4096) (hl : lev ≤ 2) (w : World) : Calls Try.prog 44 #[.int .i64 (n : Nat), .int .i64 (lev : Nat)] w fun e w' => e = .returned (.int .i64 (partN n lev)) ∧ w = w' := by
  have : lev = 0 ∨ lev = 1 ∨ lev = 2 := by omega
  rcases this with rfl | rfl | rfl
  · have e : partN n 0 = n / 256 % 16 := rfl
    have HA := Lib.hid (and15 (n / 256) (by omega))
    go_enter Try.func44, Try.ntmps44
    go_wp2
    go_ret
    exact ⟨ret1 (by rw [e]; exact HA.out), rfl⟩
  · have e : partN n 1 = n / 16 % 16 := rfl
    have HA := Lib.hid (and15 (n / 16) (by omega))
    go_enter Try.func44, Try.ntmps44
    go_wp2
    go_ret
    exact ⟨ret1 (by rw [e]; exact HA.out), rfl⟩
  · have e : partN n 2 = n % 16 := by unfold partN; simp
    have HA := Lib.hid (and15 n hn)
    go_enter Try.func44, Try.ntmps44
    go_wp2
    go_ret
    exact ⟨ret1 (by rw [e]; exact HA.out), rfl⟩
theorem partN_lt (n lev : Nat) : partN n lev < 16 := Nat.mod_lt _ (by omega)
end Go.Proofs.Ytmpbhoijkcanmaa.R
