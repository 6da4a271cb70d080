/- Radix: nodes, and what a forest is. -/
import Derived.Test.YtmpbhoijkcanmaaGMap
import Derived.Test.YtmpbhoijkcanmaaGSl
import Derived.Test.YtmpbhoijkcanmaaGRg
import Derived.Test.YtmpbhoijkcanmaaRows
import Derived.WalkKit
import Derived.ProofKit
import Derived.OpenShut
import Derived.Outline
import Derived.IntWalk
import Derived.Deep.QuietTactic
import Derived.BigQuiet
import Derived.LoopTactic
import Derived.Lib.Hide
import Derived.DeepKeys4
import Derived.MapViews
import Derived.ChangeSame
import Derived.WalkSpells
import Derived.Deep.MidRow
import Derived.Deep.OwnRows
namespace Go.Proofs.Ytmpbhoijkcanmaa.R
open Go.ChangeShapes Go.WideShapes Go.ChangeAt Go.RowKit Go.Maps Go.Proofs.Ytmpbhoijkcanmaa.G
set_option linter.unusedVariables false
set_option linter.unusedSimpArgs false
set_option linter.unnecessarySimpa false
theorem laidOut : laidOutB Try.prog = true := by kernel_rfl
theorem lawS : Go.WideMaps.KeyLaw Try.prog 31 := deep_law_laid laidOut (m := 2) (by omega) (of_decide_eq_true (by kernel_rfl)) (by kernel_rfl) (by rw [Try.underlying31])
theorem keyedS : Keyed Try.prog 31 := Keyed.of_law lawS
theorem keyedI : Keyed Try.prog 3 := int_keyed Try.underlying3
/-- a slot -/
structure Slot where
  e : Int
  c : Int
  i : Int
deriving DecidableEq, Inhabited
def encS (x : Slot) : Value := .agg #[.int .i64 x.e, .int .i64 x.c, .int .i64 x.i]
theorem encS_inj (a b : Slot) (h : encS a = encS b) : a = b := by
  cases a; cases b; simp [encS] at h; simp [h]
def encI (n : Int) : Value := .int .i64 n
theorem encI_inj (a b : Int) (h : encI a = encI b) : a = b := by simpa [encI] using h
abbrev I64 (n : Int) : Prop := -9223372036854775808 ≤ n ∧ n ≤ 9223372036854775807
def Slot.ok (x : Slot) : Prop := I64 x.e ∧ I64 x.c ∧ I64 x.i
theorem wf64 {n : Int} (hn : I64 n) : (Lit.int .i64 n).wf = true := by simp [Lit.wf, IntKind.min, IntKind.max, IntKind.signed, IntKind.bits]; omega
theorem keyS (x : Slot) (h : x.ok) : ∃ k, keyOf Try.prog 31 (encS x) = some k := by
  have hf : (encS x).formed Try.prog 31 = true := by
    have : Try.prog.cellsOf 31 = 3 := by kernel_rfl
    simp [encS, Value.formed, Try.underlying31, this]
  have eS : Try.prog.cellsOf 31 = 3 := by kernel_rfl
  have eI : Try.prog.cellsOf 3 = 1 := by kernel_rfl
  have ht : DataW.trod (H := Unit) (fun _ => ()) Try.prog Inhabited.default 0 (fun _ => false) false 2 31 (encS x).cells.toList = some (.agg [.lit (.int .i64 x.e), .lit (.int .i64 x.c), .lit (.int .i64 x.i)], []) := by
    have := trod_struct_mk (enc := fun _ : TypeId × Value => ()) (P := Try.prog) (w := Inhabited.default) (base := 0) (spare := fun _ => false) (held := false) (n := 1) (cs := (encS x).cells.toList)
      (xs := [(.lit (.int .i64 x.e), []), (.lit (.int .i64 x.c), []), (.lit (.int .i64 x.i), [])]) Try.underlying31 (by rw [eS]; rfl) (by
        simp [eI, encS, Value.cells, trod_int_mk 0 Try.underlying3 (wf64 h.1), trod_int_mk 0 Try.underlying3 (wf64 h.2.1), trod_int_mk 0 Try.underlying3 (wf64 h.2.2)])
    simpa using this
  exact ⟨_, (keyOf_asKey (by kernel_rfl) (by rw [Try.underlying31]) hf ⟨2, ht⟩).1⟩
theorem keyI (n : Int) (h : I64 n) : ∃ k, keyOf Try.prog 3 (encI n) = some k := ⟨_, keyOf_int_mk Try.underlying3 (wf64 h)⟩

/-- an entry -/
structure Ent where
  s : Slot
  g : Int
deriving DecidableEq, Inhabited
def zeroE : Ent := ⟨⟨0, 0, 0⟩, 0⟩
def encE (x : Ent) : Value := .agg #[.int .i64 x.s.e, .int .i64 x.s.c, .int .i64 x.s.i, .int .i64 x.g]
def Ent.ok (x : Ent) : Prop := x.s.ok ∧ I64 x.g
/-- a node: its kids, its entries, which of these are there, how often it is referred to -/
structure Node where
  kids : Nat → Nat
  ents : Nat → Ent
  bits : Nat
  refs : Nat
def zeroN : Node := ⟨fun _ => 0, fun _ => zeroE, 0, 0⟩
def entCell (x : Ent) (j : Nat) : Value := if j = 0 then .int .i64 x.s.e else if j = 1 then .int .i64 x.s.c else if j = 2 then .int .i64 x.s.i else .int .i64 x.g
def cellN (x : Node) (j : Nat) : Value := if j < 16 then .int .i64 (x.kids j) else if j < 80 then entCell (x.ents ((j - 16) / 4)) ((j - 16) % 4) else if j = 80 then .int .u16 x.bits else .int .i64 x.refs
def NodeAt (w : World) (b : Nat) (x : Node) : Prop := w.rowIs b 98 82 (cellN x)
theorem NodeAt.kid {w : World} {b : Nat} {x : Node} (h : NodeAt w b x) (j : Nat) (hj : j < 16) : w.cell? ⟨b, j, none⟩ = some (.int .i64 (x.kids j)) := by
  rw [World.rowIs.cell h (by omega)]; unfold cellN; rw [if_pos hj]
theorem NodeAt.bits {w : World} {b : Nat} {x : Node} (h : NodeAt w b x) : w.cell? ⟨b, 80, none⟩ = some (.int .u16 x.bits) := by
  rw [World.rowIs.cell h (by omega)]; rfl
theorem NodeAt.refs {w : World} {b : Nat} {x : Node} (h : NodeAt w b x) : w.cell? ⟨b, 81, none⟩ = some (.int .i64 x.refs) := by
  rw [World.rowIs.cell h (by omega)]; rfl
theorem NodeAt.ent {w : World} {b : Nat} {x : Node} (h : NodeAt w b x) (i j : Nat) (hi : i < 16) (hj : j < 4) : w.cell? ⟨b, 16 + i * 4 + j, none⟩ = some (entCell (x.ents i) j) := by
  rw [World.rowIs.cell h (by omega)]; unfold cellN
  rw [if_neg (by omega), if_pos (by omega), show (16 + i * 4 + j - 16) / 4 = i by omega, show (16 + i * 4 + j - 16) % 4 = j by omega]
theorem NodeAt.frozen {w : World} {b : Nat} {x : Node} (h : NodeAt w b x) (j : Nat) : w.frozen? ⟨b, j, none⟩ = false := World.rowIs.frozen h j
theorem NodeAt.lt {w : World} {b : Nat} {x : Node} (h : NodeAt w b x) : b < w.heap.size := World.rowIs.lt h
theorem NodeAt.turned {w w' : World} {b : Nat} {x : Node} (h : NodeAt w b x) {S : List Nat} (t : Turned S w w') (h0 : b ∉ S) : NodeAt w' b x := World.rowIs.of_block h (t.block b h.lt h0)
end Go.Proofs.Ytmpbhoijkcanmaa.R
