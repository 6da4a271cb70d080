/- Slots: keys, and functions of classes. -/
import Derived.Test.YtaikapgpkkpdjaaDoorGMap
import Derived.Test.YtaikapgpkkpdjaaDoorGSl
import Derived.Test.YtaikapgpkkpdjaaDoorGRg
import Derived.Test.YtaikapgpkkpdjaaDoorRows
import Derived.WalkKit
import Derived.ProofKit
import Derived.OpenShut
import Derived.Outline
import Derived.IntWalk
import Derived.Deep.QuietTactic
import Derived.BigQuiet
import Derived.LoopTactic
import Derived.Lib.Hide
import Derived.DeepKeys4
import Derived.MapViews
import Derived.ChangeSame
namespace Go.Proofs.YtaikapgpkkpdjaaDoor.L
open Go.ChangeShapes Go.WideShapes Go.ChangeAt Go.RowKit Go.Maps Go.Proofs.YtaikapgpkkpdjaaDoor.G
set_option linter.unusedVariables false
set_option linter.unusedSimpArgs false
theorem laidOut : laidOutB Tryd.prog = true := by kernel_rfl
theorem law24 : Go.WideMaps.KeyLaw Tryd.prog 24 := deep_law_laid laidOut (m := 2) (by omega) (of_decide_eq_true (by kernel_rfl)) (by kernel_rfl) (by rw [Tryd.underlying24])
theorem keyed24 : Keyed Tryd.prog 24 := Keyed.of_law law24
/-- a slot -/
structure Slot where
  e : Int
  c : Int
  i : Int
deriving DecidableEq, Inhabited
def encS (x : Slot) : Value := .agg #[.int .i64 x.e, .int .i64 x.c, .int .i64 x.i]
theorem encS_inj (a b : Slot) (h : encS a = encS b) : a = b := by
  cases a; cases b; simp [encS] at h; simp [h]
abbrev I64 (n : Int) : Prop := -9223372036854775808 ≤ n ∧ n ≤ 9223372036854775807
theorem key24 (x : Slot) (h : I64 x.e ∧ I64 x.c ∧ I64 x.i) : ∃ k, keyOf Tryd.prog 24 (encS x) = some k := by
  have hf : (encS x).formed Tryd.prog 24 = true := by
    have : Tryd.prog.cellsOf 24 = 3 := by kernel_rfl
    simp [encS, Value.formed, Tryd.underlying24, this]
  have e24 : Tryd.prog.cellsOf 24 = 3 := by kernel_rfl
  have e3 : Tryd.prog.cellsOf 3 = 1 := by kernel_rfl
  have wf : ∀ n, I64 n → (Lit.int .i64 n).wf = true := fun n hn => by simp [Lit.wf, IntKind.min, IntKind.max, IntKind.signed, IntKind.bits]; omega
  have ht : DataW.trod (H := Unit) (fun _ => ()) Tryd.prog Inhabited.default 0 (fun _ => false) false 2 24 (encS x).cells.toList = some (.agg [.lit (.int .i64 x.e), .lit (.int .i64 x.c), .lit (.int .i64 x.i)], []) := by
    have := trod_struct_mk (enc := fun _ : TypeId × Value => ()) (P := Tryd.prog) (w := Inhabited.default) (base := 0) (spare := fun _ => false) (held := false) (n := 1) (cs := (encS x).cells.toList)
      (xs := [(.lit (.int .i64 x.e), []), (.lit (.int .i64 x.c), []), (.lit (.int .i64 x.i), [])]) Tryd.underlying24 (by rw [e24]; rfl) (by
        simp [e3, encS, Value.cells, trod_int_mk 0 Tryd.underlying3 (wf _ h.1), trod_int_mk 0 Tryd.underlying3 (wf _ h.2.1), trod_int_mk 0 Tryd.underlying3 (wf _ h.2.2)])
    simpa using this
  exact ⟨_, (keyOf_asKey (by kernel_rfl) (by rw [Tryd.underlying24]) hf ⟨2, ht⟩).1⟩
end Go.Proofs.YtaikapgpkkpdjaaDoor.L
