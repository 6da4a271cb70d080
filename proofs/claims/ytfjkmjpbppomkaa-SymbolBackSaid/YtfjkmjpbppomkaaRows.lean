/-
  No cell of these rows narrows 'for every input' (looked for: loops, veiled, ifaces, maps, wideKeys, modest, calm, conditions, laid).
  DERIVED. THE GIVEN ROWS OF THIS SEAT. 3 by the template 'for every input the law returns true; each argument reads behind the call as it read before'; 0 by the template 'total and deterministic' (their statements: YtfjkmjpbppomkaaTotals.lean).
  GIVEN WITH THE SEED: the statements are not yours to turn. If you find one false, say at which input.
  Laid BY PROGRAM, IN A SANDBOX (cutbox-rows.mjs): the forced cells as the released guide's own fill.sh prints them over the translation d624c70d51a60952… (all of the seat's roots in one cut). By AI agents, Wed Nov 11 2026. No macro, syntax, notation, axiom, sorry.
-/
import Derived.Test.YtfjkmjpbppomkaaChecked
import GoSem.Claim
import GoSem.ClaimJoined
import GoSem.ClaimMapViews
import Derived.JoinedTies
import Derived.KernelRfl
namespace Go.Proofs.Ytfjkmjpbppomkaa
/- THE CELL 'sum', in the pinned program and in every row, IS THE sha256 OF THE DUMP (.gsa) THAT YtfjkmjpbppomkaaProg.lean LOADS. Nothing in Lean hashes anything: it is a label: what it is worth is what the hold of that sum in a sandbox is worth. -/
noncomputable def Try.pinned : Pinned := { name := "ytfjkmjpbppomkaa", sum := "d624c70d51a609529859f3b56163c999d5442b86cf58cbafbb1190fe347e0af3", checked := Try.checked }
namespace Rows
def none {H : Type} : Left H := { results := [], args := [] }

/-- 'platenlaw11.SymbolTells': WHATEVER THE INPUT: true; the input reads as it did. -/
def symbolTellsSpec : ChangeSpec := { name := "symbolTells", fn := fun _ => fun
  | [d1, d2, d3] => { results := [.lit (.bool true)], args := [d1, d2, d3] }
  | _ => none }
def symbolTellsRow : OpenClaim := { program := "ytfjkmjpbppomkaa", sum := "d624c70d51a609529859f3b56163c999d5442b86cf58cbafbb1190fe347e0af3", func := "platen/platenlaw11.SymbolTells", spec := "symbolTells", unfollowed := true, recurses := true, apart := false }
def SymbolTellsSaid : Prop := symbolTellsRow.holds Try.pinned (OpenSpec.ofChange symbolTellsSpec)

/-- ITS FALSE NEIGHBOUR: 'it returns false'. Refute it at one input. -/
def symbolTellsWrong : ChangeSpec := { name := "symbolTells", fn := fun _ => fun
  | [d1, d2, d3] => { results := [.lit (.bool false)], args := [d1, d2, d3] }
  | _ => none }
def SymbolTellsWrongFalsely : Prop := symbolTellsRow.holds Try.pinned (OpenSpec.ofChange symbolTellsWrong)

/-- 'platenlaw11.SymbolBack': WHATEVER THE INPUT: true; the input reads as it did. -/
def symbolBackSpec : ChangeSpec := { name := "symbolBack", fn := fun _ => fun
  | [d1, d2, d3] => { results := [.lit (.bool true)], args := [d1, d2, d3] }
  | _ => none }
def symbolBackRow : OpenClaim := { program := "ytfjkmjpbppomkaa", sum := "d624c70d51a609529859f3b56163c999d5442b86cf58cbafbb1190fe347e0af3", func := "platen/platenlaw11.SymbolBack", spec := "symbolBack", unfollowed := true, recurses := true, apart := false }
def SymbolBackSaid : Prop := symbolBackRow.holds Try.pinned (OpenSpec.ofChange symbolBackSpec)

/-- ITS FALSE NEIGHBOUR: 'it returns false'. Refute it at one input. -/
def symbolBackWrong : ChangeSpec := { name := "symbolBack", fn := fun _ => fun
  | [d1, d2, d3] => { results := [.lit (.bool false)], args := [d1, d2, d3] }
  | _ => none }
def SymbolBackWrongFalsely : Prop := symbolBackRow.holds Try.pinned (OpenSpec.ofChange symbolBackWrong)

/-- 'platenlaw11.SymbolAll': WHATEVER THE INPUT: true; the input reads as it did. -/
def symbolAllSpec : ChangeSpec := { name := "symbolAll", fn := fun _ => fun
  | [d] => { results := [.lit (.bool true)], args := [d] }
  | _ => none }
def symbolAllRow : OpenClaim := { program := "ytfjkmjpbppomkaa", sum := "d624c70d51a609529859f3b56163c999d5442b86cf58cbafbb1190fe347e0af3", func := "platen/platenlaw11.SymbolAll", spec := "symbolAll", unfollowed := true, recurses := true, apart := false }
def SymbolAllSaid : Prop := symbolAllRow.holds Try.pinned (OpenSpec.ofChange symbolAllSpec)

/-- ITS FALSE NEIGHBOUR: 'it returns false'. Refute it at one input. -/
def symbolAllWrong : ChangeSpec := { name := "symbolAll", fn := fun _ => fun
  | [d] => { results := [.lit (.bool false)], args := [d] }
  | _ => none }
def SymbolAllWrongFalsely : Prop := symbolAllRow.holds Try.pinned (OpenSpec.ofChange symbolAllWrong)

/- THE SECOND FORM. 'bulk': how many values and letters a reading holds, each counted each time it is reached (what is shared counts as often as it is met; a slice's spare places count too). A statement '..UptoSaid' is the law's where the arguments, and the package variables that the reading takes, are together of bulk at most 1048576: NARROWER than '..Said'. Prove '..Said' where nothing that the law and all that it calls make is longer than what came in: it says more and counts as full. Else prove '..UptoSaid'. A law counts once. -/
mutual
def uptoBulk {H : Type} : DataW H → Nat
  | .lit (.string bytes) => bytes.length + 1
  | .lit _ => 1
  | .nil => 1
  | .ptr d => uptoBulk d + 1
  | .slice elems spare => uptoBulkAll elems + uptoBulkAll spare + 1
  | .agg parts => uptoBulkAll parts + 1
  | .iface _ d => uptoBulk d + 1
  | .map entries => uptoBulkEntries entries + 1
  | .held _ => 1
def uptoBulkAll {H : Type} : List (DataW H) → Nat
  | [] => 0
  | d :: r => uptoBulk d + uptoBulkAll r
def uptoBulkEntries {H : Type} : List (Lit × DataW H) → Nat
  | [] => 0
  | x :: r => uptoBulkEntry x + uptoBulkEntries r
def uptoBulkEntry {H : Type} : Lit × DataW H → Nat
  | (.string bytes, d) => bytes.length + uptoBulk d + 1
  | (_, d) => uptoBulk d + 1
 end
def uptoSmall : (H : Type) → List (DataW H) → Bool := fun _ ds => decide (uptoBulkAll ds ≤ 1048576)
def OpenSpec.upto (s : _root_.Go.ChangeSpec) : _root_.Go.OpenSpec := { _root_.Go.OpenSpec.ofChange s with cond := some uptoSmall }

/-- 'platenlaw11.SymbolTells', WHERE WHAT IT READS IS OF BULK AT MOST 1048576: true; the input reads as it did. -/
def symbolTellsUptoRow : OpenClaim := { program := "ytfjkmjpbppomkaa", sum := "d624c70d51a609529859f3b56163c999d5442b86cf58cbafbb1190fe347e0af3", func := "platen/platenlaw11.SymbolTells", spec := "symbolTells", unfollowed := true, recurses := true, apart := false, narrowed := true }
def SymbolTellsUptoSaid : Prop := symbolTellsUptoRow.holds Try.pinned (OpenSpec.upto symbolTellsSpec)

/-- 'platenlaw11.SymbolBack', WHERE WHAT IT READS IS OF BULK AT MOST 1048576: true; the input reads as it did. -/
def symbolBackUptoRow : OpenClaim := { program := "ytfjkmjpbppomkaa", sum := "d624c70d51a609529859f3b56163c999d5442b86cf58cbafbb1190fe347e0af3", func := "platen/platenlaw11.SymbolBack", spec := "symbolBack", unfollowed := true, recurses := true, apart := false, narrowed := true }
def SymbolBackUptoSaid : Prop := symbolBackUptoRow.holds Try.pinned (OpenSpec.upto symbolBackSpec)

/-- 'platenlaw11.SymbolAll', WHERE WHAT IT READS IS OF BULK AT MOST 1048576: true; the input reads as it did. -/
def symbolAllUptoRow : OpenClaim := { program := "ytfjkmjpbppomkaa", sum := "d624c70d51a609529859f3b56163c999d5442b86cf58cbafbb1190fe347e0af3", func := "platen/platenlaw11.SymbolAll", spec := "symbolAll", unfollowed := true, recurses := true, apart := false, narrowed := true }
def SymbolAllUptoSaid : Prop := symbolAllUptoRow.holds Try.pinned (OpenSpec.upto symbolAllSpec)

end Rows
end Go.Proofs.Ytfjkmjpbppomkaa
