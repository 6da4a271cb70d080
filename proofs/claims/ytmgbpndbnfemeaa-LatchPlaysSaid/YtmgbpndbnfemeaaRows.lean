/-
  No cell of these rows narrows 'for every input' (looked for: loops, veiled, ifaces, maps, wideKeys, modest, calm, conditions, laid).
  DERIVED. THE GIVEN ROWS OF THIS SEAT. 3 by the template 'for every input the law returns true; each argument reads behind the call as it read before'; 0 by the template 'total and deterministic' (their statements: YtmgbpndbnfemeaaTotals.lean).
  GIVEN WITH THE SEED: the statements are not yours to turn. If you find one false, say at which input.
  Laid BY PROGRAM, IN A SANDBOX (cutbox-rows.mjs): the forced cells as the released guide's own fill.sh prints them over the translation 15e1bf130c9ec27f… (all of the seat's roots in one cut). By AI agents, Wed Nov 11 2026. No macro, syntax, notation, axiom, sorry.
-/
import Derived.Test.YtmgbpndbnfemeaaChecked
import GoSem.Claim
import GoSem.ClaimJoined
import GoSem.ClaimMapViews
import Derived.JoinedTies
import Derived.KernelRfl
namespace Go.Proofs.Ytmgbpndbnfemeaa
/- THE CELL 'sum', in the pinned program and in every row, IS THE sha256 OF THE DUMP (.gsa) THAT YtmgbpndbnfemeaaProg.lean LOADS. Nothing in Lean hashes anything: it is a label: what it is worth is what the hold of that sum in a sandbox is worth. -/
noncomputable def Try.pinned : Pinned := { name := "ytmgbpndbnfemeaa", sum := "15e1bf130c9ec27fb941c8d30cb23d958344b27884756bca73a3bb9426b95c06", checked := Try.checked }
namespace Rows
def none {H : Type} : Left H := { results := [], args := [] }

/-- 'platenlaw25.LatchPlays': WHATEVER THE INPUT: true; the input reads as it did. -/
def latchPlaysSpec : ChangeSpec := { name := "latchPlays", fn := fun _ => fun
  | [d1, d2, d3, d4] => { results := [.lit (.bool true)], args := [d1, d2, d3, d4] }
  | _ => none }
def latchPlaysRow : OpenClaim := { program := "ytmgbpndbnfemeaa", sum := "15e1bf130c9ec27fb941c8d30cb23d958344b27884756bca73a3bb9426b95c06", func := "platen/platenlaw25.LatchPlays", spec := "latchPlays", unfollowed := true, recurses := true, apart := false }
def LatchPlaysSaid : Prop := latchPlaysRow.holds Try.pinned (OpenSpec.ofChange latchPlaysSpec)

/-- ITS FALSE NEIGHBOUR: 'it returns false'. Refute it at one input. -/
def latchPlaysWrong : ChangeSpec := { name := "latchPlays", fn := fun _ => fun
  | [d1, d2, d3, d4] => { results := [.lit (.bool false)], args := [d1, d2, d3, d4] }
  | _ => none }
def LatchPlaysWrongFalsely : Prop := latchPlaysRow.holds Try.pinned (OpenSpec.ofChange latchPlaysWrong)

/-- 'platenlaw25.LatchOne': WHATEVER THE INPUT: true; the input reads as it did. -/
def latchOneSpec : ChangeSpec := { name := "latchOne", fn := fun _ => fun
  | [d] => { results := [.lit (.bool true)], args := [d] }
  | _ => none }
def latchOneRow : OpenClaim := { program := "ytmgbpndbnfemeaa", sum := "15e1bf130c9ec27fb941c8d30cb23d958344b27884756bca73a3bb9426b95c06", func := "platen/platenlaw25.LatchOne", spec := "latchOne", unfollowed := true, recurses := true, apart := false }
def LatchOneSaid : Prop := latchOneRow.holds Try.pinned (OpenSpec.ofChange latchOneSpec)

/-- ITS FALSE NEIGHBOUR: 'it returns false'. Refute it at one input. -/
def latchOneWrong : ChangeSpec := { name := "latchOne", fn := fun _ => fun
  | [d] => { results := [.lit (.bool false)], args := [d] }
  | _ => none }
def LatchOneWrongFalsely : Prop := latchOneRow.holds Try.pinned (OpenSpec.ofChange latchOneWrong)

/-- 'platenlaw25.LatchNone': WHATEVER THE INPUT: true; the input reads as it did. -/
def latchNoneSpec : ChangeSpec := { name := "latchNone", fn := fun _ => fun
  | [d1, d2] => { results := [.lit (.bool true)], args := [d1, d2] }
  | _ => none }
def latchNoneRow : OpenClaim := { program := "ytmgbpndbnfemeaa", sum := "15e1bf130c9ec27fb941c8d30cb23d958344b27884756bca73a3bb9426b95c06", func := "platen/platenlaw25.LatchNone", spec := "latchNone", unfollowed := true, recurses := true, apart := false }
def LatchNoneSaid : Prop := latchNoneRow.holds Try.pinned (OpenSpec.ofChange latchNoneSpec)

/-- ITS FALSE NEIGHBOUR: 'it returns false'. Refute it at one input. -/
def latchNoneWrong : ChangeSpec := { name := "latchNone", fn := fun _ => fun
  | [d1, d2] => { results := [.lit (.bool false)], args := [d1, d2] }
  | _ => none }
def LatchNoneWrongFalsely : Prop := latchNoneRow.holds Try.pinned (OpenSpec.ofChange latchNoneWrong)

/- THE SECOND FORM. 'bulk': how many values and letters a reading holds, each counted each time it is reached (what is shared counts as often as it is met; a slice's spare places count too). A statement '..UptoSaid' is the law's where the arguments, and the package variables that the reading takes, are together of bulk at most 1048576: NARROWER than '..Said'. Prove '..Said' where nothing that the law and all that it calls make is longer than what came in: it says more and counts as full. Else prove '..UptoSaid'. A law counts once. -/
mutual
def uptoBulk {H : Type} : DataW H → Nat
  | .lit (.string bytes) => bytes.length + 1
  | .lit _ => 1
  | .nil => 1
  | .ptr d => uptoBulk d + 1
  | .slice elems spare => uptoBulkAll elems + uptoBulkAll spare + 1
  | .agg parts => uptoBulkAll parts + 1
  | .iface _ d => uptoBulk d + 1
  | .map entries => uptoBulkEntries entries + 1
  | .held _ => 1
def uptoBulkAll {H : Type} : List (DataW H) → Nat
  | [] => 0
  | d :: r => uptoBulk d + uptoBulkAll r
def uptoBulkEntries {H : Type} : List (Lit × DataW H) → Nat
  | [] => 0
  | x :: r => uptoBulkEntry x + uptoBulkEntries r
def uptoBulkEntry {H : Type} : Lit × DataW H → Nat
  | (.string bytes, d) => bytes.length + uptoBulk d + 1
  | (_, d) => uptoBulk d + 1
 end
def uptoSmall : (H : Type) → List (DataW H) → Bool := fun _ ds => decide (uptoBulkAll ds ≤ 1048576)
def OpenSpec.upto (s : _root_.Go.ChangeSpec) : _root_.Go.OpenSpec := { _root_.Go.OpenSpec.ofChange s with cond := some uptoSmall }

/-- 'platenlaw25.LatchPlays', WHERE WHAT IT READS IS OF BULK AT MOST 1048576: true; the input reads as it did. -/
def latchPlaysUptoRow : OpenClaim := { program := "ytmgbpndbnfemeaa", sum := "15e1bf130c9ec27fb941c8d30cb23d958344b27884756bca73a3bb9426b95c06", func := "platen/platenlaw25.LatchPlays", spec := "latchPlays", unfollowed := true, recurses := true, apart := false, narrowed := true }
def LatchPlaysUptoSaid : Prop := latchPlaysUptoRow.holds Try.pinned (OpenSpec.upto latchPlaysSpec)

/-- 'platenlaw25.LatchOne', WHERE WHAT IT READS IS OF BULK AT MOST 1048576: true; the input reads as it did. -/
def latchOneUptoRow : OpenClaim := { program := "ytmgbpndbnfemeaa", sum := "15e1bf130c9ec27fb941c8d30cb23d958344b27884756bca73a3bb9426b95c06", func := "platen/platenlaw25.LatchOne", spec := "latchOne", unfollowed := true, recurses := true, apart := false, narrowed := true }
def LatchOneUptoSaid : Prop := latchOneUptoRow.holds Try.pinned (OpenSpec.upto latchOneSpec)

/-- 'platenlaw25.LatchNone', WHERE WHAT IT READS IS OF BULK AT MOST 1048576: true; the input reads as it did. -/
def latchNoneUptoRow : OpenClaim := { program := "ytmgbpndbnfemeaa", sum := "15e1bf130c9ec27fb941c8d30cb23d958344b27884756bca73a3bb9426b95c06", func := "platen/platenlaw25.LatchNone", spec := "latchNone", unfollowed := true, recurses := true, apart := false, narrowed := true }
def LatchNoneUptoSaid : Prop := latchNoneUptoRow.holds Try.pinned (OpenSpec.upto latchNoneSpec)

end Rows
end Go.Proofs.Ytmgbpndbnfemeaa
