/-
  No cell of these rows narrows 'for every input' (looked for: loops, veiled, ifaces, maps, wideKeys, modest, calm, conditions, laid).
  DERIVED. THE GIVEN ROWS OF THIS SEAT. 7 by the template 'for every input the law returns true; each argument reads behind the call as it read before'; 0 by the template 'total and deterministic' (their statements: YtmpbhoijkcanmaaTotals.lean).
  GIVEN WITH THE SEED: the statements are not yours to turn. If you find one false, say at which input.
  Laid BY PROGRAM, IN A SANDBOX (cutbox-rows.mjs): the forced cells as the released guide's own fill.sh prints them over the translation b22dcfb11ada334d… (all of the seat's roots in one cut). By AI agents, Wed Nov 11 2026. No macro, syntax, notation, axiom, sorry.
-/
import Derived.Test.YtmpbhoijkcanmaaChecked
import GoSem.Claim
import GoSem.ClaimJoined
import GoSem.ClaimMapViews
import Derived.JoinedTies
import Derived.KernelRfl
namespace Go.Proofs.Ytmpbhoijkcanmaa
/- THE CELL 'sum', in the pinned program and in every row, IS THE sha256 OF THE DUMP (.gsa) THAT YtmpbhoijkcanmaaProg.lean LOADS. Nothing in Lean hashes anything: it is a label: what it is worth is what the hold of that sum in a sandbox is worth. -/
noncomputable def Try.pinned : Pinned := { name := "ytmpbhoijkcanmaa", sum := "b22dcfb11ada334d6d3f4f3beba963ccc8a3f0adc301cd32b527787a791c1651", checked := Try.checked }
namespace Rows
def none {H : Type} : Left H := { results := [], args := [] }

/-- 'platenlaw23.RadixOrder': WHATEVER THE INPUT: true; the input reads as it did. -/
def radixOrderSpec : ChangeSpec := { name := "radixOrder", fn := fun _ => fun
  | [d1, d2] => { results := [.lit (.bool true)], args := [d1, d2] }
  | _ => none }
def radixOrderRow : OpenClaim := { program := "ytmpbhoijkcanmaa", sum := "b22dcfb11ada334d6d3f4f3beba963ccc8a3f0adc301cd32b527787a791c1651", func := "platen/platenlaw23.RadixOrder", spec := "radixOrder", unfollowed := true, recurses := true, plainKeys := false, apart := false }
def RadixOrderSaid : Prop := radixOrderRow.holds Try.pinned (OpenSpec.ofChange radixOrderSpec)

/-- ITS FALSE NEIGHBOUR: 'it returns false'. Refute it at one input. -/
def radixOrderWrong : ChangeSpec := { name := "radixOrder", fn := fun _ => fun
  | [d1, d2] => { results := [.lit (.bool false)], args := [d1, d2] }
  | _ => none }
def RadixOrderWrongFalsely : Prop := radixOrderRow.holds Try.pinned (OpenSpec.ofChange radixOrderWrong)

/-- 'platenlaw23.RadixStays': WHATEVER THE INPUT: true; the input reads as it did. -/
def radixStaysSpec : ChangeSpec := { name := "radixStays", fn := fun _ => fun
  | [d1, d2] => { results := [.lit (.bool true)], args := [d1, d2] }
  | _ => none }
def radixStaysRow : OpenClaim := { program := "ytmpbhoijkcanmaa", sum := "b22dcfb11ada334d6d3f4f3beba963ccc8a3f0adc301cd32b527787a791c1651", func := "platen/platenlaw23.RadixStays", spec := "radixStays", unfollowed := true, recurses := true, plainKeys := false, apart := false }
def RadixStaysSaid : Prop := radixStaysRow.holds Try.pinned (OpenSpec.ofChange radixStaysSpec)

/-- ITS FALSE NEIGHBOUR: 'it returns false'. Refute it at one input. -/
def radixStaysWrong : ChangeSpec := { name := "radixStays", fn := fun _ => fun
  | [d1, d2] => { results := [.lit (.bool false)], args := [d1, d2] }
  | _ => none }
def RadixStaysWrongFalsely : Prop := radixStaysRow.holds Try.pinned (OpenSpec.ofChange radixStaysWrong)

/-- 'platenlaw23.RadixBack': WHATEVER THE INPUT: true; the input reads as it did. -/
def radixBackSpec : ChangeSpec := { name := "radixBack", fn := fun _ => fun
  | [d1, d2] => { results := [.lit (.bool true)], args := [d1, d2] }
  | _ => none }
def radixBackRow : OpenClaim := { program := "ytmpbhoijkcanmaa", sum := "b22dcfb11ada334d6d3f4f3beba963ccc8a3f0adc301cd32b527787a791c1651", func := "platen/platenlaw23.RadixBack", spec := "radixBack", unfollowed := true, recurses := true, plainKeys := false, apart := false }
def RadixBackSaid : Prop := radixBackRow.holds Try.pinned (OpenSpec.ofChange radixBackSpec)

/-- ITS FALSE NEIGHBOUR: 'it returns false'. Refute it at one input. -/
def radixBackWrong : ChangeSpec := { name := "radixBack", fn := fun _ => fun
  | [d1, d2] => { results := [.lit (.bool false)], args := [d1, d2] }
  | _ => none }
def RadixBackWrongFalsely : Prop := radixBackRow.holds Try.pinned (OpenSpec.ofChange radixBackWrong)

/-- 'platenlaw23.RadixNil': WHATEVER THE INPUT: true; the input reads as it did. -/
def radixNilSpec : ChangeSpec := { name := "radixNil", fn := fun _ => fun
  | [d1, d2, d3] => { results := [.lit (.bool true)], args := [d1, d2, d3] }
  | _ => none }
def radixNilRow : OpenClaim := { program := "ytmpbhoijkcanmaa", sum := "b22dcfb11ada334d6d3f4f3beba963ccc8a3f0adc301cd32b527787a791c1651", func := "platen/platenlaw23.RadixNil", spec := "radixNil", unfollowed := true, recurses := true, plainKeys := false, apart := false }
def RadixNilSaid : Prop := radixNilRow.holds Try.pinned (OpenSpec.ofChange radixNilSpec)

/-- ITS FALSE NEIGHBOUR: 'it returns false'. Refute it at one input. -/
def radixNilWrong : ChangeSpec := { name := "radixNil", fn := fun _ => fun
  | [d1, d2, d3] => { results := [.lit (.bool false)], args := [d1, d2, d3] }
  | _ => none }
def RadixNilWrongFalsely : Prop := radixNilRow.holds Try.pinned (OpenSpec.ofChange radixNilWrong)

/-- 'platenlaw24.RootsStay': WHATEVER THE INPUT: true; the input reads as it did. -/
def rootsStaySpec : ChangeSpec := { name := "rootsStay", fn := fun _ => fun
  | [d1, d2] => { results := [.lit (.bool true)], args := [d1, d2] }
  | _ => none }
def rootsStayRow : OpenClaim := { program := "ytmpbhoijkcanmaa", sum := "b22dcfb11ada334d6d3f4f3beba963ccc8a3f0adc301cd32b527787a791c1651", func := "platen/platenlaw24.RootsStay", spec := "rootsStay", unfollowed := true, recurses := true, plainKeys := false, apart := false }
def RootsStaySaid : Prop := rootsStayRow.holds Try.pinned (OpenSpec.ofChange rootsStaySpec)

/-- ITS FALSE NEIGHBOUR: 'it returns false'. Refute it at one input. -/
def rootsStayWrong : ChangeSpec := { name := "rootsStay", fn := fun _ => fun
  | [d1, d2] => { results := [.lit (.bool false)], args := [d1, d2] }
  | _ => none }
def RootsStayWrongFalsely : Prop := rootsStayRow.holds Try.pinned (OpenSpec.ofChange rootsStayWrong)

/-- 'platenlaw24.RootsNil': WHATEVER THE INPUT: true; the input reads as it did. -/
def rootsNilSpec : ChangeSpec := { name := "rootsNil", fn := fun _ => fun
  | [d1, d2] => { results := [.lit (.bool true)], args := [d1, d2] }
  | _ => none }
def rootsNilRow : OpenClaim := { program := "ytmpbhoijkcanmaa", sum := "b22dcfb11ada334d6d3f4f3beba963ccc8a3f0adc301cd32b527787a791c1651", func := "platen/platenlaw24.RootsNil", spec := "rootsNil", unfollowed := true, recurses := true, plainKeys := false, apart := false }
def RootsNilSaid : Prop := rootsNilRow.holds Try.pinned (OpenSpec.ofChange rootsNilSpec)

/-- ITS FALSE NEIGHBOUR: 'it returns false'. Refute it at one input. -/
def rootsNilWrong : ChangeSpec := { name := "rootsNil", fn := fun _ => fun
  | [d1, d2] => { results := [.lit (.bool false)], args := [d1, d2] }
  | _ => none }
def RootsNilWrongFalsely : Prop := rootsNilRow.holds Try.pinned (OpenSpec.ofChange rootsNilWrong)

/-- 'platenlaw24.RootsSame': WHATEVER THE INPUT: true; the input reads as it did. -/
def rootsSameSpec : ChangeSpec := { name := "rootsSame", fn := fun _ => fun
  | [d1, d2] => { results := [.lit (.bool true)], args := [d1, d2] }
  | _ => none }
def rootsSameRow : OpenClaim := { program := "ytmpbhoijkcanmaa", sum := "b22dcfb11ada334d6d3f4f3beba963ccc8a3f0adc301cd32b527787a791c1651", func := "platen/platenlaw24.RootsSame", spec := "rootsSame", unfollowed := true, recurses := true, plainKeys := false, apart := false }
def RootsSameSaid : Prop := rootsSameRow.holds Try.pinned (OpenSpec.ofChange rootsSameSpec)

/-- ITS FALSE NEIGHBOUR: 'it returns false'. Refute it at one input. -/
def rootsSameWrong : ChangeSpec := { name := "rootsSame", fn := fun _ => fun
  | [d1, d2] => { results := [.lit (.bool false)], args := [d1, d2] }
  | _ => none }
def RootsSameWrongFalsely : Prop := rootsSameRow.holds Try.pinned (OpenSpec.ofChange rootsSameWrong)

/- THE SECOND FORM. 'bulk': how many values and letters a reading holds, each counted each time it is reached (what is shared counts as often as it is met; a slice's spare places count too). A statement '..UptoSaid' is the law's where the arguments, and the package variables that the reading takes, are together of bulk at most 1048576: NARROWER than '..Said'. Prove '..Said' where nothing that the law and all that it calls make is longer than what came in: it says more and counts as full. Else prove '..UptoSaid'. A law counts once. -/
mutual
def uptoBulk {H : Type} : DataW H → Nat
  | .lit (.string bytes) => bytes.length + 1
  | .lit _ => 1
  | .nil => 1
  | .ptr d => uptoBulk d + 1
  | .slice elems spare => uptoBulkAll elems + uptoBulkAll spare + 1
  | .agg parts => uptoBulkAll parts + 1
  | .iface _ d => uptoBulk d + 1
  | .map entries => uptoBulkEntries entries + 1
  | .held _ => 1
def uptoBulkAll {H : Type} : List (DataW H) → Nat
  | [] => 0
  | d :: r => uptoBulk d + uptoBulkAll r
def uptoBulkEntries {H : Type} : List (Lit × DataW H) → Nat
  | [] => 0
  | x :: r => uptoBulkEntry x + uptoBulkEntries r
def uptoBulkEntry {H : Type} : Lit × DataW H → Nat
  | (.string bytes, d) => bytes.length + uptoBulk d + 1
  | (_, d) => uptoBulk d + 1
 end
def uptoSmall : (H : Type) → List (DataW H) → Bool := fun _ ds => decide (uptoBulkAll ds ≤ 1048576)
def OpenSpec.upto (s : _root_.Go.ChangeSpec) : _root_.Go.OpenSpec := { _root_.Go.OpenSpec.ofChange s with cond := some uptoSmall }

/-- 'platenlaw23.RadixOrder', WHERE WHAT IT READS IS OF BULK AT MOST 1048576: true; the input reads as it did. -/
def radixOrderUptoRow : OpenClaim := { program := "ytmpbhoijkcanmaa", sum := "b22dcfb11ada334d6d3f4f3beba963ccc8a3f0adc301cd32b527787a791c1651", func := "platen/platenlaw23.RadixOrder", spec := "radixOrder", unfollowed := true, recurses := true, plainKeys := false, apart := false, narrowed := true }
def RadixOrderUptoSaid : Prop := radixOrderUptoRow.holds Try.pinned (OpenSpec.upto radixOrderSpec)

/-- 'platenlaw23.RadixStays', WHERE WHAT IT READS IS OF BULK AT MOST 1048576: true; the input reads as it did. -/
def radixStaysUptoRow : OpenClaim := { program := "ytmpbhoijkcanmaa", sum := "b22dcfb11ada334d6d3f4f3beba963ccc8a3f0adc301cd32b527787a791c1651", func := "platen/platenlaw23.RadixStays", spec := "radixStays", unfollowed := true, recurses := true, plainKeys := false, apart := false, narrowed := true }
def RadixStaysUptoSaid : Prop := radixStaysUptoRow.holds Try.pinned (OpenSpec.upto radixStaysSpec)

/-- 'platenlaw23.RadixBack', WHERE WHAT IT READS IS OF BULK AT MOST 1048576: true; the input reads as it did. -/
def radixBackUptoRow : OpenClaim := { program := "ytmpbhoijkcanmaa", sum := "b22dcfb11ada334d6d3f4f3beba963ccc8a3f0adc301cd32b527787a791c1651", func := "platen/platenlaw23.RadixBack", spec := "radixBack", unfollowed := true, recurses := true, plainKeys := false, apart := false, narrowed := true }
def RadixBackUptoSaid : Prop := radixBackUptoRow.holds Try.pinned (OpenSpec.upto radixBackSpec)

/-- 'platenlaw23.RadixNil', WHERE WHAT IT READS IS OF BULK AT MOST 1048576: true; the input reads as it did. -/
def radixNilUptoRow : OpenClaim := { program := "ytmpbhoijkcanmaa", sum := "b22dcfb11ada334d6d3f4f3beba963ccc8a3f0adc301cd32b527787a791c1651", func := "platen/platenlaw23.RadixNil", spec := "radixNil", unfollowed := true, recurses := true, plainKeys := false, apart := false, narrowed := true }
def RadixNilUptoSaid : Prop := radixNilUptoRow.holds Try.pinned (OpenSpec.upto radixNilSpec)

/-- 'platenlaw24.RootsStay', WHERE WHAT IT READS IS OF BULK AT MOST 1048576: true; the input reads as it did. -/
def rootsStayUptoRow : OpenClaim := { program := "ytmpbhoijkcanmaa", sum := "b22dcfb11ada334d6d3f4f3beba963ccc8a3f0adc301cd32b527787a791c1651", func := "platen/platenlaw24.RootsStay", spec := "rootsStay", unfollowed := true, recurses := true, plainKeys := false, apart := false, narrowed := true }
def RootsStayUptoSaid : Prop := rootsStayUptoRow.holds Try.pinned (OpenSpec.upto rootsStaySpec)

/-- 'platenlaw24.RootsNil', WHERE WHAT IT READS IS OF BULK AT MOST 1048576: true; the input reads as it did. -/
def rootsNilUptoRow : OpenClaim := { program := "ytmpbhoijkcanmaa", sum := "b22dcfb11ada334d6d3f4f3beba963ccc8a3f0adc301cd32b527787a791c1651", func := "platen/platenlaw24.RootsNil", spec := "rootsNil", unfollowed := true, recurses := true, plainKeys := false, apart := false, narrowed := true }
def RootsNilUptoSaid : Prop := rootsNilUptoRow.holds Try.pinned (OpenSpec.upto rootsNilSpec)

/-- 'platenlaw24.RootsSame', WHERE WHAT IT READS IS OF BULK AT MOST 1048576: true; the input reads as it did. -/
def rootsSameUptoRow : OpenClaim := { program := "ytmpbhoijkcanmaa", sum := "b22dcfb11ada334d6d3f4f3beba963ccc8a3f0adc301cd32b527787a791c1651", func := "platen/platenlaw24.RootsSame", spec := "rootsSame", unfollowed := true, recurses := true, plainKeys := false, apart := false, narrowed := true }
def RootsSameUptoSaid : Prop := rootsSameUptoRow.holds Try.pinned (OpenSpec.upto rootsSameSpec)

end Rows
end Go.Proofs.Ytmpbhoijkcanmaa
