/- Slots: slices.SortFunc over slots. -/
import Derived.Test.YtaikapgpkkpdjaaDoorSG
import Derived.Test.YtaikapgpkkpdjaaDoorShelf
namespace Go.Proofs.YtaikapgpkkpdjaaDoor.L
open Go.ChangeShapes Go.WideShapes Go.ChangeAt Go.RowKit Go.Maps Go.Proofs.YtaikapgpkkpdjaaDoor.G Go.Sort Go.Shelf Go.Lib
set_option linter.unusedVariables false
set_option linter.unusedSimpArgs false

def encL (x : Slot) : List Value := [.int .i64 x.e, .int .i64 x.c, .int .i64 x.i]
theorem ltS (a b : Slot) : ltOf cmpS a b = decide (a.e < b.e ∨ (a.e = b.e ∧ a.i < b.i)) := by
  unfold ltOf cmpS orI cmpI
  rw [Bool.eq_iff_iff]
  simp only [decide_eq_true_eq]
  repeat' split
  all_goals omega
theorem swoS : SWO (ltOf cmpS) where
  irrefl x := by rw [ltS]; simp
  trans x y z h1 h2 := by rw [ltS] at *; simp only [decide_eq_true_eq] at *; omega
  ntrans x y z h1 h2 := by rw [ltS] at *; simp only [decide_eq_false_iff_not] at *; omega
theorem cmpLays49 (blk off size : Nat) (w : World) : CmpLays Tryd.prog 49 #[] encL 3 cmpS blk off size w :=
  fun _ _ _ _ x y => closure49 x y _

theorem sort48 (blk off cap : Nat) (d : Array Slot) (w : World) (hH : HoldsK encL 3 w blk off d) (hblk : blk < w.heap.size) (hsz : d.size < 4611686018427387904) :
    Calls Tryd.prog 48 #[.slice (some ⟨blk, off, none⟩) d.size cap, .func (.func 49) #[] #[]] w fun e w' =>
      e = .returned (.tuple #[]) ∧ ∃ d' n os, PermIn 0 d.size d d' ∧ SortedIn (ltOf cmpS) 0 d.size d' ∧ w' = sortWorldK encL 3 w blk off n d' os := by
  have eg : ∀ args w, (callFunc 49 args).run Tryd.prog w = .ok (.enter 49 args) w := enters_of Tryd.func49 (by kernel_rfl) rfl
  have hcon := AnyQ.slices_SortFunc Tryd.sortSl 3 Tryd.isAgg24 Tryd.sizeOf24 encL (fun _ => rfl) (fun x v hv => by simp [encL] at hv; rcases hv with rfl | rfl | rfl <;> rfl) cmpS swoS 49 #[] blk off cap d w eg (cmpLays49 blk off d.size w) hH hblk hsz
  exact hcon
end Go.Proofs.YtaikapgpkkpdjaaDoor.L
