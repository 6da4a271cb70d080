/- Slots: rows of slots, and how they are sorted. -/
import Derived.Test.YtaikapgpkkpdjaaDoorSH
import Derived.Laws.AppendOwn
namespace Go.Proofs.YtaikapgpkkpdjaaDoor.L
open Go.ChangeShapes Go.WideShapes Go.ChangeAt Go.RowKit Go.Maps Go.Proofs.YtaikapgpkkpdjaaDoor.G Go.Sort Go.Shelf Go.Lib
set_option linter.unusedVariables false
set_option linter.unusedSimpArgs false

/-- a slice of slots -/
def Sl3 (w : World) (a : Option Addr) (len : Nat) (xs : List Slot) : Prop :=
  xs.length = len ∧ (len = 0 ∨ ∃ b off, a = some ⟨b, off, none⟩ ∧ ∀ i (h : i < xs.length), w.cell? ⟨b, off + i * 3, none⟩ = some (.int .i64 xs[i].e) ∧ w.cell? ⟨b, off + i * 3 + 1, none⟩ = some (.int .i64 xs[i].c) ∧ w.cell? ⟨b, off + i * 3 + 2, none⟩ = some (.int .i64 xs[i].i))
theorem Sl3.turned {w w' : World} {a : Option Addr} {len : Nat} {xs : List Slot} (h : Sl3 w a len xs) {S : List Nat} (t : Turned S w w') (hn : ∀ x, a = some x → x.block ∉ S) : Sl3 w' a len xs := by
  refine ⟨h.1, ?_⟩
  rcases h.2 with h0 | ⟨b, off, e, hc⟩
  · exact .inl h0
  · refine .inr ⟨b, off, e, fun i hi => ?_⟩
    obtain ⟨c0, c1, c2⟩ := hc i hi
    have hb : b ∉ S := hn ⟨b, off, none⟩ e
    exact ⟨t.cell c0 hb, t.cell c1 hb, t.cell c2 hb⟩
theorem sl3_of_holds {w : World} {b off : Nat} {d : Array Slot} (h : HoldsK encL 3 w b off d) : Sl3 w (some ⟨b, off, none⟩) d.size d.toList := by
  refine ⟨by simp, .inr ⟨b, off, rfl, fun i hi => ?_⟩⟩
  have hi' : i < d.size := by simpa using hi
  have hd : d[i]! = d.toList[i] := by rw [getElem!_pos _ i hi']; simp
  have key : ∀ r, r < 3 → w.cell? ⟨b, off + (i * 3 + r), none⟩ = some ((encL d[i]!)[r]!) := by
    intro r hr
    have := (h (i * 3 + r) (by rw [size_flatK]; omega)).1
    rw [get_flatK _ _ _ _ (by omega), show (i * 3 + r) / 3 = i by omega, show (i * 3 + r) % 3 = r by omega] at this
    exact this
  rw [hd] at key
  exact ⟨key 0 (by omega), by rw [Nat.add_assoc]; exact key 1 (by omega), by rw [Nat.add_assoc]; exact key 2 (by omega)⟩
end Go.Proofs.YtaikapgpkkpdjaaDoor.L
