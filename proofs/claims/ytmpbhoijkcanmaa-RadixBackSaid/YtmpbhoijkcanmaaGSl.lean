/- Slices of numbers in memory, as lists; appends of one number. -/
import Derived.Test.YtmpbhoijkcanmaaGMap
import Derived.Laws.AppendOwn
import Derived.Laws.OwnMore
import Derived.WalkKit
namespace Go.Proofs.Ytmpbhoijkcanmaa.G
open Go.RowKit Go.Maps
set_option linter.unusedVariables false
set_option linter.unusedSimpArgs false
set_option linter.unusedSectionVars false

/-- what is known of a slice of cells of one value each, its address and length: 'xs' are its elements -/
def SlAt (w : World) (a : Option Addr) (len : Nat) (xs : List Value) : Prop :=
  xs.length = len ∧ (len = 0 ∨ ∃ b off, a = some ⟨b, off, none⟩ ∧ ∀ i, i < len → w.cell? ⟨b, off + i, none⟩ = xs[i]?)
theorem SlAt.len {w : World} {a : Option Addr} {len : Nat} {xs : List Value} (h : SlAt w a len xs) : xs.length = len := h.1
theorem SlAt.cells {w : World} {a : Option Addr} {len : Nat} {xs : List Value} (h : SlAt w a len xs) (h0 : 0 < len) : ∃ b off, a = some ⟨b, off, none⟩ ∧ ∀ i, i < len → w.cell? ⟨b, off + i, none⟩ = xs[i]? := by
  rcases h.2 with h | h
  · omega
  · exact h
theorem SlAt.nil (w : World) (a : Option Addr) : SlAt w a 0 [] := ⟨rfl, .inl rfl⟩
theorem SlAt.kept {w w' : World} {a : Option Addr} {len : Nat} {xs : List Value} (h : SlAt w a len xs) (hk : ∀ b off, a = some ⟨b, off, none⟩ → ∀ i v, w.cell? ⟨b, off + i, none⟩ = some v → w'.cell? ⟨b, off + i, none⟩ = some v) : SlAt w' a len xs := by
  refine ⟨h.1, ?_⟩
  rcases h.2 with h0 | ⟨b, off, e, hc⟩
  · exact .inl h0
  · refine .inr ⟨b, off, e, fun i hi => ?_⟩
    have := hc i hi
    rw [List.getElem?_eq_getElem (by rw [h.1]; exact hi)] at this ⊢
    exact hk b off e i _ this
theorem SlAt.turned {w w' : World} {a : Option Addr} {len : Nat} {xs : List Value} (h : SlAt w a len xs) {S : List Nat} (t : Turned S w w') (hn : ∀ x, a = some x → x.block ∉ S) : SlAt w' a len xs :=
  h.kept fun b off e i v hv => t.cell hv (show b ∉ S from hn ⟨b, off, none⟩ e)

/-- a slice that is owned, read as one -/
theorem SlAt.of_owns {w : World} {base : Nat} {e : TypeId} {v : Value} {n : Nat} {xs : List Value} (h : w.ownsRow base e 1 v n xs) : ∃ a cap, v = .slice a n cap ∧ SlAt w a n xs ∧ (∀ x, a = some x → base ≤ x.block ∧ x.block < w.heap.size) := by
  obtain ⟨h1, h2⟩ := h
  rcases h2 with ⟨rfl, rfl⟩ | ⟨g, cap, cur, rfl, hg, hh, hn, hc, hs, ht⟩
  · refine ⟨none, 0, rfl, ⟨by simpa using h1, .inl rfl⟩, fun x hx => by cases hx⟩
  · refine ⟨some ⟨g, 0, none⟩, cap, rfl, ⟨by simpa using h1, .inr ⟨g, 0, rfl, fun i hi => ?_⟩⟩, fun x hx => by simp only [Option.some.injEq] at hx; subst hx; exact ⟨hg, lt_of_at hh⟩⟩
    unfold World.cell?
    simp only [Nat.zero_add]
    rw [hh]
    have : cur.toList[i]? = xs[i]? := by rw [← ht, List.getElem?_take]; simp [hi]
    simpa using this

/-- a value in a block of its own -/
theorem cell_new1 (w : World) (v : Value) (t : TypeId) (j : Nat) (u : Value) (h : [v][j]? = some u) : (w.alloc (.cells #[v] t)).cell? ((⟨w.heap.size, 0, none⟩ : Addr).add j) = some u := by
  cases j with
  | zero =>
    simp only [List.getElem?_cons_zero, Option.some.injEq] at h
    subst h
    have := (MapKept.heap_alloc w (.cells #[v] t)).1
    unfold World.cell? Addr.add
    simp only [if_true]
    rw [this]; rfl
  | succ j => simp at h
theorem cell_new0 (w : World) (v : Value) (t : TypeId) (n : Nat) (hn : w.heap.size = n) : (w.alloc (.cells #[v] t)).cell? ⟨n, 0, none⟩ = some v := by
  subst hn
  exact cell_new1 w v t 0 v rfl
theorem cells_new (w : World) (vs : List Value) (t : TypeId) (j : Nat) (u : Value) (h : vs[j]? = some u) : (w.alloc (.cells vs.toArray t)).cell? ((⟨w.heap.size, 0, none⟩ : Addr).add j) = some u := by
  have := (MapKept.heap_alloc w (.cells vs.toArray t)).1
  unfold World.cell? Addr.add
  by_cases hj : j = 0
  · subst hj
    simp only [if_true]
    rw [this]; simpa using h
  · simp only [if_neg hj, Nat.zero_add]
    rw [this]; simpa using h
end Go.Proofs.Ytmpbhoijkcanmaa.G
