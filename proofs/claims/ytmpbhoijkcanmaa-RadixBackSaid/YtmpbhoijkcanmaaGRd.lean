/- Slices that are handed in, read as lists: of any element type of which one element's cells can be read. -/
import Derived.Test.YtmpbhoijkcanmaaGMap
import Derived.Test.YtmpbhoijkcanmaaRows
import Derived.Deep.Slices
import Derived.ChangeSame
import Derived.WalkKit
import Derived.ProofKit
import Derived.OpenShut
namespace Go.Proofs.Ytmpbhoijkcanmaa.G
open Go.ChangeShapes Go.WideShapes Go.ChangeAt Go.RowKit Go.Deep
set_option linter.unusedVariables false
set_option linter.unusedSimpArgs false
set_option linter.unnecessarySimpa false

/-- the cells of a slice are those of a list's elements, sz each -/
def RowsAt {α : Type} (w : World) (sz : Nat) (enc : α → List Value) (a : Option Addr) (len : Nat) (l : List α) : Prop :=
  l.length = len ∧ (len = 0 ∨ ∃ b off, a = some ⟨b, off, none⟩ ∧ b < w.heap.size ∧ ∀ i (h : i < l.length) j u, (enc l[i])[j]? = some u → w.cell? ⟨b, off + i * sz + j, none⟩ = some u)
theorem RowsAt.turned {α : Type} {w w' : World} {sz : Nat} {enc : α → List Value} {a : Option Addr} {len : Nat} {l : List α} (h : RowsAt w sz enc a len l) {S : List Nat} (t : Turned S w w') (hn : ∀ b, b < w.heap.size → b ∉ S) : RowsAt w' sz enc a len l := by
  refine ⟨h.1, h.2.imp id ?_⟩
  rintro ⟨b, off, e, hb, hc⟩
  exact ⟨b, off, e, Nat.lt_of_lt_of_le hb t.size, fun i hi j u hu => t.cell (hc i hi j u hu) (hn b hb)⟩
theorem RowsAt.below {α : Type} {w w' : World} {sz : Nat} {enc : α → List Value} {a : Option Addr} {len : Nat} {l : List α} (h : RowsAt w sz enc a len l) (t : Below w.heap.size w w') : RowsAt w' sz enc a len l := h.turned (Turned.of_below t) (by simp)
theorem RowsAt.at {α : Type} {w : World} {sz : Nat} {enc : α → List Value} {a : Option Addr} {len : Nat} {l : List α} (h : RowsAt w sz enc a len l) (i : Nat) (hi : i < len) : ∃ b off x, a = some ⟨b, off, none⟩ ∧ b < w.heap.size ∧ l[i]? = some x ∧ ∀ j u, (enc x)[j]? = some u → w.cell? ⟨b, off + i * sz + j, none⟩ = some u := by
  have hl : i < l.length := by rw [h.1]; exact hi
  rcases h.2 with h0 | ⟨b, off, e, hb, hc⟩
  · omega
  · exact ⟨b, off, l[i], e, hb, by simp, fun j u hu => hc i hl j u hu⟩
theorem addr_add_none (b off n : Nat) : (⟨b, off, none⟩ : Addr).add n = ⟨b, off + n, none⟩ := by
  unfold Addr.add
  split
  · next h => subst h; rfl
  · rfl
theorem cells_read {w : World} {base : Nat} {a : Addr} {n : Nat} {cs : List Value} (h : w.cells? base a n = some cs) : cs.length = n ∧ ∀ i, i < n → w.cell? (a.add i) = cs[i]? := by
  unfold World.cells? at h
  split at h
  · exact ⟨by simpa using mapM_some_length h, fun i hi => mapM_some_get h i i (by simp [hi])⟩
  · cases h
theorem spot_none {w : World} {z : Addr} {v : Value} (hv : w.cell? z = some v) : z.spot = none := by
  unfold World.cell? at hv
  split at hv
  · split at hv
    · cases hv
    · rename_i hs; simpa using hs
  · cases hv
/-- a slice that is handed in -/
theorem rows_of {α : Type} [Inhabited α] {P : Program} {H : Type} {encd : TypeId × Value → H} {W : World} {base : Nat} {spare : Nat → Bool} {held : Bool} {t e : TypeId} {sz : Nat} (hsz : 0 < sz) (enc : α → List Value) (hlen : ∀ x, (enc x).length = sz) (ok : α → Prop)
    (ht : P.underlying t = some (.slice e)) (hc : P.cellsOf e = sz)
    (elem : ∀ (n : Nat) (cs : List Value) (y : DataW H × List MemPlace), cs.length = sz → DataW.trod encd P W base spare held n e cs = some y → ∃ x, ok x ∧ cs = enc x)
    {a : Option Addr} {len cap fuel : Nat} {y : DataW H × List MemPlace} (h : DataW.trod encd P W base spare held fuel t [.slice a len cap] = some y) : ∃ l, RowsAt W sz enc a len l ∧ (∀ x ∈ l, ok x) ∧ len ≤ maxLen ∧ len ≤ cap := by
  rcases open_slice ht h with ⟨e, _⟩ | ⟨x, l, c, m, n, D, Pl, e, hb, hl, hm, hmm, _, hx⟩
  · simp at e; obtain ⟨rfl, rfl, rfl⟩ := e
    exact ⟨[], ⟨rfl, .inl rfl⟩, by simp, by decide, by omega⟩
  · simp at e; obtain ⟨rfl, rfl, rfl⟩ := e
    have hlm : len ≤ m := by rw [hmm]; split <;> omega
    have key : ∀ i, i < len → ∃ t : α, ok t ∧ ∀ j u, (enc t)[j]? = some u → W.cell? ((x.add (i * sz)).add j) = some u := by
      intro i hi
      obtain ⟨cs, h1, h2⟩ := hx i (by omega)
      rw [hc] at h1
      obtain ⟨hcl, hcg⟩ := cells_read h1
      obtain ⟨t, hok, rfl⟩ := elem _ _ _ hcl h2
      refine ⟨t, hok, fun j u hu => ?_⟩
      have hj : j < sz := by
        rcases Nat.lt_or_ge j sz with h | h
        · exact h
        · rw [List.getElem?_eq_none (by rw [hlen]; exact h)] at hu; cases hu
      rw [hcg j hj]; exact hu
    obtain ⟨V, hV⟩ := choose_lt key
    refine ⟨(List.range len).map V, ⟨by simp, ?_⟩, ?_, by omega, by omega⟩
    · by_cases h0 : len = 0
      · exact .inl h0
      · right
        have hl0 : 0 < (enc (V 0)).length := by rw [hlen]; exact hsz
        have h00 := (hV 0 (by omega)).2 0 _ (List.getElem?_eq_getElem hl0)
        have hs := spot_none h00
        obtain ⟨b, off, sp⟩ := x
        have hs' : sp = none := by
          have : ((⟨b, off, sp⟩ : Addr).add (0 * sz)).add 0 = ⟨b, off, sp⟩ := by simp [Addr.add]
          rw [this] at hs; exact hs
        subst hs'
        refine ⟨b, off, rfl, lt_of_cell (by simpa [Addr.add] using h00), fun i hi j u hu => ?_⟩
        simp only [List.getElem_map, List.getElem_range] at hu
        have := (hV i (by simpa using hi)).2 j u hu
        rw [addr_add_none, addr_add_none] at this
        exact this
    · intro t ht
      obtain ⟨i, hi, rfl⟩ := List.mem_map.1 ht
      exact (hV i (by simpa using hi)).1
end Go.Proofs.Ytmpbhoijkcanmaa.G
