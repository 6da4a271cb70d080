/- A latch is one holder's at most: what comes in. -/
import Derived.Test.YtmgbpndbnfemeaaM2
import Derived.Deep.Slices
import Derived.ChangeSame
namespace Go.Proofs.Ytmgbpndbnfemeaa.L
open Go.ChangeShapes Go.WideShapes Go.ChangeAt Go.RowKit Go.Maps Go.Proofs.Ytmgbpndbnfemeaa.G Go.Deep
set_option linter.unusedVariables false
set_option linter.unusedSimpArgs false

theorem cells_get {w : World} {base : Nat} {a : Addr} {n : Nat} {cs : List Value} (h : w.cells? base a n = some cs) (i : Nat) (hi : i < n) : w.cell? (a.add i) = cs[i]? := by
  unfold World.cells? at h
  split at h
  · exact mapM_some_get h i i (by simp [hi])
  · cases h

theorem fits64 {n : Int} (h : (Lit.int .i64 n).wf = true) : I64 n := by
  have := bounds_i64 h
  unfold I64; omega

theorem add_none (b off n : Nat) : (⟨b, off, none⟩ : Addr).add n = ⟨b, off + n, none⟩ := by
  unfold Addr.add
  split
  · next h => subst h; rfl
  · rfl

/-- what comes in: acts -/
theorem acts_of {H : Type} {enc : TypeId × Value → H} {W : World} {base fuel : Nat} {spare : Nat → Bool} {held : Bool} {a : Option Addr} {len cap : Nat} {y : DataW H × List MemPlace}
    (h : DataW.trod enc Try.prog W base spare held fuel 22 [.slice a len cap] = some y) : ∃ acts, ActsAt W a len acts ∧ len ≤ maxLen := by
  rcases open_slice Try.underlying22 h with ⟨e, _⟩ | ⟨x, l, c, m, n, D, Pl, e, hb, hl, hm, hmm, _, hx⟩
  · simp at e; obtain ⟨rfl, rfl, rfl⟩ := e
    exact ⟨[], ⟨rfl, by simp, .inl rfl⟩, by decide⟩
  · simp at e; obtain ⟨rfl, rfl, rfl⟩ := e
    have hlm : len ≤ m := by rw [hmm]; split <;> omega
    have key : ∀ i, i < len → ∃ t : Bool × Int × Int, (I64 t.2.1 ∧ I64 t.2.2) ∧ W.cell? (x.add (i * 3)) = some (.bool t.1) ∧ W.cell? ((x.add (i * 3)).add 1) = some (.int .i64 t.2.1) ∧ W.cell? ((x.add (i * 3)).add 2) = some (.int .i64 t.2.2) := by
      intro i hi
      obtain ⟨cs, h1, h2⟩ := hx i (by omega)
      have e30 : Try.prog.cellsOf 30 = 3 := by kernel_rfl
      have e3 : Try.prog.cellsOf 3 = 1 := by kernel_rfl
      have e4 : Try.prog.cellsOf 4 = 1 := by kernel_rfl
      rw [e30] at h1
      obtain ⟨xs, k, _, _, hcl, hxl, hf⟩ := DataW.trod_struct Try.underlying30 h2
      rw [e30] at hcl
      obtain ⟨c0, c1, c2, rfl⟩ : ∃ c0 c1 c2, cs = [c0, c1, c2] := by
        match cs, hcl with
        | [c0, c1, c2], _ => exact ⟨c0, c1, c2, rfl⟩
      obtain ⟨x0, x1, x2, rfl⟩ : ∃ x0 x1 x2, xs = [x0, x1, x2] := by
        match xs, hxl with
        | [x0, x1, x2], _ => exact ⟨x0, x1, x2, rfl⟩
      have f0 : DataW.trod enc Try.prog W base spare held k 4 (([c0, c1, c2].drop 0).take (Try.prog.cellsOf 4)) = some x0 := hf 0 _ rfl
      have f1 : DataW.trod enc Try.prog W base spare held k 3 (([c0, c1, c2].drop 1).take (Try.prog.cellsOf 3)) = some x1 := hf 1 _ rfl
      have f2 : DataW.trod enc Try.prog W base spare held k 3 (([c0, c1, c2].drop 2).take (Try.prog.cellsOf 3)) = some x2 := hf 2 _ rfl
      rw [e4] at f0
      rw [e3] at f1 f2
      obtain ⟨b, eb, _⟩ := DataW.trod_bool Try.underlying4 f0
      obtain ⟨p, ep, _, wp⟩ := DataW.trod_int Try.underlying3 f1
      obtain ⟨q, eq, _, wq⟩ := DataW.trod_int Try.underlying3 f2
      obtain rfl : c0 = .bool b := (List.cons.inj eb).1
      obtain rfl : c1 = .int .i64 p := (List.cons.inj ep).1
      obtain rfl : c2 = .int .i64 q := (List.cons.inj eq).1
      exact ⟨(b, p, q), ⟨fits64 wp, fits64 wq⟩, by simpa [Addr.add] using cells_get h1 0 (by omega), cells_get h1 1 (by omega), cells_get h1 2 (by omega)⟩
    have hsp : ∀ (z : Addr) (v : Value), W.cell? z = some v → z.spot = none := by
      intro z v hv
      unfold World.cell? at hv
      split at hv
      · split at hv
        · cases hv
        · rename_i hs; simpa using hs
      · cases hv
    obtain ⟨V, hV⟩ := choose_lt key
    refine ⟨(List.range len).map V, ⟨by simp, ?_, ?_⟩, by omega⟩
    · intro t ht
      obtain ⟨i, hi, rfl⟩ := List.mem_map.1 ht
      exact (hV i (by simpa using hi)).1
    · by_cases h0 : len = 0
      · exact .inl h0
      · right
        have hs := hsp _ _ (hV 0 (by omega)).2.1
        obtain ⟨b, off, sp⟩ := x
        have hs' : sp = none := hs
        subst hs'
        refine ⟨b, off, rfl, fun i hi => ?_⟩
        have hk := (hV i (by simpa using hi)).2
        simp only [List.getElem_map, List.getElem_range]
        simpa only [add_none] using hk

end Go.Proofs.Ytmgbpndbnfemeaa.L
