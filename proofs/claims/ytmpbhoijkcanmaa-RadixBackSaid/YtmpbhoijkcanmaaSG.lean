/- Radix: rows of pairs; are two rows the same. -/
import Derived.Test.YtmpbhoijkcanmaaSF
import Derived.Deep.QuietTactic
namespace Go.Proofs.Ytmpbhoijkcanmaa.R
open Go.ChangeShapes Go.WideShapes Go.ChangeAt Go.RowKit Go.Maps Go.Proofs.Ytmpbhoijkcanmaa.G
set_option linter.unusedVariables false
set_option linter.unusedSimpArgs false
set_option linter.unnecessarySimpa false

variable {w w' : World}
/-- a slice of pairs -/
def Sl5 (w : World) (a : Option Addr) (n : Nat) (xs : List Pr) : Prop :=
  xs.length = n ∧ (n = 0 ∨ ∃ b off, a = some ⟨b, off, none⟩ ∧ ∀ i (h : i < xs.length), w.cell? ⟨b, off + i * 5, none⟩ = some (.int .i64 (xs[i].1 : Nat)) ∧ w.cell? ⟨b, off + i * 5 + 1, none⟩ = some (.int .i64 xs[i].2.s.e) ∧ w.cell? ⟨b, off + i * 5 + 2, none⟩ = some (.int .i64 xs[i].2.s.c) ∧ w.cell? ⟨b, off + i * 5 + 3, none⟩ = some (.int .i64 xs[i].2.s.i) ∧ w.cell? ⟨b, off + i * 5 + 4, none⟩ = some (.int .i64 xs[i].2.g))
theorem Sl5.turned {a : Option Addr} {n : Nat} {xs : List Pr} (h : Sl5 w a n xs) {S : List Nat} (t : Turned S w w') (hn : ∀ x, a = some x → x.block ∉ S) : Sl5 w' a n xs := by
  refine ⟨h.1, h.2.imp id ?_⟩
  rintro ⟨b, off, e, hc⟩
  have hb : b ∉ S := hn ⟨b, off, none⟩ e
  exact ⟨b, off, e, fun i hi => by
    obtain ⟨c0, c1, c2, c3, c4⟩ := hc i hi
    exact ⟨t.cell c0 hb, t.cell c1 hb, t.cell c2 hb, t.cell c3 hb, t.cell c4 hb⟩⟩
theorem Sl5.at {a : Option Addr} {n : Nat} {ys : List Pr} (h : Sl5 w a n ys) (i : Nat) (hi : i < ys.length) : ∃ b off, a = some ⟨b, off, none⟩ ∧ w.cell? ⟨b, off + i * 5, none⟩ = some (.int .i64 (ys[i].1 : Nat)) ∧ w.cell? ⟨b, off + i * 5 + 1, none⟩ = some (.int .i64 ys[i].2.s.e) ∧ w.cell? ⟨b, off + i * 5 + 2, none⟩ = some (.int .i64 ys[i].2.s.c) ∧ w.cell? ⟨b, off + i * 5 + 3, none⟩ = some (.int .i64 ys[i].2.s.i) ∧ w.cell? ⟨b, off + i * 5 + 4, none⟩ = some (.int .i64 ys[i].2.g) := by
  rcases h.2 with h0 | ⟨b, off, e, hc⟩
  · have := h.1; omega
  · exact ⟨b, off, e, hc i hi⟩
theorem flatP_len (xs : List Pr) : (flatP xs).length = xs.length * 5 := by
  induction xs with
  | nil => rfl
  | cons x xs ih => unfold flatP at *; simp [encP] at *; omega
theorem flatP_get (xs : List Pr) (i r : Nat) (hi : i < xs.length) (hr : r < 5) : (flatP xs)[i * 5 + r]? = (encP xs[i])[r]? := by
  induction xs generalizing i with
  | nil => simp at hi
  | cons x xs ih =>
    have e : flatP (x :: xs) = encP x ++ flatP xs := by unfold flatP; simp
    rw [e]
    cases i with
    | zero =>
      rw [List.getElem?_append_left (by simp [encP]; omega)]
      simp
    | succ i =>
      rw [List.getElem?_append_right (by simp [encP]; omega)]
      have : (i + 1) * 5 + r - (encP x).length = i * 5 + r := by simp [encP]; omega
      rw [this, ih i (by simpa using hi)]
      simp
theorem sl5_of_owns {base : Nat} {v : Value} {n : Nat} {xs : List Pr} (h : w.ownsRow base 43 5 v n (flatP xs)) : ∃ a cap, v = .slice a n cap ∧ Sl5 w a n xs ∧ (∀ x, a = some x → base ≤ x.block ∧ x.block < w.heap.size) := by
  obtain ⟨h1, h2⟩ := h
  have hl : xs.length = n := by have := flatP_len xs; omega
  rcases h2 with ⟨rfl, rfl⟩ | ⟨g, cap, cur, rfl, hg, hh, hn, hc, hs, ht⟩
  · exact ⟨none, 0, rfl, ⟨hl, .inl rfl⟩, fun x hx => by cases hx⟩
  · refine ⟨_, cap, rfl, ⟨hl, .inr ⟨g, 0, rfl, fun i hi => ?_⟩⟩, fun x hx => by simp only [Option.some.injEq] at hx; subst hx; exact ⟨hg, lt_of_at hh⟩⟩
    have key : ∀ r, r < 5 → w.cell? ⟨g, 0 + i * 5 + r, none⟩ = (encP xs[i])[r]? := fun r hr => by
      have h1 : (cur.toList.take (n * 5))[i * 5 + r]? = cur.toList[i * 5 + r]? := by rw [List.getElem?_take, if_pos (by omega)]
      rw [ht, flatP_get xs i r hi hr] at h1
      rw [h1, Nat.zero_add]
      simp [World.cell?, hh]
    exact ⟨key 0 (by omega), key 1 (by omega), key 2 (by omega), key 3 (by omega), key 4 (by omega)⟩
end Go.Proofs.Ytmpbhoijkcanmaa.R
