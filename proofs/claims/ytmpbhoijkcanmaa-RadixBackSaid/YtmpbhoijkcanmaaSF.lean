/- Radix: once no root is held nothing is there; what maps have, by pages. -/
import Derived.Test.YtmpbhoijkcanmaaSE
namespace Go.Proofs.Ytmpbhoijkcanmaa.R
open Go.ChangeShapes Go.WideShapes Go.ChangeAt Go.RowKit Go.Maps Go.Proofs.Ytmpbhoijkcanmaa.G
set_option linter.unusedVariables false
set_option linter.unusedSimpArgs false
set_option linter.unnecessarySimpa false

variable {F G : Fo} {L : Nat}
theorem Ok.none_held (h : Ok F L) (h0 : ∀ i : Nat, cnt F.held (i : Int) = 0) : ∀ n i, i ∈ F.ids → F.lev i = n → False := by
  intro n
  induction n with
  | zero =>
    intro i hi hl
    rcases h.reach hi with h' | ⟨m, hm, q, hq, e⟩
    · have := h0 i; omega
    · have hp := (h.inv.pos i hi).1
      have := ((h.inv.ok m hm).kid q hq).resolve_left (by omega)
      rw [e] at this
      omega
  | succ n ih =>
    intro i hi hl
    rcases h.reach hi with h' | ⟨m, hm, q, hq, e⟩
    · have := h0 i; omega
    · have hp := (h.inv.pos i hi).1
      have := ((h.inv.ok m hm).kid q hq).resolve_left (by omega)
      rw [e] at this
      exact ih m hm (by omega)
theorem Ok.ids_nil (h : Ok F L) (h0 : ∀ i : Nat, cnt F.held (i : Int) = 0) : F.ids = [] := by
  rcases e : F.ids with _ | ⟨i, l⟩
  · rfl
  · exact (h.none_held h0 _ i (by rw [e]; exact List.mem_cons_self) rfl).elim
theorem Ok.slots_nil (h : Ok F L) (h0 : F.ids = []) {ys : List Slot} (hy : SlotsIs (HasS F) ys) : ys = [] := by
  rcases ys with _ | ⟨y, ys⟩
  · rfl
  · obtain ⟨m, hm, _⟩ := HasS.ent h ((hy.mem y).1 List.mem_cons_self)
    rw [h0] at hm; cases hm
/-- a map that has nothing is the empty one -/
theorem leaf_some {x : Node} (hb : x.bits < 2 ^ 16) (h : x.bits ≠ 0) : ∃ q, q < 16 ∧ x.bits.testBit q = true := by
  rcases Classical.em (∃ q, q < 16 ∧ x.bits.testBit q = true) with h' | h'
  · exact h'
  · exfalso
    apply h
    apply Nat.eq_of_testBit_eq
    intro q
    rw [Nat.zero_testBit]
    by_cases hq : q < 16
    · cases e : x.bits.testBit q
      · rfl
      · exact absurd ⟨q, hq, e⟩ h'
    · exact Nat.testBit_lt_two_pow (Nat.lt_of_lt_of_le hb (Nat.pow_le_pow_right (by omega) (by omega)))
theorem partN_mod {m lev : Nat} (h : 2 - lev ≤ m) (q : Nat) : partN (q % 16 ^ (m + 1)) lev = partN q lev := by
  unfold partN
  obtain ⟨d, hd⟩ : ∃ d, m + 1 = (2 - lev) + (d + 1) := ⟨m - (2 - lev), by omega⟩
  rw [hd, Nat.pow_add, Nat.mod_mul_right_div_self, Nat.pow_succ, Nat.mod_mul_left_mod]
theorem getL_mod (F : Fo) : ∀ (m k n q : Nat), m ≤ k → getL m F n (q % 16 ^ (k + 1)) = getL m F n q
  | 0, k, n, q, h => by
    unfold getL leafE
    rw [partN_mod (lev := 2) (by omega)]
  | m + 1, k, n, q, h => by
    show getL m F (kidOf F n (partN (q % 16 ^ (k + 1)) (1 - m))) _ = getL m F (kidOf F n (partN q (1 - m))) q
    rw [getL_mod F m k _ q (by omega), partN_mod (by omega)]
theorem full_some (h : Ok F L) : ∀ (m : Nat), m ≤ 2 → ∀ n, n ∈ F.ids → F.lev n = 2 - m → ∃ q, q < 16 ^ (m + 1) ∧ (getL m F n q).isSome = true
  | 0, _, n, hn, hl => by
    have hk := h.inv.ok n hn
    have hp := (h.inv.pos n hn).1
    have hf := h.inv.full n hn
    have hbz : (F.nd n).bits ≠ 0 := fun e => by
      have : emptyB (F.nd n) = true := emptyB_iff.2 ⟨e, fun j hj => by
        rcases hk.kid j hj with h' | ⟨_, _, h'⟩
        · exact h'
        · omega⟩
      rw [hf] at this; cases this
    obtain ⟨q, hq, hb⟩ := leaf_some hk.bits.1 hbz
    refine ⟨q, by simpa using hq, ?_⟩
    have e : partN q 2 = q := by unfold partN; simp; omega
    unfold getL leafE
    rw [if_neg (by omega), e, if_pos hb]; rfl
  | m + 1, hm, n, hn, hl => by
    have hk := h.inv.ok n hn
    have hp := (h.inv.pos n hn).1
    have hf := h.inv.full n hn
    have hb0 := hk.bits.2 (by omega)
    have : ∃ j, j < 16 ∧ (F.nd n).kids j ≠ 0 := by
      rcases Classical.em (∃ j, j < 16 ∧ (F.nd n).kids j ≠ 0) with h' | h'
      · exact h'
      · exfalso
        have : emptyB (F.nd n) = true := emptyB_iff.2 ⟨hb0, fun j hj => by
          by_cases e : (F.nd n).kids j = 0
          · exact e
          · exact absurd ⟨j, hj, e⟩ h'⟩
        rw [hf] at this; cases this
    obtain ⟨j, hj, h0⟩ := this
    obtain ⟨k1, k2, _⟩ := (hk.kid j hj).resolve_left h0
    obtain ⟨q, hq, hs⟩ := full_some h m (by omega) _ k1 (by omega)
    have hlt : j * 16 ^ (m + 1) + q < 16 ^ (m + 1 + 1) := by
      rw [Nat.pow_succ 16 (m + 1)]
      have : (j + 1) * 16 ^ (m + 1) ≤ 16 * 16 ^ (m + 1) := Nat.mul_le_mul_right _ (by omega)
      rw [Nat.add_mul] at this
      rw [Nat.mul_comm (16 ^ (m + 1)) 16]
      omega
    refine ⟨j * 16 ^ (m + 1) + q, hlt, ?_⟩
    show (getL m F (kidOf F n (partN (j * 16 ^ (m + 1) + q) (1 - m))) (j * 16 ^ (m + 1) + q)).isSome = true
    have hpp : 0 < 16 ^ (m + 1) := Nat.pow_pos (by omega)
    have e1 : partN (j * 16 ^ (m + 1) + q) (1 - m) = j := by
      unfold partN
      rw [show 2 - (1 - m) = m + 1 by omega, Nat.mul_comm j, Nat.mul_add_div hpp, Nat.div_eq_of_lt hq, Nat.add_zero, Nat.mod_eq_of_lt hj]
    have e2 : (j * 16 ^ (m + 1) + q) % 16 ^ (m + 1) = q := by rw [Nat.mul_comm j, Nat.mul_add_mod, Nat.mod_eq_of_lt hq]
    rw [e1, ← getL_mod F m m _ _ (Nat.le_refl _), e2]
    unfold kidOf
    rw [if_neg (by omega)]
    exact hs
/-- a root that is not 0 has some page -/
theorem root_some (h : Ok F L) {r : Nat} (hr : r = 0 ∨ (r ∈ F.ids ∧ F.lev r = 0)) : r = 0 ↔ ∀ q, q < 4096 → getL 2 F r q = none := by
  constructor
  · rintro rfl q _
    exact getL_zero 2 F q
  · intro hn
    rcases hr with h0 | ⟨h1, h2⟩
    · exact h0
    · obtain ⟨q, hq, hs⟩ := full_some h 2 (by omega) r h1 h2
      rw [hn q (by simpa using hq)] at hs; cases hs
end Go.Proofs.Ytmpbhoijkcanmaa.R
