/- Slots: the least free index. -/
import Derived.Test.YtaikapgpkkpdjaaDoorS2
namespace Go.Proofs.YtaikapgpkkpdjaaDoor.L
open Go.ChangeShapes Go.WideShapes Go.ChangeAt Go.RowKit Go.Maps Go.Proofs.YtaikapgpkkpdjaaDoor.G
set_option linter.unusedVariables false
set_option linter.unusedSimpArgs false

def tabL : List Nat := [0,1,56,2,57,49,28,3,61,58,42,50,38,29,17,4,62,47,59,36,45,43,51,22,53,39,33,30,24,18,12,5,63,55,48,27,60,41,37,16,46,35,44,21,52,32,23,11,54,26,40,15,34,20,31,10,25,14,19,9,13,8,7,6]
/-- the table of bits, as the program lays it -/
def Tab (w : World) : Prop := ∀ j, j < 64 → w.cell? ⟨0, j, none⟩ = some (.int .u8 (tabL.getD j 0 : Nat))
theorem Tab.turned {w w' : World} (h : Tab w) {S : List Nat} (t : Turned S w w') (h0 : 0 ∉ S) : Tab w' := fun j hj => t.cell (h j hj) h0
theorem Tab.lt {w : World} (h : Tab w) : 0 < w.heap.size := lt_of_cell (h 0 (by omega))

theorem low_bit (x t : Nat) (hx : x < 2 ^ 64) (h1 : x.testBit t = true) (h0 : ∀ i, i < t → x.testBit i = false) : x &&& (2 ^ 64 - x) = 2 ^ t := by
  have hmod : x % 2 ^ t = 0 := by
    apply Nat.eq_of_testBit_eq
    intro i
    rw [Nat.testBit_mod_two_pow, Nat.zero_testBit]
    by_cases hi : i < t
    · rw [h0 i hi]; simp
    · simp [hi]
  obtain ⟨a, rfl⟩ := Nat.dvd_of_mod_eq_zero hmod
  have hpos : 0 < 2 ^ t := Nat.two_pow_pos t
  have ha : a.testBit 0 = true := by
    have := h1
    rw [show 2 ^ t * a = 2 ^ t * a + 0 from rfl, Nat.testBit_two_pow_mul_add _ hpos, if_neg (by omega), Nat.sub_self] at this
    exact this
  have hodd : a % 2 = 1 := by simpa [Nat.testBit_zero] using ha
  obtain ⟨m, rfl⟩ : ∃ m, a = 2 * m + 1 := ⟨a / 2, by omega⟩
  obtain ⟨y, hy⟩ : ∃ y, 2 ^ t * (2 * m) + (2 ^ t - 1) = y := ⟨_, rfl⟩
  have hxy : 2 ^ t * (2 * m + 1) = y + 1 := by rw [Nat.mul_add, Nat.mul_one, ← hy]; omega
  have hyb : ∀ i, y.testBit i = if i < t then true else (2 * m).testBit (i - t) := by
    intro i
    rw [← hy, Nat.testBit_two_pow_mul_add _ (by omega)]
    by_cases hi : i < t
    · rw [if_pos hi, if_pos hi, Nat.testBit_two_pow_sub_one]; simp [hi]
    · rw [if_neg hi, if_neg hi]
  have hxb : ∀ i, (y + 1).testBit i = if i < t then false else (2 * m + 1).testBit (i - t) := by
    intro i
    rw [← hxy, show 2 ^ t * (2 * m + 1) = 2 ^ t * (2 * m + 1) + 0 from rfl, Nat.testBit_two_pow_mul_add _ hpos]
    by_cases hi : i < t
    · rw [if_pos hi, if_pos hi, Nat.zero_testBit]
    · rw [if_neg hi, if_neg hi]
  rw [hxy] at hx ⊢
  apply Nat.eq_of_testBit_eq
  intro i
  rw [Nat.testBit_and, Nat.testBit_two_pow_sub_succ (by omega), hxb, hyb, Nat.testBit_two_pow]
  by_cases hi : i < t
  · simp [hi]; omega
  · rw [if_neg hi, if_neg hi]
    by_cases he : t = i
    · subst he
      have : t < 64 := by
        rcases Nat.lt_or_ge t 64 with h | h
        · exact h
        · exfalso
          have : 2 ^ 64 ≤ 2 ^ t := Nat.pow_le_pow_right (by omega) h
          have h2 : 2 ^ t * 1 ≤ 2 ^ t * (2 * m + 1) := Nat.mul_le_mul_left _ (by omega)
          omega
      simp [this]
    · have hk : ∃ k, i - t = k + 1 := ⟨i - t - 1, by omega⟩
      obtain ⟨k, hk⟩ := hk
      rw [hk, Nat.testBit_succ, Nat.testBit_succ]
      have e1 : (2 * m + 1) / 2 = m := by omega
      have e2 : 2 * m / 2 = m := by omega
      rw [e1, e2]
      cases m.testBit k <;> simp [he]

/-- the least bit of a number -/
def leastBit (x : Nat) : Nat := ((List.range 64).find? fun i => x.testBit i).getD 64
theorem leastBit_spec (x : Nat) (h : x < 2 ^ 64) (h0 : x ≠ 0) : leastBit x < 64 ∧ x.testBit (leastBit x) = true ∧ ∀ i, i < leastBit x → x.testBit i = false := by
  unfold leastBit
  cases e : (List.range 64).find? fun i => x.testBit i with
  | none =>
    exfalso
    apply h0
    apply Nat.eq_of_testBit_eq
    intro i
    rw [Nat.zero_testBit]
    by_cases hi : i < 64
    · have := List.find?_eq_none.1 e i (by simpa using hi)
      simpa using this
    · exact Nat.testBit_lt_two_pow (Nat.lt_of_lt_of_le h (Nat.pow_le_pow_right (by omega) (by omega)))
  | some t =>
    obtain ⟨hb, s1, s2, hl, hn⟩ := List.find?_eq_some_iff_append.1 e
    have hlen : (List.range 64).length = s1.length + 1 + s2.length := by rw [hl]; simp; omega
    have hat : ∀ i, i < s1.length → s1[i]? = some i := by
      intro i hi
      have : (s1 ++ t :: s2)[i]? = some i := by
        rw [← hl, List.getElem?_range (by simp at hlen; omega)]
      rwa [List.getElem?_append_left hi] at this
    have ht : t = s1.length := by
      have : (s1 ++ t :: s2)[s1.length]? = some s1.length := by
        rw [← hl, List.getElem?_range (by simp at hlen; omega)]
      simpa using this
    simp only [Option.getD_some]
    refine ⟨by simp at hlen; omega, hb, fun i hi => ?_⟩
    have := hn i (List.mem_of_getElem? (hat i (by omega)))
    simpa using this

theorem tab_right : ∀ t : Fin 64, tabL.getD (2 ^ t.val * 285870213051353865 % 18446744073709551616 / 288230376151711744) 0 = t.val ∧ 2 ^ t.val * 285870213051353865 % 18446744073709551616 / 288230376151711744 < 64 := by decide +kernel

theorem and_neg (x t : Nat) (hx : x < 2 ^ 64) (h1 : x.testBit t = true) (h0 : ∀ i, i < t → x.testBit i = false) : bits BinOp.and IntKind.u64 (x : Int) (IntKind.u64.wrap (-(x : Int))) = ((2 ^ t : Nat) : Int) := by
  have hpos : 0 < x := by
    rcases Nat.eq_zero_or_pos x with rfl | h
    · simp at h1
    · exact h
  have hl := low_bit x t hx h1 h0
  have hw : IntKind.u64.wrap (-(x : Int)) = ((2 ^ 64 - x : Nat) : Int) := by rw [IntKind.wrap_u64]; omega
  rw [hw]
  show IntKind.u64.wrap ((BitVec.ofInt 64 (x : Int) &&& BitVec.ofInt 64 ((2 ^ 64 - x : Nat) : Int)).toNat : Int) = _
  rw [BitVec.toNat_and, BitVec.ofInt_natCast, BitVec.ofInt_natCast, BitVec.toNat_ofNat, BitVec.toNat_ofNat, Nat.mod_eq_of_lt hx, Nat.mod_eq_of_lt (by omega), hl, IntKind.wrap_u64]
  have : 2 ^ t ≤ x := by rw [← hl]; exact Nat.and_le_left
  omega
end Go.Proofs.YtaikapgpkkpdjaaDoor.L
