/- Slots: the plain law of SlotsWait: one class, some slots taken, one dropped. -/
import Derived.Test.YtaikapgpkkpdjaaDoorSV
namespace Go.Proofs.YtaikapgpkkpdjaaDoor.L
open Go.ChangeShapes Go.WideShapes Go.ChangeAt Go.RowKit Go.Maps Go.Proofs.YtaikapgpkkpdjaaDoor.G Go.Sort Go.Shelf Go.Lib
set_option linter.unusedVariables false
set_option linter.unusedSimpArgs false

theorem freeI_eq {u t : Nat} (hu : u < 2 ^ 64) (ht : t < 64) (h0 : u.testBit t = false) (h1 : ∀ i, i < t → u.testBit i = true) : freeI u = t := by
  rcases freeI_spec u hu with ⟨e, h⟩ | ⟨h2, h3, h4⟩
  · exfalso
    rw [e, Nat.testBit_two_pow_sub_one] at h0
    simp at h0
    omega
  · rcases Nat.lt_trichotomy (freeI u) t with h | h | h
    · rw [h1 _ h] at h3; cases h3
    · exact h
    · rw [h4 _ h] at h0; cases h0
theorem ones_lt (i : Nat) (h : i ≤ 64) : 2 ^ i - 1 < 2 ^ 64 := by
  have : 2 ^ i ≤ 2 ^ 64 := Nat.pow_le_pow_right (by omega) h
  have : 0 < 2 ^ i := Nat.two_pow_pos i
  omega
theorem freeI_ones (i : Nat) (h : i ≤ 64) : freeI (2 ^ i - 1) = i := by
  by_cases h64 : i = 64
  · subst h64; exact least_zero
  · refine freeI_eq (ones_lt i h) (by omega) ?_ ?_
    · rw [Nat.testBit_two_pow_sub_one]; simp
    · intro j hj; rw [Nat.testBit_two_pow_sub_one]; simpa using hj
theorem ones_or (i : Nat) : (2 ^ i - 1) ||| 2 ^ i = 2 ^ (i + 1) - 1 := by
  apply Nat.eq_of_testBit_eq
  intro j
  rw [or_testBit, Nat.testBit_two_pow_sub_one, Nat.testBit_two_pow_sub_one]
  rw [Bool.eq_iff_iff]
  simp
  omega
theorem ones_ne (i : Nat) (h : 0 < i) : 2 ^ i - 1 ≠ 0 := by
  have : 2 ^ 1 ≤ 2 ^ i := Nat.pow_le_pow_right (by omega) h
  omega

/-- behind i takes of class k -/
def exW (k : Int) (i : Nat) : Exts := if i = 0 then ex0 else upd ex0 0 (k + 1, 2 ^ i - 1)
def lW (k : Int) (i : Nat) : States := (List.range i).map fun (j : Nat) => (⟨0, k, j⟩, encT false 0)
theorem exW_succ (k : Int) (i : Nat) : exW k (i + 1) 0 = (k + 1, 2 ^ (i + 1) - 1) := by unfold exW; rw [if_neg (by omega), upd_same]
theorem look_lW (k : Int) (i : Nat) (x : Slot) : mget (lW k i) x = if x.e = 0 ∧ x.c = k ∧ 0 ≤ x.i ∧ x.i < i then some (encT false 0) else none := by
  induction i with
  | zero => rw [if_neg (by omega)]; rfl
  | succ i ih =>
    unfold lW at *
    rw [List.range_succ, List.map_append, look_append, ih]
    by_cases h : x.e = 0 ∧ x.c = k ∧ 0 ≤ x.i ∧ x.i < i
    · rw [if_pos h, if_pos (by omega)]; rfl
    · rw [if_neg h]
      simp only [List.map_cons, List.map_nil, Option.none_or]
      rw [G.look_cons, G.look_nil]
      by_cases h2 : x.e = 0 ∧ x.c = k ∧ x.i = i
      · rw [if_pos (by cases x; simp only at h2; simp [h2]), if_pos (by omega)]
      · rw [if_neg (by intro e; rw [← e] at h2; simp at h2), if_neg (by omega)]
theorem take_stepL (k : Int) (hk : 0 ≤ k ∧ k ≤ 5) (i : Nat) (hi : (i : Int) < slotsC k) (l : States) : takeR 1 (exW k i) l k = ⟨⟨0, k, i⟩, 0, exW k (i + 1), mput l ⟨0, k, i⟩ (encT false 0)⟩ := by
  have hs := slotsC_le k
  have h64 : i < 64 := by omega
  have hf := freeI_ones i (by omega)
  have e0 : (exW k i 0).2 = 2 ^ i - 1 := by
    unfold exW
    split
    · rename_i h; subst h; rfl
    · rw [upd_same]
  have ha : takeAt 1 (exW k i) k = some 0 := by
    unfold takeAt
    have r1 : List.range 1 = [0] := rfl
    rw [r1, List.find?_cons, List.find?_cons]
    by_cases h : i = 0
    · have e1 : exW k i 0 = (0, 0) := by unfold exW; rw [if_pos h]; rfl
      have o : openX k (exW k i 0) = false := by rw [e1]; unfold openX; simp; omega
      rw [o, e1]; rfl
    · have e1 : exW k i 0 = (k + 1, 2 ^ i - 1) := by unfold exW; rw [if_neg h, upd_same]
      have o : openX k (exW k i 0) = true := by rw [e1]; unfold openX; rw [hf]; simp; omega
      rw [o]; rfl
  unfold takeR
  rw [if_neg (by omega), ha]
  simp only
  rw [e0, hf, ones_or]
  congr 1
  · unfold exW
    rw [if_neg (show ¬ i + 1 = 0 by omega)]
    split
    · rfl
    · rw [upd_upd]
theorem take_step (k : Int) (hk : 0 ≤ k ∧ k ≤ 5) (i : Nat) (hi : (i : Int) < slotsC k) : takeR 1 (exW k i) (lW k i) k = ⟨⟨0, k, i⟩, 0, exW k (i + 1), lW k (i + 1)⟩ := by
  rw [take_stepL k hk i hi]
  congr 1
  unfold mput
  rw [if_neg]
  · unfold lW
    rw [List.range_succ, List.map_append]
    rfl
  · rw [any_iff, look_lW, if_neg (by simp)]
    simp
theorem take_none (k : Int) (hk : 0 ≤ k ∧ k ≤ 5) (i : Nat) (h0 : 0 < i) (hi : slotsC k = (i : Int)) (l : States) : takeR 1 (exW k i) l k = ⟨zeroS, 4, exW k i, l⟩ := by
  have hs := slotsC_le k
  have hf := freeI_ones i (by omega)
  have e1 : exW k i 0 = (k + 1, 2 ^ i - 1) := by unfold exW; rw [if_neg (by omega), upd_same]
  have ha : takeAt 1 (exW k i) k = none := by
    unfold takeAt
    have r1 : List.range 1 = [0] := rfl
    rw [r1, List.find?_cons, List.find?_cons]
    have o : openX k (exW k i 0) = false := by rw [e1]; unfold openX; rw [hf]; simp; omega
    have z : ((exW k i 0).1 == 0) = false := by rw [e1]; simp; omega
    rw [o, z]; rfl
  unfold takeR
  rw [if_neg (by omega), ha]

theorem only_of {α : Type} {L : List α} {x : α} (hn : L.Nodup) (h : ∀ y, y ∈ L ↔ y = x) : L = [x] := by
  match L, hn, h with
  | [], _, h => exact absurd ((h x).2 rfl) (by simp)
  | [y], _, h => rw [(h y).1 (by simp)]
  | y :: z :: r, hn, h =>
    have e1 := (h y).1 (by simp)
    have e2 := (h z).1 (by simp)
    subst e1 e2
    simp at hn
theorem none_of {α : Type} {L : List α} (h : ∀ y, y ∉ L) : L = [] := List.eq_nil_iff_forall_not_mem.2 h

/-- one dropped -/
def lX (k : Int) (n : Nat) (i : Nat) (ep : Nat) : States := mput (lW k n) ⟨0, k, i⟩ (encT true ep)
theorem look_lX (k : Int) (n i ep : Nat) (x : Slot) : mget (lX k n i ep) x = if x = ⟨0, k, i⟩ then some (encT true ep) else mget (lW k n) x := look_put _ _ _ _
theorem drop1 (k : Int) (n i ep : Nat) (hi : i < n) : dropR (lW k n) ⟨0, k, i⟩ ep = (0, lX k n i ep) := by
  have : mget (lW k n) ⟨0, k, i⟩ = some (encT false 0) := by rw [look_lW, if_pos (by simp; omega)]
  unfold dropR
  rw [this]
  rfl
theorem drop2 (k : Int) (n i ep : Nat) : dropR (lX k n i ep) ⟨0, k, i⟩ ep = (3, lX k n i ep) := by
  have : mget (lX k n i ep) ⟨0, k, i⟩ = some (encT true ep) := by rw [look_lX, if_pos rfl]
  unfold dropR
  rw [this]
  rfl
theorem mem_canonI {so : Value → Bool} {n : Nat} {ex : Exts} {l : States} (hI : SInv n ex l) {x : Slot} : x ∈ canon so n ex l ↔ (mget l x).elim false so = true := by
  rw [← (canon_perm hI).mem_iff]
  unfold pick
  simp only [List.mem_map, List.mem_filter]
  constructor
  · rintro ⟨p, ⟨hp, hso⟩, rfl⟩
    rw [look_of_mem hI.nd hp]; exact hso
  · intro h
    cases e : mget l x with
    | none => rw [e] at h; cases h
    | some v => rw [e] at h; exact ⟨_, ⟨mem_of_look e, h⟩, rfl⟩
theorem canon_nodup (so : Value → Bool) (n : Nat) (ex : Exts) (l : States) : (canon so n ex l).Nodup := lt_nodup (canon_lt so n ex l)
theorem wait1 (k : Int) (n i ep : Nat) (hI : SInv 1 (exW k n) (lX k n i ep)) : canon waitV 1 (exW k n) (lX k n i ep) = [⟨0, k, i⟩] := by
  refine only_of (canon_nodup _ _ _ _) fun y => ?_
  rw [mem_canonI hI, look_lX]
  by_cases h : y = ⟨0, k, i⟩
  · rw [if_pos h]; simp [waitV, boolAt_enc, h]
  · rw [if_neg h, look_lW]
    split
    · simp [waitV, boolAt_enc, h]
    · simp [h]
theorem due1 (k : Int) (n i ep d : Nat) (hI : SInv 1 (exW k n) (lX k n i ep)) : canon (dueV d) 1 (exW k n) (lX k n i ep) = if ep ≤ d then [⟨0, k, i⟩] else [] := by
  split
  · rename_i hd
    refine only_of (canon_nodup _ _ _ _) fun y => ?_
    rw [mem_canonI hI, look_lX]
    by_cases h : y = ⟨0, k, i⟩
    · rw [if_pos h]; simp [dueV, boolAt_enc, epochAt_enc, h, hd]
    · rw [if_neg h, look_lW]
      split
      · simp [dueV, boolAt_enc, h]
      · simp [h]
  · rename_i hd
    refine none_of fun y => ?_
    rw [mem_canonI hI, look_lX]
    by_cases h : y = ⟨0, k, i⟩
    · rw [if_pos h]; simp [dueV, boolAt_enc, epochAt_enc, h, hd]
    · rw [if_neg h, look_lW]
      split
      · simp [dueV, boolAt_enc]
      · simp
theorem live_len (n : Nat) (ex : Exts) (l : States) (hI : SInv n ex l) : (canon liveV n ex l).length + (canon waitV n ex l).length = l.length := by
  rw [← (canon_perm hI).length_eq, ← (canon_perm hI).length_eq]
  unfold pick liveV waitV
  rw [List.length_map, List.length_map]
  clear hI
  induction l with
  | nil => rfl
  | cons p l ih =>
    rw [List.filter_cons, List.filter_cons]
    cases boolAt p.2
    · simp at ih ⊢; omega
    · simp at ih ⊢; omega
theorem lX_len (k : Int) (n i ep : Nat) (hi : i < n) : (lX k n i ep).length = n := by
  unfold lX mput
  rw [if_pos (by rw [any_iff, look_lW, if_pos (by simp; omega)]; rfl)]
  simp [lW]
/-- the last take -/
theorem take_back (k : Int) (hk : 0 ≤ k ∧ k ≤ 5) (n i ep : Nat) (hn : (n : Int) ≤ slotsC k) (hi : i < n) :
    ∃ ex l, takeR 1 (exD (exW k n) [⟨0, k, i⟩]) (lD (lX k n i ep) [⟨0, k, i⟩]) k = ⟨⟨0, k, i⟩, 0, ex, l⟩ := by
  have hs := slotsC_le k
  have hp := slotsC_pos k hk
  have e1 : exW k n 0 = (k + 1, 2 ^ n - 1) := by unfold exW; rw [if_neg (by omega), upd_same]
  have hu := ones_lt n (by omega)
  have hb := fun j => clr_bit (2 ^ n - 1) i j hu (by omega)
  obtain ⟨C, hC⟩ : ∃ C, clr (2 ^ n - 1) i = C := ⟨_, rfl⟩
  rw [hC] at hb
  have eD : exD (exW k n) [⟨0, k, i⟩] = upd (exW k n) 0 (if C = 0 then 0 else k + 1, C) := by
    show dropX (exW k n) ⟨0, k, i⟩ = _
    unfold dropX
    simp only [Int.toNat_zero, Int.toNat_natCast, e1, hC]
  have hC64 : C < 2 ^ 64 := by rw [← hC]; exact clr_lt _ _ hu
  have hCi : C.testBit i = false := by rw [hb]; simp
  have hCj : ∀ j, j < i → C.testBit j = true := by
    intro j hj
    rw [hb, Nat.testBit_two_pow_sub_one]
    simp; omega
  have hf : freeI C = i := freeI_eq hC64 (by omega) hCi hCj
  rw [eD]
  generalize lD (lX k n i ep) [⟨0, k, i⟩] = Y
  have ha : takeAt 1 (upd (exW k n) 0 (if C = 0 then 0 else k + 1, C)) k = some 0 := by
    unfold takeAt
    have r1 : List.range 1 = [0] := rfl
    rw [r1, List.find?_cons, List.find?_cons, upd_same]
    by_cases h0 : C = 0
    · rw [if_pos h0]
      have o : openX k (0, C) = false := by unfold openX; simp; omega
      rw [o]; rfl
    · rw [if_neg h0]
      have o : openX k (k + 1, C) = true := by unfold openX; rw [hf]; simp; omega
      rw [o]; rfl
  unfold takeR
  rw [if_neg (by omega), ha]
  simp only [upd_same]
  rw [hf]
  exact ⟨_, _, rfl⟩
end Go.Proofs.YtaikapgpkkpdjaaDoor.L
