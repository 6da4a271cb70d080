/- Latches and the document's row: the plain part. -/
import Derived.Test.YtmgbpndbnfemeaaM3
import Derived.Test.YtmgbpndbnfemeaaL6
namespace Go.Proofs.Ytmgbpndbnfemeaa.L
open Go.ChangeShapes Go.WideShapes Go.ChangeAt Go.RowKit Go.Maps Go.Proofs.Ytmgbpndbnfemeaa.G
set_option linter.unusedVariables false
set_option linter.unusedSimpArgs false

/-- the map of holders and the document's row say the same -/
structure SameN (n : Nat) (l : Holds) (L : Nat → Int) : Prop where
  keys : ∀ p ∈ l, 0 ≤ p.1 ∧ p.1 < n ∧ ∃ k, p.2 = iv k ∧ 0 ≤ k
  at_ : ∀ p : Nat, p < n → (mget l p = none ∧ L p = -1) ∨ ∃ k, mget l p = some (iv k) ∧ 0 ≤ k ∧ L p = k

variable {n : Nat} {l : Holds} {L : Nat → Int}

theorem SameN.nums (h : SameN n l L) : Nums l := fun p hp => let ⟨_, _, k, e, _⟩ := h.keys p hp; ⟨k, e⟩
theorem SameN.i64 (h : SameN n l L) (hn : n ≤ 4096) : ∀ p ∈ l, I64 p.1 := fun p hp => by have := h.keys p hp; unfold I64; omega
theorem sameN_nil (n : Nat) : SameN n [] (fun _ => -1) := ⟨(fun p hp => by cases hp), (fun p _ => .inl ⟨rfl, rfl⟩)⟩

theorem may_eq (n : Nat) (p w : Int) : mayE n p w = if rbad n p w then 2 else 0 := rfl

/-- a page in range, as the map has it -/
theorem SameN.look (h : SameN n l L) (p : Int) (h0 : 0 ≤ p) (h1 : p < n) : (mget l p = none ∧ L p.toNat = -1) ∨ ∃ k, mget l p = some (iv k) ∧ 0 ≤ k ∧ L p.toNat = k := by
  have := h.at_ p.toNat (by omega)
  rwa [show ((p.toNat : Nat) : Int) = p by omega] at this
theorem SameN.out (h : SameN n l L) (p : Int) (ho : p < 0 ∨ (n : Int) ≤ p) : mget l p = none := by
  cases e : mget l p with
  | none => rfl
  | some v => have := h.keys _ (mem_of_look e); simp only at this; omega

theorem SameN.takeE_eq (h : SameN n l L) (p w : Int) : takeE n p w l = rtakeE n L p w := by
  unfold takeE rtakeE
  by_cases hb : rbad n p w
  · have e2 : mayE n p w = 2 := if_pos hb
    rw [if_pos e2, if_pos hb]
  · have e2 : mayE n p w = 0 := if_neg hb
    rw [if_neg (by rw [e2]; decide), if_neg hb]
    unfold rbad at hb
    rcases h.look p (by omega) (by omega) with ⟨e, e'⟩ | ⟨k, e, k0, e'⟩
    · rw [e, e', if_neg (by omega), if_neg (by omega)]
    · rw [e, e']
      simp only [iv]
      by_cases hk : k = w
      · rw [if_pos hk, if_pos hk]
      · rw [if_neg hk, if_neg hk, if_pos k0]
theorem SameN.dropE_eq (h : SameN n l L) (p w : Int) : dropE n p w l = rdropE n L p w := by
  unfold dropE rdropE
  by_cases hb : rbad n p w
  · have e2 : mayE n p w = 2 := if_pos hb
    rw [if_pos e2, if_pos hb]
  · have e2 : mayE n p w = 0 := if_neg hb
    rw [if_neg (by rw [e2]; decide), if_neg hb]
    unfold rbad at hb
    rcases h.look p (by omega) (by omega) with ⟨e, e'⟩ | ⟨k, e, k0, e'⟩
    · rw [e, e', if_pos (by omega)]
    · rw [e, e']
      simp only [iv]
      by_cases hk : k = w
      · rw [if_pos hk, if_neg (by omega)]
      · rw [if_neg hk, if_pos hk]

theorem takeE_bad (p w : Int) (h : rtakeE n L p w = 0) : 0 ≤ p ∧ p < n ∧ 0 ≤ w := by
  unfold rtakeE at h
  by_cases hb : rbad n p w
  · rw [if_pos hb] at h; cases h
  · unfold rbad at hb; omega
theorem dropE_bad (p w : Int) (h : rdropE n L p w = 0) : 0 ≤ p ∧ p < n ∧ 0 ≤ w := by
  unfold rdropE at h
  by_cases hb : rbad n p w
  · rw [if_pos hb] at h; cases h
  · unfold rbad at hb; omega

theorem SameN.take (h : SameN n l L) (p w : Int) : SameN n (takeL n p w l) (rtakeL n L p w) := by
  unfold takeL rtakeL
  rw [h.takeE_eq]
  by_cases h0 : rtakeE n L p w = 0
  · rw [if_pos h0, if_pos h0]
    obtain ⟨p0, p1, w0⟩ := takeE_bad p w h0
    refine ⟨fun q hq => ?_, fun i hi => ?_⟩
    · rcases mem_mput hq with rfl | hq
      · exact ⟨p0, p1, w, rfl, w0⟩
      · exact h.keys q hq
    · rw [look_put]
      by_cases e : i = p.toNat
      · have e' : (i : Int) = p := by omega
        rw [if_pos e']
        exact .inr ⟨w, rfl, w0, if_pos e⟩
      · have e' : ¬ (i : Int) = p := by omega
        rw [if_neg e']
        simp only [if_neg e]
        exact h.at_ i hi
  · rw [if_neg h0, if_neg h0]; exact h
theorem SameN.drop (h : SameN n l L) (p w : Int) : SameN n (dropL n p w l) (rdropL n L p w) := by
  unfold dropL rdropL
  rw [h.dropE_eq]
  by_cases h0 : rdropE n L p w = 0
  · rw [if_pos h0, if_pos h0]
    obtain ⟨p0, p1, w0⟩ := dropE_bad p w h0
    refine ⟨fun q hq => h.keys q (List.mem_filter.1 hq).1, fun i hi => ?_⟩
    rw [look_del]
    by_cases e : i = p.toNat
    · have e' : (i : Int) = p := by omega
      rw [if_pos e']
      exact .inl ⟨rfl, if_pos e⟩
    · have e' : ¬ (i : Int) = p := by omega
      rw [if_neg e']
      simp only [if_neg e]
      exact h.at_ i hi
  · rw [if_neg h0, if_neg h0]; exact h

theorem SameN.who (h : SameN n l L) (p : Int) : (mget l p).getD (iv 0) = iv (max (rwho n L p) 0) ∧ (mget l p).isSome = decide (0 ≤ rwho n L p) := by
  unfold rwho
  by_cases ho : p < 0 ∨ (n : Int) ≤ p
  · rw [if_pos ho, h.out p ho]; exact ⟨rfl, rfl⟩
  · rw [if_neg ho]
    rcases h.look p (by omega) (by omega) with ⟨e, e'⟩ | ⟨k, e, k0, e'⟩
    · rw [e, e']; exact ⟨rfl, rfl⟩
    · rw [e, e', Int.max_eq_left k0]
      exact ⟨rfl, by simp [k0]⟩

theorem SameN.busy (h : SameN n l L) (w p : Int) : busy l w p = rbusy n L w p := by
  unfold Go.Proofs.Ytmgbpndbnfemeaa.L.busy rbusy rwho
  by_cases ho : p < 0 ∨ (n : Int) ≤ p
  · rw [if_pos ho, h.out p ho]; rfl
  · rw [if_neg ho]
    rcases h.look p (by omega) (by omega) with ⟨e, e'⟩ | ⟨k, e, k0, e'⟩
    · rw [e, e']; rfl
    · rw [e, e']; simp [iv, k0]

/-- the keys, in order, are the pages that the row tells -/
def told (n : Nat) (L : Nat → Int) : List Int := ((List.range n).filter fun i => decide (0 ≤ L i)).map (fun i : Nat => (i : Int))
theorem SameN.perm (h : SameN n l L) (hnd : (l.map (·.1)).Nodup) : (told n L).Perm (l.map (·.1)) := by
  refine (List.perm_ext_iff_of_nodup ?_ hnd).2 fun x => ?_
  · exact List.Pairwise.map _ (fun a b (hab : a ≠ b) e => hab (by omega)) (List.nodup_range.filter _)
  · unfold told
    rw [mem_keys, List.mem_map]
    constructor
    · rintro ⟨i, hi, rfl⟩
      obtain ⟨i1, i2⟩ := List.mem_filter.1 hi
      rcases h.at_ i (by simpa using i1) with ⟨_, e⟩ | ⟨k, e, _⟩
      · rw [e] at i2; simp at i2
      · rw [e]; rfl
    · intro hs
      cases e : mget l x with
      | none => rw [e] at hs; cases hs
      | some v =>
        obtain ⟨a, b, _⟩ := h.keys _ (mem_of_look e)
        simp only at a b
        refine ⟨x.toNat, List.mem_filter.2 ⟨by simp; omega, ?_⟩, by omega⟩
        rcases h.look x a b with ⟨e', _⟩ | ⟨k, e', k0, hH⟩
        · rw [e] at e'; cases e'
        · simp; omega
theorem SameN.len (h : SameN n l L) (hnd : (l.map (·.1)).Nodup) : l.length ≤ n := by
  have := (h.perm hnd).length_eq
  rw [List.length_map] at this
  rw [← this]
  unfold told
  rw [List.length_map]
  exact Nat.le_trans (List.length_filter_le _ _) (by simp)
theorem SameN.keysL_eq (h : SameN n l L) (hnd : (l.map (·.1)).Nodup) : keysL l = told n L := by
  have hp : (keysL l).Perm (told n L) := (List.mergeSort_perm _ _).trans (h.perm hnd).symm
  have h1 : (keysL l).Pairwise (fun x y => x ≤ y) := by
    have := List.pairwise_mergeSort (le := fun x y : Int => decide (x ≤ y)) (fun a b c => by simp; omega) (fun a b => by simp; omega) (l.map (·.1))
    exact this.imp (fun h => by simpa using h)
  have h2 : (told n L).Pairwise (fun x y => x ≤ y) := by
    unfold told
    refine List.Pairwise.map _ (fun a b (hab : a < b) => ?_) ((List.pairwise_lt_range).filter _)
    show (a : Int) ≤ b
    omega
  exact hp.eq_of_pairwise (le := fun x y : Int => x ≤ y) (fun a b _ _ h1 h2 => by omega) h1 h2
theorem SameN.held_eq (h : SameN n l L) (hnd : (l.map (·.1)).Nodup) (w : Int) : heldL l w = rheld n L w := by
  unfold heldL rheld
  rw [h.keysL_eq hnd]
  unfold told
  rw [List.filter_map, List.filter_filter]
  by_cases hw : 0 ≤ w
  · rw [if_pos hw]
    congr 1
    refine List.filter_congr fun i hi => ?_
    simp only [Function.comp]
    rcases h.at_ i (by simpa using hi) with ⟨e, e'⟩ | ⟨k, e, k0, e'⟩
    · unfold isOf; rw [e, e']; simp; omega
    · unfold isOf; rw [e, e']; simp [iv, k0]; rw [Bool.eq_iff_iff]; simp
  · rw [if_neg hw]
    rw [List.map_eq_nil_iff, List.filter_eq_nil_iff]
    intro i hi
    rcases h.at_ i (by simpa using hi) with ⟨e, e'⟩ | ⟨k, e, k0, e'⟩
    · simp [e']
    · unfold isOf
      simp only [Function.comp, e, e', iv]
      simp
      omega

end Go.Proofs.Ytmgbpndbnfemeaa.L
