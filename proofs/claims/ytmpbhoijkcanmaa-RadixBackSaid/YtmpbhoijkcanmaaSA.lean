/- Radix: alive: the plain law. -/
import Derived.Test.YtmpbhoijkcanmaaRZ
namespace Go.Proofs.Ytmpbhoijkcanmaa.R
open Go.ChangeShapes Go.WideShapes Go.ChangeAt Go.RowKit Go.Maps Go.Proofs.Ytmpbhoijkcanmaa.G
set_option linter.unusedVariables false
set_option linter.unusedSimpArgs false
set_option linter.unnecessarySimpa false

def ent (n : Int) : Ent := ⟨⟨n, 0, 0⟩, n⟩
theorem ent_ok1 : (ent 1).ok := by unfold ent Ent.ok Slot.ok I64; decide
theorem ent_ok2 : (ent 2).ok := by unfold ent Ent.ok Slot.ok I64; decide
def vA : Fo × Nat := setF fo0 0 5 (.set 0 (ent 1))
def vB : Fo × Nat := setF vA.1 3 6 (.set 0 (ent 2))
theorem vA_is : SetIs fo0 0 0 5 (.set 0 (ent 1)) vA := setF_is fo0_ok (by omega) (.inl rfl) (by omega) _ ent_ok1
theorem vA_2 : vA.2 = 3 := by decide +kernel
theorem vA_len : vA.1.ids.length = 3 := by decide +kernel
theorem vA_b : isB vA.1 (3 : Nat) = true := by decide +kernel
theorem vB_is : SetIs vA.1 3 3 6 (.set 0 (ent 2)) vB := setF_is vA_is.ok (by omega) (vA_is.ok.inv.root vA_b) (by omega) _ ent_ok2
theorem vB_2 : vB.2 = 6 := by decide +kernel
theorem vB_ids : vB.1.ids = [1, 2, 3, 4, 5, 6] := by decide +kernel
theorem vB_b6 : isB vB.1 (6 : Nat) = true := by decide +kernel
theorem vB_b3 : isB vB.1 (3 : Nat) = true := by decide +kernel
theorem vB_held : cnt vB.1.held 1 = 0 ∧ cnt vB.1.held 2 = 0 ∧ cnt vB.1.held 3 = 1 ∧ cnt vB.1.held 6 = 1 := by decide +kernel
theorem vB_kids : (vB.1.nd 6).kids 0 = 5 ∧ (vB.1.nd 5).kids 0 = 4 ∧ ∀ m, m ∈ [1, 2, 3, 4, 5, 6] → ∀ q, q < 16 → (vB.1.nd m).kids q ≠ 3 ∧ ((vB.1.nd m).kids q = 2 → m = 3) ∧ ((vB.1.nd m).kids q = 1 → m = 2) := by decide +kernel
theorem vB_ents : (vB.1.nd 4).bits.testBit 5 = true ∧ ((vB.1.nd 4).ents 5).s = ⟨1, 0, 0⟩ ∧ (vB.1.nd 4).bits.testBit 6 = true ∧ ((vB.1.nd 4).ents 6).s = ⟨2, 0, 0⟩ ∧ ∀ m, m ∈ [1, 2, 3, 4, 5, 6] → ∀ q, q < 16 → (vB.1.nd m).bits.testBit q = true → ((vB.1.nd m).ents q).s = ⟨1, 0, 0⟩ ∨ ((vB.1.nd m).ents q).s = ⟨2, 0, 0⟩ := by decide +kernel
theorem vB_get (q : Nat) (hq : q < 4096) : getL 2 vB.1 6 q = if q = 6 then some (ent 2) else if q = 5 then some (ent 1) else none := by
  have h1 := vB_is.get q hq
  have h2 := vA_is.get q hq
  rw [vB_2] at h1
  rw [vA_2] at h2
  rw [h1, h2, getL_zero]
  rfl
variable {G : Fo} {ys : List Slot}
theorem vG_mem (h : DropIs vB.1 6 3 G ys) (i : Nat) : i ∈ G.ids ↔ i ∈ [4, 5, 6] := by
  have hk := vB_kids
  have hh := vB_held
  have e := h.ext
  have hi := vB_ids
  have m6 : 6 ∈ G.ids := h.ok.root (by
    have := h.held ((6 : Nat) : Int)
    rw [if_neg (by decide)] at this
    have h6 : cnt vB.1.held ((6 : Nat) : Int) = 1 := hh.2.2.2
    omega)
  have kid : ∀ m, m ∈ G.ids → ∀ q, q < 16 → (vB.1.nd m).kids q ≠ 0 → (vB.1.nd m).kids q ∈ G.ids := fun m hm q hq h0 => by
    have := h.ok.kid hm hq
    rw [← e.kids m hm] at this
    exact this h0
  have m5 : 5 ∈ G.ids := by
    have := kid 6 m6 0 (by omega)
    rw [hk.1] at this
    exact this (by omega)
  have m4 : 4 ∈ G.ids := by
    have := kid 5 m5 0 (by omega)
    rw [hk.2.1] at this
    exact this (by omega)
  have reach : ∀ i, i ∈ G.ids → 0 < cnt G.held (i : Int) ∨ ∃ m, m ∈ G.ids ∧ ∃ q, q < 16 ∧ (vB.1.nd m).kids q = i := fun i hi => by
    rcases h.ok.reach hi with h' | ⟨m, hm, q, hq, h'⟩
    · exact .inl h'
    · exact .inr ⟨m, hm, q, hq, by rw [e.kids m hm]; exact h'⟩
  have inF : ∀ m, m ∈ G.ids → m ∈ [1, 2, 3, 4, 5, 6] := fun m hm => by rw [← hi]; exact e.mem m hm
  have n3 : 3 ∉ G.ids := fun h3 => by
    rcases reach 3 h3 with h' | ⟨m, hm, q, hq, h'⟩
    · have := h.held ((3 : Nat) : Int)
      rw [if_pos ⟨by decide, rfl⟩] at this
      have h6 : cnt vB.1.held ((3 : Nat) : Int) = 1 := hh.2.2.1
      omega
    · exact (hk.2.2 m (inF m hm) q hq).1 h'
  have n2 : 2 ∉ G.ids := fun h3 => by
    rcases reach 2 h3 with h' | ⟨m, hm, q, hq, h'⟩
    · have := h.held ((2 : Nat) : Int)
      rw [if_neg (by decide)] at this
      have h6 : cnt vB.1.held ((2 : Nat) : Int) = 0 := hh.2.1
      omega
    · have := (hk.2.2 m (inF m hm) q hq).2.1 h'
      exact n3 (this ▸ hm)
  have n1 : 1 ∉ G.ids := fun h3 => by
    rcases reach 1 h3 with h' | ⟨m, hm, q, hq, h'⟩
    · have := h.held ((1 : Nat) : Int)
      rw [if_neg (by decide)] at this
      have h6 : cnt vB.1.held ((1 : Nat) : Int) = 0 := hh.1
      omega
    · have := (hk.2.2 m (inF m hm) q hq).2.2 h'
      exact n2 (this ▸ hm)
  constructor
  · intro hm
    have := inF i hm
    simp only [List.mem_cons, List.not_mem_nil, or_false] at this ⊢
    rcases this with rfl | rfl | rfl | h' | h' | h'
    · exact absurd hm n1
    · exact absurd hm n2
    · exact absurd hm n3
    · exact .inl h'
    · exact .inr (.inl h')
    · exact .inr (.inr h')
  · intro hm
    simp only [List.mem_cons, List.not_mem_nil, or_false] at hm
    rcases hm with rfl | rfl | rfl
    · exact m4
    · exact m5
    · exact m6
theorem vG_len (h : DropIs vB.1 6 3 G ys) : G.ids.length = 3 := by
  have : G.ids.Perm [4, 5, 6] := (List.perm_ext_iff_of_nodup h.ok.inv.nd (by decide)).2 fun i => vG_mem h i
  rw [this.length_eq]; rfl
theorem vG_slot (h : DropIs vB.1 6 3 G ys) (s : Slot) : HasS G s ↔ s = ⟨1, 0, 0⟩ ∨ s = ⟨2, 0, 0⟩ := by
  have he := vB_ents
  have e := h.ext
  constructor
  · intro hs
    obtain ⟨m, hm, q, hq, hb, rfl⟩ := HasS.ent h.ok hs
    rw [← e.bits m hm] at hb
    have hmm : m ∈ [1, 2, 3, 4, 5, 6] := by rw [← vB_ids]; exact e.mem m hm
    have := he.2.2.2.2 m hmm q hq hb
    rw [e.ents m hm] at this
    exact this
  · have m4 := (vG_mem h 4).2 (by simp)
    rintro (rfl | rfl)
    · have := HasS.of h.ok (m := 4) (q := 5) m4 (by omega) (by rw [← e.bits 4 m4]; exact he.1)
      rw [← e.ents 4 m4, he.2.1] at this
      exact this
    · have := HasS.of h.ok (m := 4) (q := 6) m4 (by omega) (by rw [← e.bits 4 m4]; exact he.2.2.1)
      rw [← e.ents 4 m4, he.2.2.2.1] at this
      exact this
theorem vB_slot (s : Slot) (hs : HasS vB.1 s) : s = ⟨1, 0, 0⟩ ∨ s = ⟨2, 0, 0⟩ := by
  obtain ⟨m, hm, q, hq, hb, rfl⟩ := HasS.ent vB_is.ok hs
  rw [vB_ids] at hm
  exact vB_ents.2.2.2.2 m hm q hq hb
theorem vG_gone (h : DropIs vB.1 6 3 G ys) : ys = [] := by
  rcases ys with _ | ⟨y, ys⟩
  · rfl
  · have := (h.gone.mem y).1 List.mem_cons_self
    exact absurd ((vG_slot h y).2 (vB_slot y this.1)) this.2
theorem vG_slots (h : DropIs vB.1 6 3 G ys) {zs : List Slot} (hz : SlotsIs (HasS G) zs) : zs.length = 2 := by
  have : zs.Perm [⟨1, 0, 0⟩, ⟨2, 0, 0⟩] := (List.perm_ext_iff_of_nodup hz.nodup (by decide)).2 fun s => by
    rw [hz.mem, vG_slot h]; simp
  rw [this.length_eq]; rfl
theorem vG_b6 (h : DropIs vB.1 6 3 G ys) : isB G (6 : Nat) = true := by
  rw [isB_iff]
  right
  have := h.held ((6 : Nat) : Int)
  rw [if_neg (by decide)] at this
  have h6 : cnt vB.1.held ((6 : Nat) : Int) = 1 := vB_held.2.2.2
  omega
theorem vG_b3 (h : DropIs vB.1 6 3 G ys) : isB G 3 = false := by
  have := h.held ((3 : Nat) : Int)
  rw [if_pos ⟨by decide, rfl⟩] at this
  have h6 : cnt vB.1.held ((3 : Nat) : Int) = 1 := vB_held.2.2.1
  have h0 : cnt G.held 3 = 0 := by
    have : cnt G.held ((3 : Nat) : Int) = 0 := by omega
    exact this
  unfold isB
  rw [h0]
  rfl
theorem allL_congr {f g : Nat → Option Ent} (n : Nat) (h : ∀ q, q < n → f q = g q) : allL f n = allL g n := by
  induction n with
  | zero => rfl
  | succ n ih => rw [allL_succ, allL_succ, ih fun q hq => h q (by omega), h n (by omega)]
theorem vG_all (h : DropIs vB.1 6 3 G ys) : (allL (getL 2 G 6) 4096).length = 2 := by
  rw [allL_congr (g := fun q => if q = 6 then some (ent 2) else if q = 5 then some (ent 1) else none) 4096 fun q hq => by
    rw [← vB_get q hq, ← getL_sub h.ok h.ext (.inr ((vG_mem h 6).2 (by simp)))]]
  decide +kernel
end Go.Proofs.Ytmpbhoijkcanmaa.R
