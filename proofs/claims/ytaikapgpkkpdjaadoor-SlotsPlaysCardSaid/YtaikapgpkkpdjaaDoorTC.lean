/- Slots: all is as it was at first: the plain law. -/
import Derived.Test.YtaikapgpkkpdjaaDoorTB
namespace Go.Proofs.YtaikapgpkkpdjaaDoor.L
open Go.ChangeShapes Go.WideShapes Go.ChangeAt Go.RowKit Go.Maps Go.Proofs.YtaikapgpkkpdjaaDoor.G Go.Sort Go.Shelf Go.Lib Go.Deep
set_option linter.unusedVariables false
set_option linter.unusedSimpArgs false

theorem mem_canonJ {so : Value → Bool} {n : Nat} {ex : Exts} {l : States} (hI : SInv n ex l) {x : Slot} : x ∈ canon so n ex l ↔ ∃ v, mget l x = some v ∧ so v = true := by
  rw [← (canon_perm hI).mem_iff]
  unfold pick
  simp only [List.mem_map, List.mem_filter]
  constructor
  · rintro ⟨p, ⟨hp, hso⟩, rfl⟩
    exact ⟨p.2, look_of_mem hI.nd hp, hso⟩
  · rintro ⟨v, e, h⟩
    exact ⟨_, ⟨mem_of_look e, h⟩, rfl⟩
theorem canonNd (so : Value → Bool) (n : Nat) (ex : Exts) (l : States) : (canon so n ex l).Nodup := lt_nodup (canon_lt so n ex l)
theorem canon_i64 {so : Value → Bool} {n : Nat} {ex : Exts} {l : States} (hI : SInv n ex l) (hn : n ≤ 16384) {x : Slot} (hx : x ∈ canon so n ex l) : I64 x.e ∧ I64 x.c ∧ I64 x.i := by
  obtain ⟨v, hv, _⟩ := (mem_canonJ hI).1 hx
  exact (hI.stated hn _ (mem_of_look hv)).1
theorem canon_few {so : Value → Bool} {n : Nat} {ex : Exts} {l : States} (hI : SInv n ex l) (hn : n ≤ 16384) : (canon so n ex l).length ≤ 1048576 := by
  rw [← (canon_perm hI).length_eq]
  have := pick_len so l
  have := hI.few
  omega
theorem canon_same {so so' : Value → Bool} (n : Nat) (ex : Exts) {l : States} (h : ∀ x v, mget l x = some v → so v = so' v) : canon so n ex l = canon so' n ex l := by
  unfold canon
  congr 1
  funext i
  congr 1
  apply List.filter_congr
  intro k _
  cases e : mget l ⟨i, (ex i).1 - 1, k⟩ with
  | none => rfl
  | some v => exact h _ _ e

/-- the epochs that are kept are numbers of 64 bits -/
def EpB (l : States) : Prop := ∀ x v, mget l x = some v → epochAt v < 2 ^ 64
theorem EpB.nil : EpB [] := fun x v h => by cases h
theorem EpB.take {l : States} (h : EpB l) (n : Nat) (ex : Exts) (c : Int) : EpB (takeR n ex l c).l := by
  unfold takeR
  split
  · exact h
  · cases takeAt n ex c with
    | none => exact h
    | some k =>
      intro x v hv
      simp only at hv
      rw [look_put] at hv
      split at hv
      · simp only [Option.some.injEq] at hv; rw [← hv]; decide
      · exact h x v hv
theorem EpB.put {l : States} (h : EpB l) (x : Slot) (ep : Nat) (he : ep < 2 ^ 64) (b : Bool) : EpB (mput l x (encT b ep)) := by
  intro y v hv
  rw [look_put] at hv
  split at hv
  · simp only [Option.some.injEq] at hv; rw [← hv, epochAt_enc]; exact he
  · exact h y v hv
theorem EpB.drop {l : States} (h : EpB l) (x : Slot) (ep : Nat) (he : ep < 2 ^ 64) : EpB (dropR l x ep).2 := by
  unfold dropR
  cases mget l x with
  | none => exact h
  | some v =>
    simp only
    split
    · exact h
    · exact h.put x ep he true
theorem EpB.due {n : Nat} {ex : Exts} {l : States} (h : EpB l) (hI : SInv n ex l) {ys : List Slot} (hn : ys.Nodup) (hm : ∀ x ∈ ys, (mget l x).isSome = true) : EpB (lD l ys) := by
  intro x v hv
  rw [(due_inv ys hI hn hm).2 x] at hv
  split at hv
  · cases hv
  · exact h x v hv

/-! ### the same extents -/
theorem KeyOk.congr {n : Nat} {ex ex' : Exts} (h : ∀ i, i < n → ex i = ex' i) {x : Slot} (hk : KeyOk n ex x) : KeyOk n ex' x := by
  obtain ⟨k1, k2, k3, k4⟩ := hk
  refine ⟨k1, k2, k3, ?_⟩
  rw [← h _ (by omega)]
  exact k4
theorem SInv.congr {n : Nat} {ex ex' : Exts} {l : States} (hI : SInv n ex l) (h : ∀ i, i < n → ex i = ex' i) : SInv n ex' l :=
  ⟨hI.nd, fun p hp => ⟨(hI.keys p hp).1.congr h, (hI.keys p hp).2⟩, fun i hi k hk => by rw [← h i hi] at hk ⊢; exact hI.bits i hi k hk, fun i hi => by rw [← h i hi]; exact hI.free i hi, fun i hi => by rw [← h i hi]; exact hI.fit i hi⟩
theorem St.congr {w : World} {bs be bm n : Nat} {pg : Int} {ex ex' : Exts} {l : States} (hs : St w bs be bm n pg ex l) (h : ∀ i, i < n → ex i = ex' i) : St w bs be bm n pg ex' l := by
  have ha := hs.at_
  refine ⟨⟨ha.page, ha.exts, ha.states, ⟨ha.rows.row.congr fun j hj => ?_, fun i hi => by rw [← h i hi]; exact ha.rows.fit i hi, ha.rows.few⟩, ha.map, ha.tab, ha.n1, ha.n2, ha.n3, ha.z1, ha.z2⟩, hs.inv.congr h, hs.pg⟩
  unfold cellX
  rw [h (j / 2) (by omega)]
theorem nil_of_look {l : States} (h : ∀ x, mget l x = none) : l = [] := by
  cases l with
  | nil => rfl
  | cons p l => have := h p.1; rw [G.look_cons, if_pos rfl] at this; cases this
theorem SInv.ex_nil {n : Nat} {ex : Exts} (hI : SInv n ex []) : ∀ i, i < n → ex i = ex0 i := by
  intro i hi
  have h2 : (ex i).2 = 0 := by
    apply Nat.eq_of_testBit_eq
    intro k
    rw [Nat.zero_testBit]
    cases e : (ex i).2.testBit k with
    | false => rfl
    | true => have := hI.bits i hi k e; cases this
  have h1 := (hI.free i hi).2 h2
  show ex i = (0, 0)
  rw [← h1, ← h2]

/-! ### all that live are dropped -/
/-- behind i drops -/
structure Dropped (l : States) (ys : List Slot) (i : Nat) (li : States) : Prop where
  old : ∀ x, x ∉ ys.take i → mget li x = mget l x
  new : ∀ x, x ∈ ys.take i → ∃ e, mget li x = some (encT true e)
theorem Dropped.zero (l : States) (ys : List Slot) : Dropped l ys 0 l := ⟨fun x _ => rfl, fun x hx => by simp at hx⟩
theorem Dropped.step {n : Nat} {ex : Exts} {l li : States} (hI : SInv n ex l) {i : Nat} (h : Dropped l (canon liveV n ex l) i li) (hi : i < (canon liveV n ex l).length) (ep : Nat) :
    dropR li (canon liveV n ex l)[i] ep = (0, mput li (canon liveV n ex l)[i] (encT true ep)) ∧ Dropped l (canon liveV n ex l) (i + 1) (mput li (canon liveV n ex l)[i] (encT true ep)) := by
  have hnd := canonNd liveV n ex l
  generalize hy : canon liveV n ex l = ys at *
  have hm : ys[i] ∈ canon liveV n ex l := by rw [hy]; exact List.getElem_mem hi
  obtain ⟨v, hv, hl⟩ := (mem_canonJ hI).1 hm
  have hnot : ys[i] ∉ ys.take i := by
    intro hc
    obtain ⟨j, hj, e⟩ := List.getElem_of_mem hc
    rw [List.length_take] at hj
    rw [List.getElem_take] at e
    have := (List.getElem_inj hnd).1 e
    omega
  obtain ⟨_, b, e, rfl⟩ := hI.key hv
  have hb : b = false := by unfold liveV at hl; rw [boolAt_enc] at hl; simpa using hl
  subst hb
  have hli := h.old _ hnot
  rw [hv] at hli
  refine ⟨by unfold dropR; rw [hli]; rfl, ⟨fun x hx => ?_, fun x hx => ?_⟩⟩
  · rw [take_snoc ys i hi] at hx
    simp only [List.mem_append, List.mem_singleton, not_or] at hx
    rw [look_put, if_neg hx.2]
    exact h.old x hx.1
  · rw [take_snoc ys i hi] at hx
    rw [look_put]
    by_cases e' : x = ys[i]
    · exact ⟨ep, if_pos e'⟩
    · rw [if_neg e']
      simp only [List.mem_append, List.mem_singleton] at hx
      rcases hx with h' | h'
      · exact h.new x h'
      · exact absurd h' e'
/-- then none lives -/
theorem Dropped.all {n : Nat} {ex : Exts} {l li : States} (hI : SInv n ex l) (h : Dropped l (canon liveV n ex l) (canon liveV n ex l).length li) : ∀ x v, mget li x = some v → waitV v = true := by
  intro x v hv
  by_cases hx : x ∈ canon liveV n ex l
  · obtain ⟨e, he⟩ := h.new x (by rw [List.take_length]; exact hx)
    rw [hv] at he
    simp only [Option.some.injEq] at he
    rw [he]; rfl
  · have := h.old x (by rw [List.take_length]; exact hx)
    rw [hv] at this
    have hk := this.symm
    cases hw : waitV v with
    | true => rfl
    | false =>
      exfalso
      exact hx ((mem_canonJ hI).2 ⟨v, hk, by unfold liveV; unfold waitV at hw; rw [hw]; rfl⟩)
theorem all_due {n : Nat} (ex : Exts) {li : States} (h : ∀ x v, mget li x = some v → waitV v = true) (hE : EpB li) : canon (dueV 18446744073709551615) n ex li = canon waitV n ex li := by
  apply canon_same
  intro x v hv
  have h1 := h x v hv
  have h2 := hE x v hv
  unfold dueV
  unfold waitV at h1 ⊢
  rw [h1]
  simp
  omega
/-- behind all that: nothing is there -/
theorem all_gone {n : Nat} {ex : Exts} {li : States} (hI : SInv n ex li) (h : ∀ x v, mget li x = some v → waitV v = true) : lD li (canon waitV n ex li) = [] ∧ ∀ i, i < n → exD ex (canon waitV n ex li) i = ex0 i := by
  have hm : ∀ x ∈ canon waitV n ex li, (mget li x).isSome = true := fun x hx => by
    obtain ⟨v, hv, _⟩ := (mem_canonJ hI).1 hx
    rw [hv]; rfl
  obtain ⟨a, b⟩ := due_inv _ hI (canonNd waitV n ex li) hm
  have hn : lD li (canon waitV n ex li) = [] := by
    apply nil_of_look
    intro x
    rw [b x]
    split
    · rfl
    · rename_i hx
      cases e : mget li x with
      | none => rfl
      | some v => exact absurd ((mem_canonJ hI).2 ⟨v, e, h x v e⟩) hx
  rw [hn] at a
  exact ⟨hn, a.ex_nil⟩
end Go.Proofs.YtaikapgpkkpdjaaDoor.L
