/- Slots: the plain laws: what stands behind each call. -/
import Derived.Test.YtaikapgpkkpdjaaDoorSQ
namespace Go.Proofs.YtaikapgpkkpdjaaDoor.L
open Go.ChangeShapes Go.WideShapes Go.ChangeAt Go.RowKit Go.Maps Go.Proofs.YtaikapgpkkpdjaaDoor.G Go.Sort Go.Shelf Go.Lib
set_option linter.unusedVariables false
set_option linter.unusedSimpArgs false

def KeyOk (n : Nat) (ex : Exts) (x : Slot) : Prop :=
  (0 ≤ x.e ∧ x.e < n) ∧ (0 ≤ x.c ∧ x.c ≤ 5) ∧ (0 ≤ x.i ∧ x.i < slotsC x.c) ∧ (ex x.e.toNat).1 = x.c + 1 ∧ (ex x.e.toNat).2.testBit x.i.toNat = true
/-- slots as they are kept: each key's bit is set, each bit's slot is a key, an extent is free just if none of its bits is set -/
structure SInv (n : Nat) (ex : Exts) (l : States) : Prop where
  nd : (l.map (·.1)).Nodup
  keys : ∀ p ∈ l, KeyOk n ex p.1 ∧ ∃ b e, p.2 = encT b e
  bits : ∀ i, i < n → ∀ k, (ex i).2.testBit k = true → (mget l ⟨i, (ex i).1 - 1, k⟩).isSome = true
  free : ∀ i, i < n → ((ex i).1 = 0 ↔ (ex i).2 = 0)
  fit : FitX n ex

theorem slotsC_le (c : Int) : 0 ≤ slotsC c ∧ slotsC c ≤ 64 := by rcases slotsC_of c with h | h | h | h | h | h | h <;> omega
theorem slotsC_pos (c : Int) (h : 0 ≤ c ∧ c ≤ 5) : 3 ≤ slotsC c := by
  unfold slotsC
  repeat' split
  all_goals omega
theorem SInv.key {n : Nat} {ex : Exts} {l : States} (h : SInv n ex l) {x : Slot} {v : Value} (hx : mget l x = some v) : KeyOk n ex x ∧ ∃ b e, v = encT b e := h.keys _ (mem_of_look hx)
theorem SInv.key' {n : Nat} {ex : Exts} {l : States} (h : SInv n ex l) {x : Slot} (hx : (mget l x).isSome = true) : KeyOk n ex x := by
  obtain ⟨v, hv⟩ := Option.isSome_iff_exists.1 hx
  exact (h.key hv).1
theorem SInv.nil (n : Nat) : SInv n (fun _ => (0, 0)) [] := ⟨List.nodup_nil, by simp, by simp, by simp, fun i hi => ⟨by simp, by simp⟩⟩

theorem nodup_len : ∀ (N : Nat) (L : List Nat), L.Nodup → (∀ x ∈ L, x < N) → L.length ≤ N := by
  intro N L hnd hb
  have hp : L.Perm ((List.range N).filter fun i => decide (i ∈ L)) :=
    (List.perm_ext_iff_of_nodup hnd (List.nodup_range.filter _)).2 fun i => ⟨fun hi => List.mem_filter.2 ⟨by simpa using hb i hi, by simpa using hi⟩, fun hi => by simpa using (List.mem_filter.1 hi).2⟩
  rw [hp.length_eq]
  exact Nat.le_trans (List.length_filter_le _ _) (by simp)
theorem keyok_inj {n : Nat} {ex : Exts} {x y : Slot} (hx : KeyOk n ex x) (hy : KeyOk n ex y) (he : x.e = y.e) (hi : x.i = y.i) : x = y := by
  obtain ⟨_, _, _, h1, _⟩ := hx
  obtain ⟨_, _, _, h2, _⟩ := hy
  cases x; cases y
  simp only at he hi h1 h2
  subst he hi
  simp only [Slot.mk.injEq, true_and, and_true]
  omega
theorem SInv.few {n : Nat} {ex : Exts} {l : States} (h : SInv n ex l) : l.length ≤ n * 64 := by
  have h1 := nodup_len (n * 64) (l.map fun p => p.1.e.toNat * 64 + p.1.i.toNat) (by
    have hnd := h.nd
    rw [List.nodup_iff_pairwise_ne, List.pairwise_map] at hnd
    rw [List.nodup_iff_pairwise_ne, List.pairwise_map]
    refine hnd.imp_of_mem fun {a b} ha hb hne he => hne ?_
    have ka := (h.keys a ha).1
    have kb := (h.keys b hb).1
    have sa := slotsC_le a.1.c
    have sb := slotsC_le b.1.c
    unfold KeyOk at ka kb
    exact keyok_inj (h.keys a ha).1 (h.keys b hb).1 (by omega) (by omega)) (by
    intro x hx
    obtain ⟨p, hp, rfl⟩ := List.mem_map.1 hx
    have ka := (h.keys p hp).1
    have sa := slotsC_le p.1.c
    unfold KeyOk at ka
    omega)
  simpa using h1
theorem SInv.stated {n : Nat} {ex : Exts} {l : States} (h : SInv n ex l) (hn : n ≤ 16384) : Stated l := by
  intro p hp
  obtain ⟨k, hv⟩ := h.keys p hp
  have sa := slotsC_le p.1.c
  unfold KeyOk at k
  exact ⟨⟨⟨by omega, by omega⟩, ⟨by omega, by omega⟩, ⟨by omega, by omega⟩⟩, hv⟩

/-! ### the first free place -/
theorem freeI_spec (u : Nat) (hu : u < 2 ^ 64) : (u = 2 ^ 64 - 1 ∧ freeI u = 64) ∨ (freeI u < 64 ∧ u.testBit (freeI u) = false ∧ ∀ i, i < freeI u → u.testBit i = true) := by
  by_cases h0 : u = 2 ^ 64 - 1
  · left
    refine ⟨h0, ?_⟩
    subst h0
    exact least_zero
  · right
    have hx : 2 ^ 64 - 1 - u < 2 ^ 64 := by omega
    have hx0 : 2 ^ 64 - 1 - u ≠ 0 := by omega
    obtain ⟨h1, h2, h3⟩ := leastBit_spec _ hx hx0
    have e : 2 ^ 64 - 1 - u = 2 ^ 64 - (u + 1) := by omega
    have hb : ∀ i, i < 64 → (2 ^ 64 - 1 - u).testBit i = !u.testBit i := by
      intro i hi
      rw [e, Nat.testBit_two_pow_sub_succ hu]
      simp [hi]
    refine ⟨h1, ?_, fun i hi => ?_⟩
    · have := hb _ h1
      rw [h2] at this
      unfold freeI
      simpa using this
    · unfold freeI at hi
      have := hb i (by omega)
      rw [h3 i hi] at this
      simpa using this

/-! ### take -/
def takeAt (n : Nat) (ex : Exts) (c : Int) : Option Nat := ((List.range n).find? fun i => openX c (ex i)).or ((List.range n).find? fun i => (ex i).1 == 0)
structure Res where
  x : Slot
  err : Int
  ex : Exts
  l : States
def takeR (n : Nat) (ex : Exts) (l : States) (c : Int) : Res :=
  if c < 0 ∨ 5 < c then ⟨zeroS, 2, ex, l⟩ else
  match takeAt n ex c with
  | none => ⟨zeroS, 4, ex, l⟩
  | some k => ⟨⟨k, c, freeI (ex k).2⟩, 0, upd ex k (c + 1, (ex k).2 ||| 2 ^ freeI (ex k).2), mput l ⟨k, c, freeI (ex k).2⟩ (encT false 0)⟩

theorem find_range_some {n : Nat} {p : Nat → Bool} {k : Nat} (h : (List.range n).find? p = some k) : k < n ∧ p k = true :=
  ⟨by simpa using List.mem_of_find?_eq_some h, List.find?_some h⟩
theorem takeAt_some {n : Nat} {ex : Exts} {l : States} (hI : SInv n ex l) {c : Int} (hc : 0 ≤ c ∧ c ≤ 5) {k : Nat} (h : takeAt n ex c = some k) :
    k < n ∧ freeI (ex k).2 < 64 ∧ (freeI (ex k).2 : Int) < slotsC c ∧ (ex k).2.testBit (freeI (ex k).2) = false ∧ ((ex k).1 = c + 1 ∨ (ex k).1 = 0 ∧ (ex k).2 = 0) := by
  unfold takeAt at h
  have key : k < n ∧ (openX c (ex k) = true ∨ ((ex k).1 == 0) = true) := by
    cases e : (List.range n).find? fun i => openX c (ex i) with
    | some k' =>
      rw [e] at h
      simp only [Option.some_or, Option.some.injEq] at h
      subst h
      have := find_range_some e
      exact ⟨this.1, .inl this.2⟩
    | none =>
      rw [e] at h
      simp only [Option.none_or] at h
      have := find_range_some h
      exact ⟨this.1, .inr this.2⟩
  obtain ⟨hk, h⟩ := key
  have hu := (hI.fit k hk).2
  have hs := slotsC_le c
  have hp := slotsC_pos c hc
  refine ⟨hk, ?_⟩
  rcases h with h | h
  · unfold openX at h
    simp only [Bool.and_eq_true, decide_eq_true_eq] at h
    obtain ⟨g1, g2⟩ := h
    rw [g1, show c + 1 - 1 = c by omega] at g2
    rcases freeI_spec _ hu with ⟨h1, h2⟩ | ⟨h1, h2, h3⟩
    · rw [h2] at g2; omega
    · exact ⟨h1, g2, h2, .inl g1⟩
  · have h0 : (ex k).1 = 0 := by simpa using h
    have h0' := (hI.free k hk).1 h0
    have hf : freeI 0 = 0 := by decide +kernel
    rw [h0', hf]
    exact ⟨by omega, by omega, by simp, .inr ⟨h0, rfl⟩⟩

theorem upd_ne {ex : Exts} {k i : Nat} {y : Int × Nat} (h : i ≠ k) : upd ex k y i = ex i := if_neg h
theorem or_testBit (u t j : Nat) : (u ||| 2 ^ t).testBit j = (u.testBit j || decide (t = j)) := by rw [Nat.testBit_or, Nat.testBit_two_pow]

theorem take_inv {n : Nat} {ex : Exts} {l : States} (hI : SInv n ex l) (c : Int) : SInv n (takeR n ex l c).ex (takeR n ex l c).l := by
  unfold takeR
  split
  · exact hI
  · rename_i hc
    cases e : takeAt n ex c with
    | none => exact hI
    | some k =>
      simp only
      obtain ⟨hk, h64, hsl, hnb, hcl⟩ := takeAt_some hI (by omega) e
      obtain ⟨t, ht⟩ : ∃ t, freeI (ex k).2 = t := ⟨_, rfl⟩
      rw [ht] at h64 hsl hnb ⊢
      have hu := (hI.fit k hk).2
      refine ⟨nodup_put hI.nd _ _, ?_, ?_, ?_, hI.fit.upd k _ ⟨by simp only; omega, or_lt _ _ hu h64⟩⟩
      · intro p hp
        have hg := look_of_mem (nodup_put hI.nd _ _) hp
        rw [look_put] at hg
        split at hg
        · rename_i he
          rw [he]
          simp only [Option.some.injEq] at hg
          refine ⟨⟨by simp; omega, by simp; omega, by simp; omega, by simp [upd_same], by simp [upd_same, or_testBit]⟩, false, 0, hg.symm⟩
        · obtain ⟨⟨k1, k2, k3, k4, k5⟩, hv⟩ := hI.key hg
          refine ⟨⟨k1, k2, k3, ?_⟩, hv⟩
          by_cases hek : p.1.e.toNat = k
          · rw [hek] at k4 k5 ⊢
            rw [upd_same]
            rcases hcl with h | h
            · simp only
              rw [or_testBit, k5]
              exact ⟨by omega, rfl⟩
            · omega
          · rw [upd_ne hek]; exact ⟨k4, k5⟩
      · intro i hi j hj
        rw [look_put]
        by_cases hik : i = k
        · subst hik
          rw [upd_same] at hj ⊢
          simp only at hj ⊢
          rw [or_testBit] at hj
          by_cases hjt : t = j
          · subst hjt
            simp
          · have hjb : (ex i).2.testBit j = true := by simpa [hjt] using hj
            rcases hcl with h | h
            · have := hI.bits i hi j hjb
              rw [h] at this
              split
              · rfl
              · exact this
            · rw [h.2] at hjb; simp at hjb
        · rw [upd_ne hik] at hj ⊢
          split
          · rfl
          · exact hI.bits i hi j hj
      · intro i hi
        by_cases hik : i = k
        · subst hik
          rw [upd_same]
          simp only
          constructor
          · intro h0; omega
          · intro h0
            have : ((ex i).2 ||| 2 ^ t).testBit t = true := by rw [or_testBit]; simp
            rw [h0] at this; simp at this
        · rw [upd_ne hik]; exact hI.free i hi

/-! ### drop -/
def dropR (l : States) (x : Slot) (ep : Nat) : Int × States :=
  match mget l x with
  | none => (3, l)
  | some v => if boolAt v then (3, l) else (0, mput l x (encT true ep))
theorem drop_inv {n : Nat} {ex : Exts} {l : States} (hI : SInv n ex l) (x : Slot) (ep : Nat) : SInv n ex (dropR l x ep).2 := by
  unfold dropR
  cases e : mget l x with
  | none => exact hI
  | some v =>
    simp only
    split
    · exact hI
    · simp only
      refine ⟨nodup_put hI.nd _ _, ?_, ?_, hI.free, hI.fit⟩
      · intro p hp
        have hg := look_of_mem (nodup_put hI.nd _ _) hp
        rw [look_put] at hg
        split at hg
        · rename_i he
          simp only [Option.some.injEq] at hg
          rw [he]
          exact ⟨(hI.key e).1, true, ep, hg.symm⟩
        · exact hI.key hg
      · intro i hi j hj
        rw [look_put]
        split
        · rfl
        · exact hI.bits i hi j hj

/-! ### due -/
theorem dropX_inv {n : Nat} {ex : Exts} {l : States} (hI : SInv n ex l) (x : Slot) (hx : (mget l x).isSome = true) : SInv n (dropX ex x) (mdel l x) := by
  obtain ⟨k1, k2, k3, k4, k5⟩ := hI.key' hx
  have hs := slotsC_le x.c
  obtain ⟨E, hE⟩ : ∃ E, x.e.toNat = E := ⟨_, rfl⟩
  obtain ⟨I, hIi⟩ : ∃ I, x.i.toNat = I := ⟨_, rfl⟩
  have hEn : E < n := by omega
  have hI64 : I < 64 := by omega
  have hu := (hI.fit E hEn).2
  have hd : dropX ex x = upd ex E (if clr (ex E).2 I = 0 then 0 else (ex E).1, clr (ex E).2 I) := by unfold dropX; rw [hE, hIi]
  rw [hd]
  rw [hE, hIi] at k5
  rw [hE] at k4
  have hbit := fun j => clr_bit (ex E).2 I j hu hI64
  refine ⟨nodup_del hI.nd _, ?_, ?_, ?_, hI.fit.upd E _ ⟨by simp only; split <;> omega, clr_lt _ _ hu⟩⟩
  · intro p hp
    have hp' := List.mem_filter.1 hp
    have hne : p.1 ≠ x := by simpa using hp'.2
    obtain ⟨kp, hv⟩ := hI.keys p hp'.1
    refine ⟨?_, hv⟩
    have kp' := kp
    obtain ⟨q1, q2, q3, q4, q5⟩ := kp
    refine ⟨q1, q2, q3, ?_⟩
    by_cases hek : p.1.e.toNat = E
    · rw [hek] at q4 q5 ⊢
      rw [upd_same]
      simp only
      have hij : p.1.i.toNat ≠ I := by
        intro hij
        apply hne
        exact keyok_inj kp' (hI.key' hx) (by omega) (by omega)
      have hb2 : (clr (ex E).2 I).testBit p.1.i.toNat = true := by rw [hbit, q5]; simpa using hij
      refine ⟨?_, hb2⟩
      rw [if_neg (by intro h0; rw [h0] at hb2; simp at hb2)]
      exact q4
    · rw [upd_ne hek]; exact ⟨q4, q5⟩
  · intro i hi j hj
    rw [look_del]
    by_cases hik : i = E
    · subst hik
      rw [upd_same] at hj ⊢
      simp only at hj ⊢
      have hj0 := hj
      rw [hbit] at hj
      simp only [Bool.and_eq_true, decide_eq_true_eq] at hj
      have hne0 : clr (ex i).2 I ≠ 0 := by intro h0; rw [h0] at hj0; simp at hj0
      rw [if_neg hne0]
      rw [if_neg (by intro h0; rw [← h0] at hIi; simp at hIi; exact hj.2 hIi)]
      exact hI.bits i hi j hj.1
    · rw [upd_ne hik] at hj ⊢
      rw [if_neg (by intro h0; rw [← h0] at hE; simp at hE; exact hik hE)]
      exact hI.bits i hi j hj
  · intro i hi
    by_cases hik : i = E
    · subst hik
      rw [upd_same]
      simp only
      constructor
      · intro h0
        split at h0
        · assumption
        · exfalso
          have := k4
          omega
      · intro h0; rw [if_pos h0]
    · rw [upd_ne hik]; exact hI.free i hi
theorem due_inv {n : Nat} : ∀ (ys : List Slot) {ex : Exts} {l : States}, SInv n ex l → ys.Nodup → (∀ x ∈ ys, (mget l x).isSome = true) → SInv n (exD ex ys) (lD l ys) ∧ ∀ x, mget (lD l ys) x = if x ∈ ys then none else mget l x
  | [], _, _, hI, _, _ => ⟨hI, fun x => by simp [lD]⟩
  | y :: ys, ex, l, hI, hnd, hm => by
    obtain ⟨h1, h2⟩ := List.nodup_cons.1 hnd
    obtain ⟨a, b⟩ := due_inv ys (dropX_inv hI y (hm y List.mem_cons_self)) h2 (fun x hx => by
      rw [look_del, if_neg (by intro e; exact h1 (e ▸ hx))]
      exact hm x (List.mem_cons_of_mem _ hx))
    refine ⟨a, fun x => ?_⟩
    have := b x
    show mget (lD (mdel l y) ys) x = _
    rw [this, look_del]
    by_cases hx : x ∈ ys
    · simp [hx]
    · by_cases hxy : x = y
      · simp [hxy]
      · simp [hx, hxy]

/-! ### those -/
def slt (x y : Slot) : Prop := x.e < y.e ∨ (x.e = y.e ∧ x.i < y.i)
theorem sorted_unique : ∀ {xs ys : List Slot}, xs.Perm ys → xs.Pairwise leS → ys.Pairwise slt → xs = ys
  | [], ys, hp, _, _ => by
    have := hp.symm.eq_nil
    exact this.symm
  | x :: xs, [], hp, _, _ => absurd hp.eq_nil (by simp)
  | x :: xs, y :: ys, hp, hx, hy => by
    obtain ⟨x1, x2⟩ := List.pairwise_cons.1 hx
    obtain ⟨y1, y2⟩ := List.pairwise_cons.1 hy
    have exy : x = y := by
      rcases List.mem_cons.1 (hp.subset List.mem_cons_self) with e | hm
      · exact e
      · rcases List.mem_cons.1 (hp.symm.subset List.mem_cons_self) with e | hm2
        · exact e.symm
        · exfalso
          have a := y1 x hm
          have b := x1 y hm2
          unfold slt leS at *
          omega
    subst exy
    rw [sorted_unique hp.cons_inv x2 y2]
/-- those, in their order -/
def canon (so : Value → Bool) (n : Nat) (ex : Exts) (l : States) : List Slot :=
  (List.range n).flatMap fun (i : Nat) => ((List.range 64).filter fun (k : Nat) => (mget l ⟨i, (ex i).1 - 1, k⟩).elim false so).map fun (k : Nat) => ⟨i, (ex i).1 - 1, k⟩
theorem mem_canon {so : Value → Bool} {n : Nat} {ex : Exts} {l : States} {x : Slot} : x ∈ canon so n ex l ↔ ∃ i : Nat, i < n ∧ ∃ k : Nat, k < 64 ∧ (mget l x).elim false so = true ∧ x = ⟨i, (ex i).1 - 1, k⟩ := by
  unfold canon
  simp only [List.mem_flatMap, List.mem_range, List.mem_map, List.mem_filter]
  constructor
  · rintro ⟨i, hi, k, ⟨hk, hm⟩, rfl⟩
    exact ⟨i, hi, k, hk, hm, rfl⟩
  · rintro ⟨i, hi, k, hk, hm, rfl⟩
    exact ⟨i, hi, k, ⟨hk, hm⟩, rfl⟩
theorem range_lt (n : Nat) : (List.range n).Pairwise (· < ·) := List.pairwise_lt_range
theorem canon_lt (so : Value → Bool) (n : Nat) (ex : Exts) (l : States) : (canon so n ex l).Pairwise slt := by
  unfold canon
  rw [List.pairwise_flatMap]
  refine ⟨fun i _ => ?_, (range_lt n).imp fun {a b} hab x hx y hy => ?_⟩
  · rw [List.pairwise_map]
    exact ((range_lt 64).filter _).imp fun {a b} hab => .inr ⟨rfl, by simp only; omega⟩
  · obtain ⟨k, _, rfl⟩ := List.mem_map.1 hx
    obtain ⟨k', _, rfl⟩ := List.mem_map.1 hy
    exact .inl (by simp only; omega)
theorem lt_nodup {ys : List Slot} (h : ys.Pairwise slt) : ys.Nodup := by
  rw [List.nodup_iff_pairwise_ne]
  exact h.imp fun {a b} hab e => by subst e; unfold slt at hab; omega
theorem canon_perm {so : Value → Bool} {n : Nat} {ex : Exts} {l : States} (hI : SInv n ex l) : (pick so l).Perm (canon so n ex l) := by
  refine (List.perm_ext_iff_of_nodup ?_ (lt_nodup (canon_lt so n ex l))).2 fun x => ?_
  · unfold pick
    exact hI.nd.sublist (List.filter_sublist.map _)
  · rw [mem_canon]
    unfold pick
    simp only [List.mem_map, List.mem_filter]
    constructor
    · rintro ⟨p, ⟨hp, hso⟩, rfl⟩
      obtain ⟨⟨k1, k2, k3, k4, k5⟩, _⟩ := hI.keys p hp
      have hs := slotsC_le p.1.c
      refine ⟨p.1.e.toNat, by omega, p.1.i.toNat, by omega, by rw [look_of_mem hI.nd hp]; exact hso, ?_⟩
      rw [k4]
      obtain ⟨⟨a, b, c⟩, v⟩ := p
      simp only [Slot.mk.injEq] at *
      omega
    · rintro ⟨i, hi, k, hk, hm, rfl⟩
      cases e : mget l ⟨i, (ex i).1 - 1, k⟩ with
      | none => rw [e] at hm; cases hm
      | some v =>
        rw [e] at hm
        exact ⟨_, ⟨mem_of_look e, hm⟩, rfl⟩
theorem those_eq {so : Value → Bool} {n : Nat} {ex : Exts} {l : States} (hI : SInv n ex l) {ys : List Slot} (hp : ys.Perm (pick so l)) (hs : ys.Pairwise leS) : ys = canon so n ex l :=
  sorted_unique (hp.trans (canon_perm hI)) hs (canon_lt so n ex l)
end Go.Proofs.YtaikapgpkkpdjaaDoor.L
