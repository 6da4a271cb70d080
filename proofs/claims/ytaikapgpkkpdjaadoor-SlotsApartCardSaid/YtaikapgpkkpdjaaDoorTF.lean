/- Slots: they lie apart: the plain law. -/
import Derived.Test.YtaikapgpkkpdjaaDoorTD
import Derived.Laws.AppendOwnNone
namespace Go.Proofs.YtaikapgpkkpdjaaDoor.L
open Go.ChangeShapes Go.WideShapes Go.ChangeAt Go.RowKit Go.Maps Go.Proofs.YtaikapgpkkpdjaaDoor.G Go.Sort Go.Shelf Go.Lib Go.Deep
set_option linter.unusedVariables false
set_option linter.unusedSimpArgs false

/-- a row of slots is appended to another -/
theorem wpList_append_rows {w : World} {ops : Array Oper} {rest : List Oper} {o : Oper} {a : Act} {Q : Exit → Act → World → Prop} (hgd : o.guard = none) (s x : Operand)
    (ho : o.op = .call { callee := .builtin .append, args := #[s, x], argTypes := #[47, 47] }) (base base2 : Nat) (v v2 : Value) (n m : Nat) (xs zs : List Slot)
    (hs : a.eval s = v) (hown : w.ownsRow base 24 3 v n (flat xs)) (hx : a.eval x = v2) (hown2 : w.ownsRow base2 24 3 v2 m (flat zs)) (hn : n ≤ 1048576) (hm : m ≤ 1048576) (hbase : base ≤ w.heap.size)
    (h : ∀ v' w', w'.ownsRow base 24 3 v' (n + m) (flat (xs ++ zs)) → w.grownBy w' v.ownBlock → wpList Tryd.prog ops Q rest (a.put o.dst v') w') : wpList Tryd.prog ops Q (o :: rest) a w := by
  obtain ⟨i0, hi24, hz0, hz1, hz2⟩ := info_parts3 info24
  have hfl : flat (xs ++ zs) = flat xs ++ flat zs := by unfold flat; rw [List.flatMap_append]
  rcases hown2.2 with ⟨rfl, rfl⟩ | ⟨g, cap, cur, rfl, hg, hh, hnc, hc, hsz, ht⟩
  · have hz : zs = [] := by have := hown2.1; rw [flat_len] at this; exact List.length_eq_zero_iff.1 (by omega)
    subst hz
    refine wpList_append_own_none hgd s x 47 ho base 24 i0 3 Tryd.underlying47 hi24 v n (flat xs) hs hown hx (h v w ?_ ⟨rfl, rfl, rfl, Nat.le_refl _, fun k _ _ => rfl⟩)
    rw [List.append_nil]; exact hown
  · refine wpList_append_own _ hgd s x 47 ho base 24 i0 (.agg #[.int .i64 0, .int .i64 0, .int .i64 0]) 3 24 Tryd.underlying47 hi24 hz0 hz1 hz2 rfl (by decide) v n (flat xs) hs hown ⟨g, 0, none⟩ m cap (flat zs) hx (by rw [hown2.1]) ?_ ?_ (by unfold maxLen; omega) (by omega) hbase (fun v' w' h1 h2 _ => h v' w' (by rw [hfl]; exact h1) h2)
    · intro j u hu
      rw [add_none, Nat.zero_add]
      have : cur.toList[j]? = some u := by
        rw [← ht, List.getElem?_take] at hu
        split at hu
        · exact hu
        · cases hu
      simp [World.cell?, hh]
      simpa using this
    · intro u hu
      unfold flat at hu
      obtain ⟨y, _, hy⟩ := List.mem_flatMap.1 hu
      simp [encL] at hy
      rcases hy with rfl | rfl | rfl <;> rfl

/-- where a slot begins, in units -/
def startU (x : Slot) : Int := x.e * 64 + x.i * unitsC x.c
theorem units_slots (c : Int) (h : 0 ≤ c ∧ c ≤ 5) : 1 ≤ unitsC c ∧ unitsC c ≤ 17 ∧ slotsC c * unitsC c ≤ 64 ∧ 3 ≤ slotsC c ∧ slotsC c ≤ 64 := by
  unfold unitsC slotsC
  repeat' split
  all_goals omega
theorem start_in {n : Nat} {ex : Exts} {x : Slot} (h : KeyOk n ex x) : 64 * x.e ≤ startU x ∧ startU x + unitsC x.c ≤ 64 * x.e + 64 ∧ 1 ≤ unitsC x.c ∧ unitsC x.c ≤ 17 := by
  obtain ⟨k1, k2, k3, k4, k5⟩ := h
  have hu := units_slots x.c k2
  have h1 : (x.i + 1) * unitsC x.c ≤ slotsC x.c * unitsC x.c := Int.mul_le_mul_of_nonneg_right (by omega) (by omega)
  have h2 : 0 ≤ x.i * unitsC x.c := Int.mul_nonneg (by omega) (by omega)
  rw [Int.add_mul, Int.one_mul] at h1
  unfold startU
  omega
/-- two slots lie apart -/
theorem start_apart {n : Nat} {ex : Exts} {x y : Slot} (hx : KeyOk n ex x) (hy : KeyOk n ex y) (hne : x ≠ y) : startU x + unitsC x.c ≤ startU y ∨ startU y + unitsC y.c ≤ startU x := by
  have sx := start_in hx
  have sy := start_in hy
  by_cases he : x.e = y.e
  · have hc : x.c = y.c := by
      have h1 := hx.2.2.2.1
      have h2 := hy.2.2.2.1
      rw [he] at h1
      omega
    have hi : x.i ≠ y.i := fun hi => hne (keyok_inj hx hy he hi)
    have hu := units_slots x.c hx.2.1
    unfold startU
    rw [← hc, he]
    rcases Int.lt_or_gt_of_ne hi with h | h
    · left
      have h1 : (x.i + 1) * unitsC x.c ≤ y.i * unitsC x.c := Int.mul_le_mul_of_nonneg_right (by omega) (by omega)
      rw [Int.add_mul, Int.one_mul] at h1
      omega
    · right
      have h1 : (y.i + 1) * unitsC x.c ≤ x.i * unitsC x.c := Int.mul_le_mul_of_nonneg_right (by omega) (by omega)
      rw [Int.add_mul, Int.one_mul] at h1
      omega
  · omega
/-- all slots that are there -/
def allS (n : Nat) (ex : Exts) (l : States) : List Slot := canon liveV n ex l ++ canon waitV n ex l
theorem mem_allS {n : Nat} {ex : Exts} {l : States} (hI : SInv n ex l) {x : Slot} : x ∈ allS n ex l ↔ (mget l x).isSome = true := by
  unfold allS
  rw [List.mem_append, mem_canonJ hI, mem_canonJ hI]
  constructor
  · rintro (⟨v, e, _⟩ | ⟨v, e, _⟩) <;> rw [e] <;> rfl
  · intro h
    obtain ⟨v, e⟩ := Option.isSome_iff_exists.1 h
    cases hb : boolAt v with
    | true => exact .inr ⟨v, e, hb⟩
    | false => exact .inl ⟨v, e, by unfold liveV; rw [hb]; rfl⟩
theorem allS_ok {n : Nat} {ex : Exts} {l : States} (hI : SInv n ex l) {x : Slot} (hx : x ∈ allS n ex l) : KeyOk n ex x := hI.key' ((mem_allS hI).1 hx)
theorem allS_nodup {n : Nat} {ex : Exts} {l : States} (hI : SInv n ex l) : (allS n ex l).Nodup := by
  unfold allS
  rw [List.nodup_append]
  refine ⟨canonNd _ _ _ _, canonNd _ _ _ _, fun x hx y hy e => ?_⟩
  subst e
  obtain ⟨v, e, h1⟩ := (mem_canonJ hI).1 hx
  obtain ⟨v', e', h2⟩ := (mem_canonJ hI).1 hy
  rw [e] at e'
  simp only [Option.some.injEq] at e'
  subst e'
  unfold liveV at h1
  unfold waitV at h2
  rw [h2] at h1
  cases h1
theorem live_wait (n : Nat) (ex : Exts) (l : States) (hI : SInv n ex l) : (canon liveV n ex l).length + (canon waitV n ex l).length = l.length := by
  rw [← (canon_perm hI).length_eq, ← (canon_perm hI).length_eq]
  unfold pick liveV waitV
  rw [List.length_map, List.length_map]
  clear hI
  induction l with
  | nil => rfl
  | cons p l ih =>
    rw [List.filter_cons, List.filter_cons]
    cases boolAt p.2
    · simp at ih ⊢; omega
    · simp at ih ⊢; omega
theorem allS_len {n : Nat} {ex : Exts} {l : States} (hI : SInv n ex l) : (allS n ex l).length ≤ n * 64 := by
  unfold allS
  rw [List.length_append, live_wait n ex l hI]
  exact hI.few
/-- which extents are used, behind i of them -/
def usedB (all : List Slot) (i : Nat) (k : Nat) : Bool := (all.take i).any fun x => x.e == (k : Int)
def unitB (all : List Slot) (i : Nat) (k : Nat) : Bool := (all.take i).any fun x => decide (startU x ≤ k) && decide ((k : Int) < startU x + unitsC x.c)
theorem used_succ (all : List Slot) (i : Nat) (h : i < all.length) (k : Nat) : usedB all (i + 1) k = (usedB all i k || (all[i].e == (k : Int))) := by
  unfold usedB
  rw [take_snoc all i h, List.any_append]
  simp
theorem unit_succ (all : List Slot) (i : Nat) (h : i < all.length) (k : Nat) : unitB all (i + 1) k = (unitB all i k || (decide (startU all[i] ≤ k) && decide ((k : Int) < startU all[i] + unitsC all[i].c))) := by
  unfold unitB
  rw [take_snoc all i h, List.any_append]
  simp
/-- the units of the next one are free -/
theorem unit_free {n : Nat} {ex : Exts} {l : States} (hI : SInv n ex l) (i : Nat) (h : i < (allS n ex l).length) (k : Nat) (h1 : startU (allS n ex l)[i] ≤ k) (h2 : (k : Int) < startU (allS n ex l)[i] + unitsC (allS n ex l)[i].c) : unitB (allS n ex l) i k = false := by
  have hnd := allS_nodup hI
  have hok : ∀ x ∈ allS n ex l, KeyOk n ex x := fun x hx => allS_ok hI hx
  generalize allS n ex l = all at *
  unfold unitB
  rw [List.any_eq_false]
  intro x hx
  obtain ⟨j, hj, e⟩ := List.getElem_of_mem hx
  rw [List.length_take] at hj
  rw [List.getElem_take] at e
  have hne : x ≠ all[i] := by
    intro he
    rw [← e] at he
    have := (List.getElem_inj hnd).1 he
    omega
  have := start_apart (hok x (List.mem_of_mem_take hx)) (hok _ (List.getElem_mem h)) hne
  simp
  intro h3
  omega
/-- an extent has a class just if a slot lies in it -/
theorem used_class {n : Nat} {ex : Exts} {l : States} (hI : SInv n ex l) (k : Nat) (hk : k < n) : (decide (0 ≤ (ex k).1 - 1)) = usedB (allS n ex l) (allS n ex l).length k := by
  unfold usedB
  rw [List.take_length, Bool.eq_iff_iff]
  simp only [decide_eq_true_eq, List.any_eq_true, beq_iff_eq]
  constructor
  · intro h0
    have h2 : (ex k).2 ≠ 0 := fun h2 => by have := (hI.free k hk).2 h2; omega
    obtain ⟨t, ht⟩ : ∃ t, (ex k).2.testBit t = true := by
      apply Classical.byContradiction
      intro hn
      apply h2
      apply Nat.eq_of_testBit_eq
      intro t
      rw [Nat.zero_testBit]
      cases e : (ex k).2.testBit t with
      | false => rfl
      | true => exact absurd ⟨t, e⟩ hn
    exact ⟨_, (mem_allS hI).2 (hI.bits k hk t ht), rfl⟩
  · rintro ⟨x, hx, he⟩
    have hok := allS_ok hI hx
    obtain ⟨k1, k2, k3, k4, k5⟩ := hok
    rw [he, Int.toNat_natCast] at k4
    omega

/-! ### is there room? -/
theorem nodup_full : ∀ (N : Nat) (L : List Nat), L.Nodup → (∀ x ∈ L, x < N) → (∀ x, x < N → x ∈ L) → L.length = N := by
  intro N L hnd hb ha
  have hp : L.Perm (List.range N) := (List.perm_ext_iff_of_nodup hnd List.nodup_range).2 fun i => ⟨fun hi => by simpa using hb i hi, fun hi => ha i (by simpa using hi)⟩
  rw [hp.length_eq]; simp
/-- how many slots lie in an extent -/
def manyS (all : List Slot) (k : Nat) : Nat := (all.filter fun x => x.e == (k : Int)).length
theorem many_room {n : Nat} {ex : Exts} {l : States} (hI : SInv n ex l) (k : Nat) (hk : k < n) (c : Int) (hc : 0 ≤ c ∧ c ≤ 5) (he : (ex k).1 = c + 1) : decide ((manyS (allS n ex l) k : Int) < slotsC c) = decide ((freeI (ex k).2 : Int) < slotsC c) := by
  have hs := slotsC_le c
  have hu := (hI.fit k hk).2
  obtain ⟨S, hS⟩ : ∃ S : Nat, slotsC c = S := ⟨(slotsC c).toNat, by omega⟩
  have hin : ∀ x ∈ (allS n ex l).filter (fun x => x.e == (k : Int)), x.e = k ∧ x.c = c ∧ (0 ≤ x.i ∧ x.i < S) ∧ (ex k).2.testBit x.i.toNat = true := by
    intro x hx
    obtain ⟨h1, h2⟩ := List.mem_filter.1 hx
    obtain ⟨k1, k2, k3, k4, k5⟩ := allS_ok hI h1
    have h3 : x.e = k := by simpa using h2
    rw [h3, Int.toNat_natCast] at k4 k5
    have hcc : x.c = c := by omega
    rw [hcc] at k3
    exact ⟨h3, hcc, by omega, k5⟩
  have hnd : (((allS n ex l).filter (fun x => x.e == (k : Int))).map fun x => x.i.toNat).Nodup := by
    have h0 : ((allS n ex l).filter (fun x => x.e == (k : Int))).Pairwise (· ≠ ·) := List.Pairwise.filter (fun x => x.e == (k : Int)) (List.nodup_iff_pairwise_ne.1 (allS_nodup hI))
    rw [List.nodup_iff_pairwise_ne]
    rw [List.pairwise_map]
    refine h0.imp_of_mem fun {a b} ha hb hne e => hne ?_
    obtain ⟨a1, a2, a3, _⟩ := hin a ha
    obtain ⟨b1, b2, b3, _⟩ := hin b hb
    cases a; cases b
    simp only [Slot.mk.injEq] at *
    omega
  have hlt : ∀ t ∈ ((allS n ex l).filter (fun x => x.e == (k : Int))).map (fun x => x.i.toNat), t < S := by
    intro t ht
    obtain ⟨x, hx, rfl⟩ := List.mem_map.1 ht
    have := hin x hx
    omega
  have hle := nodup_len S _ hnd hlt
  have hlen : (((allS n ex l).filter (fun x => x.e == (k : Int))).map fun x => x.i.toNat).length = manyS (allS n ex l) k := by rw [List.length_map]; rfl
  rw [hlen] at hle
  rw [hS, Bool.eq_iff_iff]
  simp only [decide_eq_true_eq]
  rcases freeI_spec _ hu with ⟨h1, h2⟩ | ⟨h1, h2, h3⟩
  · -- all bits are set
    have hS64 : S ≤ 64 := by omega
    have : manyS (allS n ex l) k = S := by
      rw [← hlen]
      apply nodup_full S _ hnd hlt
      intro t ht
      have hb : (ex k).2.testBit t = true := by rw [h1, Nat.testBit_two_pow_sub_one]; simp; omega
      have hm := (mem_allS hI).2 (hI.bits k hk t hb)
      exact List.mem_map.2 ⟨_, List.mem_filter.2 ⟨hm, by simp⟩, by simp⟩
    omega
  · constructor
    · intro hm
      apply Classical.byContradiction
      intro hge
      have : manyS (allS n ex l) k = S := by
        rw [← hlen]
        apply nodup_full S _ hnd hlt
        intro t ht
        have hb : (ex k).2.testBit t = true := h3 t (by omega)
        have hm := (mem_allS hI).2 (hI.bits k hk t hb)
        exact List.mem_map.2 ⟨_, List.mem_filter.2 ⟨hm, by simp⟩, by simp⟩
      omega
    · intro hf
      have hnot : freeI (ex k).2 ∉ ((allS n ex l).filter (fun x => x.e == (k : Int))).map (fun x => x.i.toNat) := by
        intro hm
        obtain ⟨x, hx, e⟩ := List.mem_map.1 hm
        have := (hin x hx).2.2.2
        rw [e, h2] at this
        cases this
      have h4 := nodup_len S (freeI (ex k).2 :: ((allS n ex l).filter (fun x => x.e == (k : Int))).map (fun x => x.i.toNat)) (List.nodup_cons.2 ⟨hnot, hnd⟩) (by
        intro t ht
        rcases List.mem_cons.1 ht with rfl | ht
        · omega
        · exact hlt t ht)
      rw [List.length_cons, hlen] at h4
      omega
/-- the law's 'room', behind i extents -/
def roomB (n : Nat) (ex : Exts) (l : States) (c : Int) (i : Nat) : Bool := (List.range i).any fun k => decide ((ex k).1 - 1 < 0) || (decide ((ex k).1 - 1 = c) && decide ((manyS (allS n ex l) k : Int) < slotsC c))
theorem room_succ (n : Nat) (ex : Exts) (l : States) (c : Int) (i : Nat) : roomB n ex l c (i + 1) = (roomB n ex l c i || (decide ((ex i).1 - 1 < 0) || (decide ((ex i).1 - 1 = c) && decide ((manyS (allS n ex l) i : Int) < slotsC c)))) := by
  unfold roomB
  rw [List.range_succ, List.any_append]
  simp
/-- a take is answered just if there is room -/
theorem take_room {n : Nat} {ex : Exts} {l : States} (hI : SInv n ex l) (c : Int) (hc : 0 ≤ c ∧ c ≤ 5) : ((takeR n ex l c).err = 0 ∧ roomB n ex l c n = true) ∨ ((takeR n ex l c).err = 4 ∧ roomB n ex l c n = false) := by
  unfold takeR
  rw [if_neg (by omega)]
  cases e : takeAt n ex c with
  | some k =>
    left
    refine ⟨rfl, ?_⟩
    obtain ⟨hk, h64, hsl, hnb, hcl⟩ := takeAt_some hI hc e
    unfold roomB
    rw [List.any_eq_true]
    refine ⟨k, by simpa using hk, ?_⟩
    rcases hcl with h | h
    · have hm := many_room hI k hk c hc h
      have h1 : decide ((manyS (allS n ex l) k : Int) < slotsC c) = true := by rw [hm]; simpa using hsl
      rw [h1, h]
      simp
    · rw [h.1]; simp
  | none =>
    right
    refine ⟨rfl, ?_⟩
    unfold takeAt at e
    rw [Option.or_eq_none_iff] at e
    obtain ⟨e1, e2⟩ := e
    rw [List.find?_eq_none] at e1 e2
    unfold roomB
    rw [List.any_eq_false]
    intro k hk
    have hkn : k < n := by simpa using hk
    have o1 := e1 k hk
    have o2 := e2 k hk
    have hf := (hI.fit k hkn).1
    have hz : (ex k).1 ≠ 0 := by simpa using o2
    by_cases hcc : (ex k).1 = c + 1
    · have hm := many_room hI k hkn c hc hcc
      have h1 : decide ((freeI (ex k).2 : Int) < slotsC c) = false := by
        unfold openX at o1
        rw [hcc, show c + 1 - 1 = c by omega] at o1
        simp at o1
        simp
        omega
      rw [hm, h1]
      simp
      omega
    · simp
      omega
end Go.Proofs.YtaikapgpkkpdjaaDoor.L
