/- Slots: the program's and the document's beside each other: the plain laws. -/
import Derived.Test.YtaikapgpkkpdjaaDoorTS
namespace Go.Proofs.YtaikapgpkkpdjaaDoor.L
open Go.ChangeShapes Go.WideShapes Go.ChangeAt Go.RowKit Go.Maps Go.Proofs.YtaikapgpkkpdjaaDoor.G Go.Sort Go.Shelf Go.Lib Go.Deep
set_option linter.unusedVariables false
set_option linter.unusedSimpArgs false

/-- what became of a slot, said twice -/
def stOf : Option Value → Int → Nat → Prop
  | none, s, _ => s = 0
  | some v, s, e => if boolAt v then s = 2 ∧ e = epochAt v else s = 1
structure Rel (n : Nat) (ex : Exts) (l : States) (rx : Nat → RX) : Prop where
  cls : ∀ i, i < n → (rx i).cls = (ex i).1 - 1
  st : ∀ i, i < n → ∀ k, k < (rx i).K → stOf (mget l ⟨i, (ex i).1 - 1, k⟩) ((rx i).st k) ((rx i).ep k)
  num : ∀ i, i < n → numRX (rx i)

theorem stOf_some {v : Value} {s : Int} {e : Nat} : stOf (some v) s e ↔ ((boolAt v = true ∧ s = 2 ∧ e = epochAt v) ∨ (boolAt v = false ∧ s = 1)) := by
  show (if boolAt v then s = 2 ∧ e = epochAt v else s = 1) ↔ _
  cases boolAt v <;> simp
variable {n : Nat} {ex : Exts} {l : States} {rx : Nat → RX}
theorem Rel.K (h : Rel n ex l rx) (i : Nat) (hi : i < n) : ((ex i).1 = 0 ∧ (rx i).K = 0) ∨ (1 ≤ (ex i).1 ∧ ((rx i).K : Int) = slotsC ((ex i).1 - 1)) := by
  have h1 := h.cls i hi
  have h2 := (h.num i hi).2.1
  rw [h1] at h2
  omega
theorem Rel.k64 (h : Rel n ex l rx) (i : Nat) (hi : i < n) : (rx i).K ≤ 64 := (h.num i hi).k64
theorem st0 {o : Option Value} {s : Int} {e : Nat} (h : stOf o s e) : s = 0 ↔ o = none := by
  cases o with
  | none => exact ⟨fun _ => rfl, fun _ => h⟩
  | some v =>
    constructor
    · intro hs
      rcases stOf_some.1 h with h | h <;> omega
    · intro h; cases h
theorem st1 {o : Option Value} {s : Int} {e : Nat} (h : stOf o s e) : s = 1 ↔ o.elim false liveV = true := by
  cases o with
  | none =>
    have h' : s = 0 := h
    simp [h']
  | some v =>
    simp only [Option.elim_some]
    unfold liveV
    rcases stOf_some.1 h with ⟨h1, h2, h3⟩ | ⟨h1, h2⟩
    · rw [h1, h2]; simp
    · rw [h1, h2]; simp
theorem st2 {o : Option Value} {s : Int} {e : Nat} (h : stOf o s e) : s = 2 ↔ o.elim false waitV = true := by
  cases o with
  | none =>
    have h' : s = 0 := h
    simp [h']
  | some v =>
    simp only [Option.elim_some]
    unfold waitV
    rcases stOf_some.1 h with ⟨h1, h2, h3⟩ | ⟨h1, h2⟩
    · rw [h1, h2]; simp
    · rw [h1, h2]; simp
theorem std {o : Option Value} {s : Int} {e : Nat} (h : stOf o s e) (ep : Nat) : (decide (s = 2) && decide (e ≤ ep)) = o.elim false (dueV ep) := by
  cases o with
  | none =>
    have h' : s = 0 := h
    simp [h']
  | some v =>
    simp only [Option.elim_some]
    unfold dueV
    rcases stOf_some.1 h with ⟨h1, h2, h3⟩ | ⟨h1, h2⟩
    · rw [h1, h2, h3]; simp
    · rw [h1, h2]; simp
/-- beyond the places there is nothing -/
theorem Rel.out (h : Rel n ex l rx) (hI : SInv n ex l) {i : Nat} (hi : i < n) {k : Nat} (hk : (rx i).K ≤ k) : mget l ⟨i, (ex i).1 - 1, k⟩ = none := by
  cases e : mget l ⟨i, (ex i).1 - 1, k⟩ with
  | none => rfl
  | some v =>
    exfalso
    obtain ⟨⟨_, k2, k3, k4, _⟩, _⟩ := hI.key e
    simp only at k2 k3 k4
    have := h.K i hi
    omega
theorem range_ext {K N : Nat} (hKN : K ≤ N) {p q : Nat → Bool} (h : ∀ k, k < K → p k = q k) (h0 : ∀ k, K ≤ k → k < N → q k = false) : (List.range K).filter p = (List.range N).filter q := by
  obtain ⟨m, rfl⟩ : ∃ m, N = K + m := ⟨N - K, by omega⟩
  rw [List.range_add, List.filter_append]
  have e1 : (List.map (fun x => K + x) (List.range m)).filter q = [] := by
    rw [List.filter_eq_nil_iff]
    intro x hx
    obtain ⟨y, hy, rfl⟩ := List.mem_map.1 hx
    rw [h0 _ (by omega) (by have := List.mem_range.1 hy; omega)]
    simp
  rw [e1, List.append_nil]
  exact List.filter_congr fun k hk => h k (List.mem_range.1 hk)
theorem Rel.rows (h : Rel n ex l rx) (hI : SInv n ex l) (so : Value → Bool) (p : Nat → Nat → Bool) (hp : ∀ i, i < n → ∀ k, k < (rx i).K → p i k = (mget l ⟨i, (ex i).1 - 1, k⟩).elim false so) :
    (List.range n).flatMap (fun i => ((List.range (rx i).K).filter fun k => p i k).map fun (k : Nat) => (⟨i, (rx i).cls, k⟩ : Slot)) = canon so n ex l := by
  unfold canon
  rw [List.flatMap_def, List.flatMap_def]
  congr 1
  apply List.map_congr_left
  intro i hi
  have hi' := List.mem_range.1 hi
  rw [h.cls i hi']
  congr 1
  exact range_ext (h.k64 i hi') (fun k hk => hp i hi' k hk) (fun k hk _ => by rw [h.out hI hi' hk]; rfl)
theorem Rel.all1 (h : Rel n ex l rx) (hI : SInv n ex l) : allR rx 1 n = canon liveV n ex l :=
  h.rows hI liveV (fun i k => (rx i).st k == 1) fun i hi k hk => by
    rw [Bool.eq_iff_iff, beq_iff_eq]; exact st1 (h.st i hi k hk)
theorem Rel.all2 (h : Rel n ex l rx) (hI : SInv n ex l) : allR rx 2 n = canon waitV n ex l :=
  h.rows hI waitV (fun i k => (rx i).st k == 2) fun i hi k hk => by
    rw [Bool.eq_iff_iff, beq_iff_eq]; exact st2 (h.st i hi k hk)
theorem Rel.due (h : Rel n ex l rx) (hI : SInv n ex l) (ep : Nat) : dueOut rx ep n = canon (dueV ep) n ex l :=
  h.rows hI (dueV ep) (fun i k => dueB (rx i) ep k) fun i hi k hk => std (h.st i hi k hk) ep
theorem Rel.class_ (h : Rel n ex l rx) (i : Int) : classR n rx i = classX n ex i := by
  unfold classR classX
  split
  · rfl
  · rw [h.cls _ (by omega)]
theorem Rel.there_ (h : Rel n ex l rx) (x : Slot) : thereR n rx x = thereB n ex x := by
  unfold thereR thereB
  rw [h.class_]
theorem Rel.zero (n : Nat) : Rel n ex0 [] (fun _ => freeX) :=
  ⟨fun i hi => rfl, fun i hi k hk => absurd hk (Nat.not_lt_zero _), fun i hi => ⟨⟨by decide, by decide⟩, .inl ⟨rfl, rfl⟩, fun j hj => absurd hj (Nat.not_lt_zero _), fun j hj => absurd hj (Nat.not_lt_zero _)⟩⟩

/-! ### take -/
theorem Rel.bit (h : Rel n ex l rx) (hI : SInv n ex l) {i : Nat} (hi : i < n) {k : Nat} (hk : k < (rx i).K) : (ex i).2.testBit k = true ↔ (rx i).st k ≠ 0 := by
  have hs := st0 (h.st i hi k hk)
  constructor
  · intro hb he
    have := hI.bits i hi k hb
    rw [hs.1 he] at this
    cases this
  · intro hn
    cases e : mget l ⟨i, (ex i).1 - 1, k⟩ with
    | none => exact absurd (hs.2 e) hn
    | some v =>
      obtain ⟨⟨_, _, _, _, k5⟩, _⟩ := hI.key e
      simpa using k5
theorem Rel.openFull (h : Rel n ex l rx) (hI : SInv n ex l) {c : Int} (hc : 0 ≤ c ∧ c ≤ 5) {i : Nat} (hi : i < n) (hf : fullX c (rx i)) : openX c (ex i) = false := by
  unfold openX
  by_cases h1 : (ex i).1 = c + 1
  · have hcl := h.cls i hi
    have hK := h.K i hi
    have hs := slotsC_le c
    rw [h1, show c + 1 - 1 = c by omega] at hK
    rw [h1, show c + 1 - 1 = c by omega]
    have hf' := hf (by omega)
    have : ¬ ((freeI (ex i).2 : Int) < slotsC c) := by
      intro hlt
      rcases freeI_spec _ (hI.fit i hi).2 with ⟨_, h2⟩ | ⟨_, h2, _⟩
      · omega
      · have := (h.bit hI hi (k := freeI (ex i).2) (by omega)).2 (hf' _ (by omega))
        rw [h2] at this; cases this
    simp [this]
  · simp [h1]
theorem Rel.openAt (h : Rel n ex l rx) (hI : SInv n ex l) {c : Int} (hc : 0 ≤ c ∧ c ≤ 5) {i : Nat} (hi : i < n) {k : Nat} (hcl : (rx i).cls = c) (hk : k < (rx i).K) (h0 : (rx i).st k = 0) (hb : ∀ j, j < k → (rx i).st j ≠ 0) :
    freeI (ex i).2 = k ∧ openX c (ex i) = true := by
  have h1 := h.cls i hi
  have hK := h.K i hi
  have hs := slotsC_le c
  have hex : (ex i).1 = c + 1 := by omega
  rw [hex, show c + 1 - 1 = c by omega] at hK
  have hnb : ¬ (ex i).2.testBit k = true := fun hb => (h.bit hI hi hk).1 hb h0
  have hf : freeI (ex i).2 = k := by
    rcases freeI_spec _ (hI.fit i hi).2 with ⟨h2, _⟩ | ⟨h64, h2, h3⟩
    · exfalso
      apply hnb
      rw [h2, show 2 ^ 64 - 1 = 2 ^ 64 - (0 + 1) by omega, Nat.testBit_two_pow_sub_succ (by decide)]
      simp; omega
    · rcases Nat.lt_trichotomy (freeI (ex i).2) k with h4 | h4 | h4
      · have := (h.bit hI hi (k := freeI (ex i).2) (by omega)).2 (hb _ h4)
        rw [h2] at this; cases this
      · exact h4
      · exact absurd (h3 k h4) hnb
  refine ⟨hf, ?_⟩
  unfold openX
  rw [hf, hex, show c + 1 - 1 = c by omega]
  simp; omega
theorem find_none {n : Nat} {p : Nat → Bool} (h : ∀ i, i < n → p i = false) : (List.range n).find? p = none := by
  rw [List.find?_eq_none]
  intro x hx
  rw [h x (List.mem_range.1 hx)]
  simp
theorem rel_upd {k i : Nat} {c : Int} {y : Int × Nat} {e : Int} {v : Value} {j : Nat} {q : Int} (h : i ≠ k) : mget (mput l ⟨k, c, e⟩ v) ⟨i, q, j⟩ = mget l ⟨i, q, j⟩ := by
  rw [look_put, if_neg]
  intro h'
  simp only [Slot.mk.injEq] at h'
  omega
theorem Rel.take (h : Rel n ex l rx) (hI : SInv n ex l) {c : Int} {lo : Nat} {x : Slot} {err : Int} {rx' : Nat → RX} (ht : TakeIs n rx c lo x err rx') (hnum : ∀ i, i < n → numRX (rx' i)) :
    x = (takeR n ex l c).x ∧ err = (takeR n ex l c).err ∧ Rel n (takeR n ex l c).ex (takeR n ex l c).l rx' := by
  cases ht with
  | bad hb => unfold takeR; rw [if_pos hb]; exact ⟨rfl, rfl, h⟩
  | found i k hc hi hcl hk h0 hb hkb =>
    obtain ⟨hf, ho⟩ := h.openAt hI hc hi hcl hk h0 hkb
    have hex : (ex i).1 = c + 1 := by have := h.cls i hi; omega
    have ha : takeAt n ex c = some i := by
      unfold takeAt
      rw [find_range hi ho (fun j hj => h.openFull hI hc (by omega) (hb j hj))]
      rfl
    have e : takeR n ex l c = ⟨⟨i, c, freeI (ex i).2⟩, 0, upd ex i (c + 1, (ex i).2 ||| 2 ^ freeI (ex i).2), mput l ⟨i, c, freeI (ex i).2⟩ (encT false 0)⟩ := by unfold takeR; rw [if_neg (by omega), ha]
    rw [e, hf]
    refine ⟨rfl, rfl, fun j hj => ?_, fun j hj q hq => ?_, hnum⟩
    · by_cases hji : j = i
      · subst hji
        simp only [upd_same]
        unfold rxS; rw [updR_same]; simp only; omega
      · simp only [upd_ne hji]
        unfold rxS; rw [updR_ne hji]; exact h.cls j hj
    · by_cases hji : j = i
      · subst hji
        simp only [upd_same]
        unfold rxS at hq ⊢
        rw [updR_same] at hq ⊢
        simp only at hq ⊢
        unfold setF
        by_cases hqk : q = k
        · subst hqk
          rw [if_pos rfl, look_put, if_pos (by rw [show c + 1 - 1 = c by omega])]
          exact stOf_some.2 (.inr ⟨rfl, rfl⟩)
        · rw [if_neg hqk, look_put, if_neg (by simp only [Slot.mk.injEq]; omega)]
          have := h.st j hj q hq
          rw [hex] at this
          exact this
      · simp only [upd_ne hji]
        unfold rxS at hq ⊢
        rw [updR_ne hji] at hq ⊢
        rw [rel_upd (y := (0, 0)) hji]
        exact h.st j hj q hq
  | fresh i sb eb hc hi hcl ha hb hs he =>
    have hex : (ex i).1 = 0 := by have := h.cls i hi; have := (hI.fit i hi).1; omega
    have hu : (ex i).2 = 0 := (hI.free i hi).1 hex
    have hf : freeI (ex i).2 = 0 := by rw [hu]; decide +kernel
    have hp := slotsC_pos c hc
    have ht : takeAt n ex c = some i := by
      unfold takeAt
      rw [find_none (fun j hj => h.openFull hI hc hj (ha j hj)), Option.none_or]
      refine find_range hi (by simp [hex]) (fun j hj => ?_)
      have := h.cls j (by omega)
      have := hb j hj
      simp; omega
    have e : takeR n ex l c = ⟨⟨i, c, freeI (ex i).2⟩, 0, upd ex i (c + 1, (ex i).2 ||| 2 ^ freeI (ex i).2), mput l ⟨i, c, freeI (ex i).2⟩ (encT false 0)⟩ := by unfold takeR; rw [if_neg (by omega), ht]
    rw [e, hf]
    refine ⟨rfl, rfl, fun j hj => ?_, fun j hj q hq => ?_, hnum⟩
    · by_cases hji : j = i
      · subst hji
        simp only [upd_same]
        unfold rxS; rw [updR_same, updR_same]; simp only [newX]; omega
      · simp only [upd_ne hji]
        unfold rxS; rw [updR_ne hji, updR_ne hji]; exact h.cls j hj
    · by_cases hji : j = i
      · subst hji
        simp only [upd_same]
        unfold rxS at hq ⊢
        rw [updR_same, updR_same] at hq ⊢
        simp only at hq ⊢
        unfold setF
        by_cases hqk : q = 0
        · subst hqk
          rw [if_pos rfl, look_put, if_pos (by rw [show c + 1 - 1 = c by omega])]
          exact stOf_some.2 (.inr ⟨rfl, rfl⟩)
        · rw [if_neg hqk, look_put, if_neg (by simp only [Slot.mk.injEq]; omega)]
          have : mget l ⟨j, c + 1 - 1, q⟩ = none := by
            cases e : mget l ⟨j, c + 1 - 1, q⟩ with
            | none => rfl
            | some v =>
              obtain ⟨⟨_, k2, _, k4, _⟩, _⟩ := hI.key e
              simp only [Int.toNat_natCast] at k2 k4
              omega
          rw [this]
          rfl
      · simp only [upd_ne hji]
        unfold rxS at hq ⊢
        rw [updR_ne hji, updR_ne hji] at hq ⊢
        rw [rel_upd (y := (0, 0)) hji]
        exact h.st j hj q hq
  | full hc ha hb =>
    have ht : takeAt n ex c = none := by
      unfold takeAt
      rw [find_none (fun j hj => h.openFull hI hc hj (ha j hj)), Option.none_or]
      refine find_none (fun j hj => ?_)
      have := h.cls j hj
      have := hb j hj
      simp; omega
    have e : takeR n ex l c = ⟨zeroS, 4, ex, l⟩ := by unfold takeR; rw [if_neg (by omega), ht]
    rw [e]
    exact ⟨rfl, rfl, h⟩

/-! ### drop -/
theorem Rel.state (h : Rel n ex l rx) (hI : SInv n ex l) (x : Slot) : (stateR n rx x = 1 ↔ (mget l x).elim false liveV = true) ∧ (stateR n rx x = 1 → ∃ e k : Nat, x = ⟨e, (ex e).1 - 1, k⟩ ∧ e < n ∧ k < (rx e).K) := by
  unfold stateR
  cases hb : thereR n rx x
  · simp only [Bool.false_eq_true, if_false]
    refine ⟨⟨fun h => by omega, fun hm => ?_⟩, fun h => by omega⟩
    exfalso
    cases e : mget l x with
    | none => rw [e] at hm; cases hm
    | some v =>
      obtain ⟨⟨k1, k2, k3, k4, _⟩, _⟩ := hI.key e
      have hc : classX n ex x.e = x.c := by unfold classX; rw [if_neg (by omega), k4]; omega
      rw [h.there_] at hb
      unfold thereB at hb
      rw [hc] at hb
      simp at hb
      omega
  · simp only [if_true]
    have ht := hb
    unfold thereR at ht
    simp only [Bool.and_eq_true, decide_eq_true_eq] at ht
    obtain ⟨⟨⟨t1, t2⟩, t3⟩, t4⟩ := ht
    unfold classR at t2
    have hr : ¬ (x.e < 0 ∨ (n : Int) ≤ x.e) := fun hc => by rw [if_pos hc] at t2; omega
    rw [if_neg hr] at t2
    have hcl := h.cls x.e.toNat (by omega)
    have hK := h.K x.e.toNat (by omega)
    have hex : (ex x.e.toNat).1 - 1 = x.c := by omega
    rw [hex] at hK
    have hxx : x = ⟨(x.e.toNat : Nat), (ex x.e.toNat).1 - 1, (x.i.toNat : Nat)⟩ := by
      cases x; simp only [Slot.mk.injEq] at *; omega
    have hkk : x.i.toNat < (rx x.e.toNat).K := by omega
    have hs := h.st x.e.toNat (by omega) x.i.toNat hkk
    rw [← hxx] at hs
    exact ⟨st1 hs, fun _ => ⟨x.e.toNat, x.i.toNat, hxx, by omega, hkk⟩⟩
theorem dropR_eq (l : States) (x : Slot) (ep : Nat) : dropR l x ep = if (mget l x).elim false liveV = true then (0, mput l x (encT true ep)) else (3, l) := by
  unfold dropR
  cases mget l x with
  | none => rfl
  | some v =>
    have hl : (some v).elim false liveV = !boolAt v := rfl
    by_cases hb : boolAt v = true
    · rw [if_neg (show ¬ ((some v).elim false liveV = true) by rw [hl, hb]; simp)]
      exact if_pos hb
    · rw [if_pos (show (some v).elim false liveV = true by rw [hl]; simpa using hb)]
      exact if_neg hb
theorem Rel.drop1 (h : Rel n ex l rx) (x : Slot) (ep : Nat) {e k : Nat} (hx : x = ⟨e, (ex e).1 - 1, k⟩) (he : e < n) (hk : k < (rx e).K) (hep : ep < 2 ^ 64) (hnum : ∀ i, i < n → numRX (dropRx rx e k ep i)) : Rel n ex (mput l x (encT true ep)) (dropRx rx e k ep) := by
  subst hx
  refine ⟨fun j hj => ?_, fun j hj q hq => ?_, hnum⟩
  · unfold dropRx rxE
    by_cases hje : j = e
    · subst hje; rw [updR_same]; simp only; unfold rxS; rw [updR_same]; exact h.cls j hj
    · rw [updR_ne hje]; unfold rxS; rw [updR_ne hje]; exact h.cls j hj
  · unfold dropRx rxE at hq ⊢
    by_cases hje : j = e
    · subst hje
      rw [updR_same] at hq ⊢
      simp only at hq ⊢
      unfold rxS at hq ⊢
      rw [updR_same] at hq ⊢
      simp only at hq ⊢
      unfold setF
      by_cases hqk : q = k
      · subst hqk
        rw [if_pos rfl, if_pos rfl, look_put, if_pos rfl]
        exact stOf_some.2 (.inl ⟨rfl, rfl, rfl⟩)
      · rw [if_neg hqk, if_neg hqk, look_put, if_neg (by simp only [Slot.mk.injEq]; omega)]
        exact h.st j hj q hq
    · rw [updR_ne hje] at hq ⊢
      unfold rxS at hq ⊢
      rw [updR_ne hje] at hq ⊢
      rw [rel_upd (y := (0, 0)) hje]
      exact h.st j hj q hq

/-! ### due -/
theorem exD_1 : ∀ (ys : List Slot) (ex : Exts) (i : Nat), (exD ex ys i).1 = 0 ∨ (exD ex ys i).1 = (ex i).1
  | [], ex, i => .inr rfl
  | y :: ys, ex, i => by
    have h1 := exD_1 ys (dropX ex y) i
    have h2 : (dropX ex y i).1 = 0 ∨ (dropX ex y i).1 = (ex i).1 := by
      unfold dropX
      by_cases hi : i = y.e.toNat
      · subst hi
        rw [upd_same]
        simp only
        split
        · exact .inl rfl
        · exact .inr rfl
      · rw [upd_ne hi]; exact .inr rfl
    show (exD (dropX ex y) ys i).1 = 0 ∨ (exD (dropX ex y) ys i).1 = (ex i).1
    rcases h1 with h1 | h1
    · exact .inl h1
    · rw [h1]; exact h2
theorem Rel.dues (h : Rel n ex l rx) (hI : SInv n ex l) (ep : Nat) (hnum : ∀ i, i < n → numRX (dueRx rx ep n i)) : Rel n (exD ex (canon (dueV ep) n ex l)) (lD l (canon (dueV ep) n ex l)) (dueRx rx ep n) := by
  obtain ⟨ys, hy⟩ : ∃ ys, canon (dueV ep) n ex l = ys := ⟨_, rfl⟩
  have hin : ∀ x, x ∈ ys ↔ ∃ v, mget l x = some v ∧ dueV ep v = true := fun x => by rw [← hy]; exact mem_canonJ hI
  have hnd : ys.Nodup := hy ▸ canonNd _ _ _ _
  rw [hy]
  obtain ⟨hI', hg⟩ := due_inv ys hI hnd (fun x hx => by obtain ⟨v, hv, _⟩ := (hin x).1 hx; rw [hv]; rfl)
  have hg' : ∀ x, mget (lD l ys) x = if (mget l x).elim false (dueV ep) = true then none else mget l x := fun x => by
    rw [hg x]
    by_cases hx : x ∈ ys
    · obtain ⟨v, hv, hd⟩ := (hin x).1 hx
      rw [if_pos hx, hv, Option.elim_some, if_pos hd]
    · rw [if_neg hx]
      cases e : mget l x with
      | none => rfl
      | some v =>
        rw [Option.elim_some, if_neg]
        intro hd
        exact hx ((hin x).2 ⟨v, e, hd⟩)
  -- an extent keeps some slot just if its class stays
  have key : ∀ i, i < n → (someS (rx i) ep (rx i).K = true ↔ (exD ex ys i).1 ≠ 0) := by
    intro i hi
    have hfr := hI'.free i hi
    constructor
    · intro hs h0
      unfold someS at hs
      obtain ⟨k, hk, hp⟩ := List.any_eq_true.1 hs
      have hk := List.mem_range.1 hk
      simp only [Bool.and_eq_true, Bool.not_eq_true', decide_eq_true_eq] at hp
      have hst := h.st i hi k hk
      have hd : (mget l ⟨i, (ex i).1 - 1, k⟩).elim false (dueV ep) = false := by rw [← std hst ep]; exact hp.1
      have hg2 := hg' ⟨i, (ex i).1 - 1, k⟩
      rw [hd, if_neg (by simp)] at hg2
      cases e : mget l ⟨i, (ex i).1 - 1, k⟩ with
      | none => exact hp.2 ((st0 hst).2 e)
      | some v =>
        rw [e] at hg2
        obtain ⟨⟨_, k2, _, k4, _⟩, _⟩ := hI'.key hg2
        simp only [Int.toNat_natCast] at k2 k4
        omega
    · intro hne
      have hu : (exD ex ys i).2 ≠ 0 := fun h0 => hne (hfr.2 h0)
      have hb : ∃ k, (exD ex ys i).2.testBit k = true := by
        rcases Classical.em (∃ k, (exD ex ys i).2.testBit k = true) with h | h
        · exact h
        · exfalso
          apply hu
          apply Nat.eq_of_testBit_eq
          intro k
          rw [Nat.zero_testBit]
          cases e : (exD ex ys i).2.testBit k with
          | false => rfl
          | true => exact absurd ⟨k, e⟩ h
      obtain ⟨k, hk⟩ := hb
      have hm := hI'.bits i hi k hk
      have hcl : (exD ex ys i).1 = (ex i).1 := (exD_1 ys ex i).resolve_left hne
      rw [hcl, hg'] at hm
      split at hm
      · cases hm
      · rename_i hd
        have hkK : k < (rx i).K := by
          rcases Nat.lt_or_ge k (rx i).K with h1 | h1
          · exact h1
          · rw [h.out hI hi h1] at hm; cases hm
        have hst := h.st i hi k hkK
        unfold someS
        refine List.any_eq_true.2 ⟨k, List.mem_range.2 hkK, ?_⟩
        simp only [Bool.and_eq_true, Bool.not_eq_true', decide_eq_true_eq]
        refine ⟨?_, fun h0 => ?_⟩
        · have : dueB (rx i) ep k = (mget l ⟨i, (ex i).1 - 1, k⟩).elim false (dueV ep) := std hst ep
          rw [this]; simpa using hd
        · rw [(st0 hst).1 h0] at hm; cases hm
  refine ⟨fun i hi => ?_, fun i hi k hk => ?_, hnum⟩
  · unfold dueRx
    rw [if_pos hi]
    unfold dueX1
    by_cases hs : someS (rx i) ep (rx i).K = true
    · rw [if_pos hs, (exD_1 ys ex i).resolve_left ((key i hi).1 hs)]
      exact h.cls i hi
    · rw [if_neg hs]
      have : (exD ex ys i).1 = 0 := Classical.byContradiction fun h0 => hs ((key i hi).2 h0)
      rw [this]; rfl
  · unfold dueRx at hk ⊢
    rw [if_pos hi] at hk ⊢
    unfold dueX1 at hk ⊢
    by_cases hs : someS (rx i) ep (rx i).K = true
    · rw [if_pos hs] at hk ⊢
      have hkK : k < (rx i).K := hk
      rw [(exD_1 ys ex i).resolve_left ((key i hi).1 hs), hg']
      have hst := h.st i hi k hkK
      have hd : dueB (rx i) ep k = (mget l ⟨i, (ex i).1 - 1, k⟩).elim false (dueV ep) := std hst ep
      unfold dueS
      simp only
      by_cases hdd : dueB (rx i) ep k = true
      · rw [if_pos (hd ▸ hdd), if_pos (show k < (rx i).K ∧ dueB (rx i) ep k = true from ⟨hkK, hdd⟩)]
        rfl
      · rw [if_neg (hd ▸ hdd), if_neg (show ¬ (k < (rx i).K ∧ dueB (rx i) ep k = true) from fun h => hdd h.2)]
        exact hst
    · rw [if_neg hs] at hk
      exact absurd hk (Nat.not_lt_zero _)
end Go.Proofs.YtaikapgpkkpdjaaDoor.L
