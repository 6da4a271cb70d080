/- A range over a map, the map a list of entries: which have come, in the order in which they came; once none is left, all have, each once. -/
import Derived.Test.YtmpbhoijkcanmaaGMap
import Derived.Maps.RangeRun
import Derived.Maps.RangeWalk
namespace Go.Proofs.Ytmpbhoijkcanmaa.G
open Go.ChangeMaps (setBlock)
open Go.RowKit Go.Maps Go.WideMaps
set_option linter.unusedVariables false
set_option linter.unusedSimpArgs false
set_option linter.unusedSectionVars false

section
variable {α : Type} {P : Program} {kt : TypeId} {enc : α → Value} {w w' : World} {r b : Nat} {l done : List (α × Value)}

/-- BLOCK r IS AN ITERATOR OVER THE MAP IN BLOCK b (entries: l); 'done' have come. -/
def IterIs (P : Program) (kt : TypeId) (enc : α → Value) (w : World) (r b : Nat) (l done : List (α × Value)) : Prop :=
  ∃ (E : Array MapEntry) (clock since c0 : Nat) (seen : Array Nat) (idx : List Nat), w.heap[b]? = some (.map E clock) ∧ E.toList.map (fun e => (e.key, e.val)) = l.map (fun p => (enc p.1, p.2)) ∧ (E.toList.map (·.born)).Nodup ∧
    w.heap[r]? = some (.mapIter (some b) since seen c0) ∧ since ≤ c0 ∧ since ≤ clock ∧ (∀ e ∈ E.toList, e.born < since) ∧
    idx.Nodup ∧ (∀ i ∈ idx, i < l.length) ∧ seen.toList.map some = idx.map (fun i => (E.toList.map (·.born))[i]?) ∧ done.map some = idx.map (fun i => l[i]?)

theorem IterIs.kept (h : IterIs P kt enc w r b l done) (hb : w'.heap[b]? = w.heap[b]?) (hr : w'.heap[r]? = w.heap[r]?) : IterIs P kt enc w' r b l done := by
  obtain ⟨E, clock, since, c0, seen, idx, h1, h2, h3, h4, h5⟩ := h
  exact ⟨E, clock, since, c0, seen, idx, by rw [hb]; exact h1, h2, h3, by rw [hr]; exact h4, h5⟩
theorem IterIs.lt (h : IterIs P kt enc w r b l done) : r < w.heap.size ∧ b < w.heap.size := by
  obtain ⟨E, clock, since, c0, seen, idx, h1, h2, h3, h4, h5⟩ := h
  exact ⟨lt_of_at h4, lt_of_at h1⟩
theorem IterIs.turned (h : IterIs P kt enc w r b l done) {S : List Nat} (t : Turned S w w') (h1 : r ∉ S) (h2 : b ∉ S) : IterIs P kt enc w' r b l done :=
  h.kept (t.block b h.lt.2 h2) (t.block r h.lt.1 h1)
theorem IterIs.len_le (h : IterIs P kt enc w r b l done) : done.length ≤ l.length := by
  obtain ⟨E, clock, since, c0, seen, idx, h1, h2, h3, h4, h5, h6, h7, h8, h9, h10, h11⟩ := h
  have e : done.length = idx.length := by simpa using congrArg List.length h11
  have hp : idx.Perm ((List.range l.length).filter fun i => decide (i ∈ idx)) :=
    (List.perm_ext_iff_of_nodup h8 (List.nodup_range.filter _)).2 fun i => ⟨fun hi => List.mem_filter.2 ⟨by simpa using h9 i hi, by simpa using hi⟩, fun hi => by simpa using (List.mem_filter.1 hi).2⟩
  rw [e, hp.length_eq]
  exact Nat.le_trans (List.length_filter_le _ _) (by simp)

theorem map_some_perm {β : Type} {x y : List β} (h : (x.map some).Perm (y.map some)) : x.Perm y := by
  have := h.filterMap id
  simpa [List.filterMap_map] using this

/-- the loop begins -/
theorem MapIs.run_range (h : MapIs P kt enc w b l) {t et : TypeId} (ht : P.underlying t = some (.map kt et)) :
    ∃ w', (Instr.range t (.map (some b))).run P w = .ok (.pointer (some ⟨w.heap.size, 0, none⟩)) w' ∧ IterIs P kt enc w' w.heap.size b l [] ∧ Turned [] w w' := by
  obtain ⟨E, clock, h1, h2, h3, h4, h5, h6⟩ := h
  have hlt := lt_of_at h1
  refine ⟨_, run_range_map w t kt et b E clock ht h1, ⟨E, clock, clock, clock, #[], [], ?_, h2, h6, heap_alloc_new _ _, Nat.le_refl _, Nat.le_refl _, h5, List.nodup_nil, by simp, by simp, rfl⟩, (Turned.refl [] w).alloc _⟩
  rw [heap_alloc_old w _ hlt]; exact h1

/-- a step -/
theorem IterIs.run_next (h : IterIs P kt enc w r b l done) (ty : TypeId) :
    (done.Perm l ∧ (Instr.next (.pointer (some ⟨r, 0, none⟩)) false ty).run P w = .ok (.tuple #[.bool false]) w) ∨
    ∃ p w', p ∈ l ∧ (Instr.next (.pointer (some ⟨r, 0, none⟩)) false ty).run P w = .ok (.tuple #[.bool true, enc p.1, p.2]) w' ∧ IterIs P kt enc w' r b l (done ++ [p]) ∧ Turned [r] w w' ∧ w'.heap.size = w.heap.size ∧
      (Instr.entry (.pointer (some ⟨r, 0, none⟩))).run P w' = .ok (.tuple #[enc p.1, p.2]) w' := by
  obtain ⟨E, clock, since, c0, seen, idx, h1, h2, h3, h4, h5, h6, h7, h8, h9, h10, h11⟩ := h
  have hlen : E.toList.length = l.length := by simpa using congrArg List.length h2
  have hne : r ≠ b := by intro e; rw [e, h1] at h4; cases h4
  have hseen : ∀ i (hi : i < E.toList.length), E.toList[i].born ∈ seen.toList ↔ i ∈ idx := by
    intro i hi
    constructor
    · intro hm
      have : some E.toList[i].born ∈ seen.toList.map some := List.mem_map.2 ⟨_, hm, rfl⟩
      rw [h10] at this
      obtain ⟨j, hj, e⟩ := List.mem_map.1 this
      have hjl : j < E.toList.length := by rw [hlen]; exact h9 j hj
      simp only [List.getElem?_map, List.getElem?_eq_getElem hjl, Option.map_some, Option.some.injEq] at e
      have hjl' : j < (E.toList.map (·.born)).length := by simpa using hjl
      have hil' : i < (E.toList.map (·.born)).length := by simpa using hi
      have : j = i := (List.getElem_inj (h₀ := hjl') (h₁ := hil') h3).1 (by simpa using e)
      rwa [← this]
    · intro hm
      have : some E.toList[i].born ∈ idx.map (fun i => (E.toList.map (·.born))[i]?) := List.mem_map.2 ⟨i, hm, by simp [List.getElem?_eq_getElem hi]⟩
      rw [← h10] at this
      obtain ⟨x, hx, e⟩ := List.mem_map.1 this
      cases e
      exact hx
  rcases run_next_at (P := P) w ty r b since c0 seen E clock h4 h1 h7 h5 with ⟨h0, hrun⟩ | ⟨e, he, w1, hal, hrun⟩
  · refine .inl ⟨map_some_perm ?_, hrun⟩
    rw [h11]
    have hp : idx.Perm (List.range l.length) := by
      refine (List.perm_ext_iff_of_nodup h8 List.nodup_range).2 fun i => ⟨fun hi => by simpa using h9 i hi, fun hi => ?_⟩
      have hi' : i < E.toList.length := by rw [hlen]; simpa using hi
      refine (hseen i hi').1 ?_
      have hall : ∀ x ∈ E.toList, seen.contains x.born = true := by
        intro x hx
        cases hc : seen.contains x.born with
        | true => rfl
        | false =>
          have : x ∈ leftOf E seen := by unfold leftOf; rw [Array.mem_filter]; exact ⟨by simpa using hx, by rw [hc]; rfl⟩
          rw [Array.eq_empty_of_size_eq_zero h0] at this
          simp at this
      have := hall _ (List.getElem_mem hi')
      simpa using this
    refine (hp.map _).trans ?_
    have : (List.range l.length).map (fun i => l[i]?) = l.map some := by
      apply List.ext_getElem?
      intro i
      by_cases hi : i < l.length
      · simp [List.getElem?_range, hi]
      · simp [List.getElem?_eq_none, Nat.le_of_not_lt hi]
    rw [this]
  · have hem : e ∈ E.toList ∧ seen.contains e.born = false := by
      have h' := he
      unfold leftOf at h'
      simp at h'
      exact ⟨by simpa using h'.1, by simpa using h'.2⟩
    obtain ⟨i, hi, hie⟩ := List.getElem_of_mem hem.1
    have hil : i < l.length := by rw [← hlen]; exact hi
    have hkv : (e.key, e.val) = (enc l[i].1, l[i].2) := by
      have : (E.toList.map (fun e => (e.key, e.val)))[i]? = (l.map (fun p => (enc p.1, p.2)))[i]? := by rw [h2]
      rw [List.getElem?_map, List.getElem?_map, List.getElem?_eq_getElem hi, List.getElem?_eq_getElem hil, hie] at this
      simpa using this
    simp only [Prod.mk.injEq] at hkv
    have hnot : i ∉ idx := by
      intro hm
      have := (hseen i hi).2 hm
      rw [hie] at this
      have h' : seen.contains e.born = true := by simpa using this
      rw [hem.2] at h'
      cases h'
    have hr1 : w1.heap[r]? = some (.mapIter (some b) since seen c0) := by rcases hal with rfl | rfl <;> exact h4
    have hb1 : w1.heap[b]? = some (.map E clock) := by rcases hal with rfl | rfl <;> exact h1
    have hset := Go.MapKept.heap_set (o' := .mapIter (some b) since (seen.push e.born) clock) hr1
    have hb' : (setBlock w1 r (.mapIter (some b) since (seen.push e.born) clock)).heap[b]? = some (.map E clock) := (hset.2 b (fun e1 => hne e1.symm)).trans hb1
    refine .inr ⟨l[i], _, List.getElem_mem hil, by rw [hrun, hkv.1, hkv.2], ⟨E, clock, since, clock, seen.push e.born, idx ++ [i], hb', h2, h3, hset.1, h6, h6, h7, ?_, ?_, ?_, ?_⟩, ?_, ?_, ?_⟩
    · rw [List.nodup_append]
      exact ⟨h8, by simp, fun a ha c hc => by simp at hc; subst hc; intro e; exact hnot (e ▸ ha)⟩
    · intro j hj
      rcases List.mem_append.1 hj with hj | hj
      · exact h9 j hj
      · simp at hj; subst hj; exact hil
    · rw [Array.toList_push, List.map_append, List.map_append, h10]
      have h' : E[i]? = some e := by rw [← Array.getElem?_toList, List.getElem?_eq_getElem hi, hie]
      simp [h']
    · rw [List.map_append, List.map_append, h11]
      simp [List.getElem?_eq_getElem hil]
    · rcases hal with rfl | rfl
      · exact (Turned.refl [r] _).laid (.inl (by simp)) _
      · exact ((Turned.refl [r] _).drew).laid (.inl (by simp)) _
    · rcases hal with rfl | rfl <;> simp [setBlock]
    · rw [← hkv.1, ← hkv.2]
      exact run_entry_at _ r b since seen E clock e hset.1 hb' hem.1 h3
end

/-! ### at the operation, for the walk -/
section
variable {α : Type} {P : Program} (w : World) {ops : Array Oper} {rest : List Oper} {o : Oper} {a : Act} {Q : Exit → Act → World → Prop}

/-- (at_range; refine wp_range _ rfl _ _ rfl HT b l rfl h ?_) -/
theorem wp_range (hg : o.guard = none) (m : Operand) (t : TypeId) (hop : o.op = Op.range t m) {kt et : TypeId} {enc : α → Value} (ht : P.underlying t = some (.map kt et)) (b : Nat) (l : List (α × Value))
    (hm : a.eval m = .map (some b)) (h : MapIs P kt enc w b l)
    (hK : ∀ w', IterIs P kt enc w' w.heap.size b l [] → Turned [] w w' → wpList P ops Q rest (a.put o.dst (.pointer (some ⟨w.heap.size, 0, none⟩))) w') :
    wpList P ops Q (o :: rest) a w := by
  refine wpList_plain hg fun K' hK' => ?_
  obtain ⟨w', hrun, r1, r2⟩ := h.run_range ht
  unfold Oper.wp
  simp [execOp, hop, hm, hrun, Result.andThen]
  exact hK' _ _ (hK w' r1 r2)

/-- (at_next; refine wp_next _ rfl _ rfl r b l done rfl h ?_ ?_) -/
theorem wp_next (hg : o.guard = none) (it : Operand) (hop : o.op = Op.next it false) {kt : TypeId} {enc : α → Value} (r b : Nat) (l done : List (α × Value))
    (hit : a.eval it = .pointer (some ⟨r, 0, none⟩)) (h : IterIs P kt enc w r b l done)
    (hDone : done.Perm l → wpList P ops Q rest (a.put o.dst (.tuple #[.bool false])) w)
    (hMore : ∀ (k : α) (v : Value) (w' : World), (k, v) ∈ l → IterIs P kt enc w' r b l (done ++ [(k, v)]) → Turned [r] w w' → w'.heap.size = w.heap.size →
      (Instr.entry (.pointer (some ⟨r, 0, none⟩))).run P w' = .ok (.tuple #[enc k, v]) w' → wpList P ops Q rest (a.put o.dst (.tuple #[.bool true, enc k, v])) w') :
    wpList P ops Q (o :: rest) a w := by
  refine wpList_plain hg fun K' hK' => ?_
  unfold Oper.wp
  rcases h.run_next o.type with ⟨hp, hrun⟩ | ⟨⟨k, v⟩, w', hm, hrun, r1, r2, r3, r4⟩
  · simp [execOp, hop, hit, hrun, Result.andThen]
    exact hK' _ _ (hDone hp)
  · simp [execOp, hop, hit, hrun, Result.andThen]
    exact hK' _ _ (hMore k v w' hm r1 r2 r3 r4)
end
end Go.Proofs.Ytmpbhoijkcanmaa.G
