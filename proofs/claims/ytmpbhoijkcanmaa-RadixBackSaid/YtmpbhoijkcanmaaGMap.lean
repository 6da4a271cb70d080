/- Maps as lists of entries: a block of memory that is a map whose entries, in the order in which they came, are a list's; what a mget-up, a store, a delete, len do to it. And 'Turned': a world that is another one but for some blocks. -/
import Derived.Maps.OwnSet
import Derived.Maps.Keyed
import Derived.Below
import Derived.OwnWalk
import Derived.Deep.Draws
namespace Go.Proofs.Ytmpbhoijkcanmaa.G
open Go.ChangeMaps (setBlock)
open Go.RowKit Go.Maps Go.WideMaps
set_option linter.unusedVariables false
set_option linter.unusedSimpArgs false
set_option linter.unusedSectionVars false

/-! ### a world but for some blocks -/
/-- w' is w, but for the blocks of S, and new ones. -/
structure Turned (S : List Nat) (w w' : World) : Prop where
  os : w'.os = w.os
  tape : w'.tape = w.tape
  output : w'.output = w.output
  size : w.heap.size ≤ w'.heap.size
  block : ∀ k, k < w.heap.size → k ∉ S → w'.heap[k]? = w.heap[k]?

theorem Turned.refl (S : List Nat) (w : World) : Turned S w w := ⟨rfl, rfl, rfl, Nat.le_refl _, fun _ _ _ => rfl⟩
theorem Turned.trans {S : List Nat} {a b c : World} (h : Turned S a b) (k : Turned S b c) : Turned S a c :=
  ⟨k.os.trans h.os, k.tape.trans h.tape, k.output.trans h.output, Nat.le_trans h.size k.size, fun i hi hn => (k.block i (Nat.lt_of_lt_of_le hi h.size) hn).trans (h.block i hi hn)⟩
theorem Turned.mono {S T : List Nat} {a b : World} (h : Turned S a b) (hs : ∀ k, k < a.heap.size → k ∈ S → k ∈ T) : Turned T a b :=
  ⟨h.os, h.tape, h.output, h.size, fun k hk hn => h.block k hk fun hc => hn (hs k hk hc)⟩
theorem Turned.of_below {a b : World} (h : Below a.heap.size a b) : Turned [] a b := ⟨h.os, h.tape, h.output, h.size, fun k hk _ => h.block k hk⟩
theorem Turned.below {a b : World} (h : Turned [] a b) : Below a.heap.size a b := ⟨h.os, h.tape, h.output, h.size, fun k hk => h.block k hk (by simp)⟩
/-- what is turned is new -/
theorem Turned.below_of {S : List Nat} {a b c : World} (h : Below a.heap.size a b) (k : Turned S b c) (hs : ∀ i ∈ S, a.heap.size ≤ i) : Below a.heap.size a c :=
  ⟨k.os.trans h.os, k.tape.trans h.tape, k.output.trans h.output, Nat.le_trans h.size k.size, fun i hi => (k.block i (Nat.lt_of_lt_of_le hi h.size) fun hm => by have := hs i hm; omega).trans (h.block i hi)⟩
theorem Turned.nil_mono {T : List Nat} {a b : World} (h : Turned [] a b) : Turned T a b := h.mono fun _ _ hk => by cases hk
theorem Turned.alloc {S : List Nat} {a w : World} (h : Turned S a w) (o : Obj) : Turned S a (w.alloc o) :=
  h.trans ⟨rfl, rfl, rfl, by simp, fun k hk _ => Below.heap_alloc _ _ _ hk⟩
theorem Turned.drew {S : List Nat} {a w : World} (h : Turned S a w) : Turned S a w.drew := ⟨h.os, h.tape, h.output, h.size, h.block⟩
theorem Turned.drewN {S : List Nat} {a w : World} (h : Turned S a w) (m : Nat) : Turned S a (w.drewN m) := ⟨h.os, h.tape, h.output, h.size, h.block⟩
theorem Turned.setCell {S : List Nat} {a w : World} (h : Turned S a w) {p : Addr} (hp : p.block ∈ S ∨ a.heap.size ≤ p.block) (u : Value) : Turned S a (w.setCell p u) := by
  refine ⟨h.os, h.tape, h.output, by simpa [World.setCell] using h.size, fun k hk hn => ?_⟩
  have hne : k ≠ p.block := by
    rcases hp with hp | hp
    · exact fun e => hn (e ▸ hp)
    · omega
  exact (Below.heap_setCell _ _ _ _ hne).trans (h.block k hk hn)
theorem Turned.grown {S : List Nat} {a w w' : World} {row : Option Nat} (h : Turned S a w) (hg : w.grownBy w' row) (hr : ∀ k, row = some k → k ∈ S ∨ a.heap.size ≤ k) : Turned S a w' :=
  ⟨hg.os.trans h.os, hg.tape.trans h.tape, hg.output.trans h.output, Nat.le_trans h.size hg.size, fun k hk hn => (hg.block k (Nat.lt_of_lt_of_le hk h.size) (fun e => by
    rcases hr k e.symm with q | q
    · exact hn q
    · omega)).trans (h.block k hk hn)⟩
theorem Turned.laid {S : List Nat} {a w : World} (h : Turned S a w) {b : Nat} (hb : b ∈ S ∨ a.heap.size ≤ b) (o : Obj) : Turned S a (ChangeMaps.setBlock w b o) := by
  refine ⟨h.os, h.tape, h.output, by simpa [ChangeMaps.setBlock] using h.size, fun k hk hn => ?_⟩
  have hne : b ≠ k := by
    rcases hb with hb | hb
    · exact fun e => hn (e ▸ hb)
    · omega
  simp only [ChangeMaps.setBlock, Array.getElem?_setIfInBounds_ne hne]
  exact h.block k hk hn
theorem Turned.at {S : List Nat} {w w' : World} (h : Turned S w w') {k : Nat} {o : Obj} (hk : w.heap[k]? = some o) (hn : k ∉ S) : w'.heap[k]? = some o := by
  have : k < w.heap.size := by
    rcases Nat.lt_or_ge k w.heap.size with q | q
    · exact q
    · simp [Array.getElem?_eq_none q] at hk
  rw [h.block k this hn]; exact hk
theorem lt_of_at {w : World} {k : Nat} {o : Obj} (hk : w.heap[k]? = some o) : k < w.heap.size := by
  rcases Nat.lt_or_ge k w.heap.size with q | q
  · exact q
  · simp [Array.getElem?_eq_none q] at hk
theorem lt_of_cell {w : World} {a : Addr} {v : Value} (h : w.cell? a = some v) : a.block < w.heap.size := by
  rcases Nat.lt_or_ge a.block w.heap.size with q | q
  · exact q
  · simp [World.cell?, Array.getElem?_eq_none q] at h
theorem Turned.cell {S : List Nat} {w w' : World} (h : Turned S w w') {a : Addr} {v : Value} (ha : w.cell? a = some v) (hn : a.block ∉ S) : w'.cell? a = some v := by
  rw [World.cell?_of_block (h.block a.block (lt_of_cell ha) hn)]; exact ha
theorem Turned.frozen {S : List Nat} {w w' : World} (h : Turned S w w') {a : Addr} (ha : a.block < w.heap.size) (hn : a.block ∉ S) : w'.frozen? a = w.frozen? a :=
  World.frozen?_of_block (h.block a.block ha hn)

/-! ### maps as lists -/
section
variable {α : Type} [DecidableEq α]
def mget (l : List (α × Value)) (a : α) : Option Value := (l.find? fun p => decide (p.1 = a)).map (·.2)
def mput (l : List (α × Value)) (a : α) (v : Value) : List (α × Value) := if (l.any fun p => decide (p.1 = a)) then l.map (fun p => if p.1 = a then (a, v) else p) else l ++ [(a, v)]
def mdel (l : List (α × Value)) (a : α) : List (α × Value) := l.filter fun p => decide (p.1 ≠ a)

theorem look_nil (a : α) : mget ([] : List (α × Value)) a = none := rfl
theorem look_cons (p : α × Value) (l : List (α × Value)) (a : α) : mget (p :: l) a = if p.1 = a then some p.2 else mget l a := by
  unfold mget
  rw [List.find?_cons]
  by_cases h : p.1 = a <;> simp [h]
theorem look_append (l m : List (α × Value)) (a : α) : mget (l ++ m) a = (mget l a).or (mget m a) := by
  induction l with
  | nil => simp [look_nil]
  | cons p l ih => rw [List.cons_append, look_cons, look_cons, ih]; by_cases h : p.1 = a <;> simp [h]
theorem look_none {l : List (α × Value)} {a : α} : mget l a = none ↔ ∀ p ∈ l, p.1 ≠ a := by
  unfold mget
  simp
theorem any_iff {l : List (α × Value)} {a : α} : (l.any fun p => decide (p.1 = a)) = (mget l a).isSome := by
  induction l with
  | nil => rfl
  | cons p l ih => rw [List.any_cons, look_cons, ih]; by_cases h : p.1 = a <;> simp [h]
theorem look_map (l : List (α × Value)) (a : α) (v : Value) (c : α) : mget (l.map (fun p => if p.1 = a then (a, v) else p)) c = if c = a then (mget l a).map (fun _ => v) else mget l c := by
  induction l with
  | nil => simp [look_nil]
  | cons p l ih =>
    rw [List.map_cons, look_cons, ih, look_cons, look_cons]
    by_cases h : p.1 = a
    · subst h
      by_cases hc : c = p.1
      · subst hc; simp
      · have hc' : ¬ p.1 = c := fun e => hc e.symm
        simp [hc, hc']
    · by_cases hc : c = a
      · subst hc; simp [h]
      · simp [h, hc]
theorem look_put (l : List (α × Value)) (a : α) (v : Value) (c : α) : mget (mput l a v) c = if c = a then some v else mget l c := by
  unfold mput
  rw [any_iff]
  cases h : mget l a with
  | some x =>
    rw [if_pos (by rfl), look_map, h]
    rfl
  | none =>
    rw [if_neg (by simp), look_append, look_cons, look_nil]
    by_cases hc : c = a
    · subst hc; simp [h]
    · have hc' : ¬ a = c := fun e => hc e.symm
      simp [hc, hc']
theorem look_del (l : List (α × Value)) (a c : α) : mget (mdel l a) c = if c = a then none else mget l c := by
  unfold mdel
  induction l with
  | nil => simp [look_nil]
  | cons p l ih =>
    rw [List.filter_cons, look_cons]
    by_cases h : p.1 = a
    · subst h
      simp only [ne_eq, not_true, decide_false, Bool.false_eq_true, if_false]
      rw [ih]
      by_cases hc : c = p.1
      · simp [hc]
      · have hc' : ¬ p.1 = c := fun e => hc e.symm
        simp [hc, hc']
    · simp only [ne_eq, h, not_false_eq_true, decide_true, if_true]
      rw [look_cons, ih]
      by_cases hc : p.1 = c
      · subst hc; simp [h]
      · simp [hc]
theorem keys_put (l : List (α × Value)) (a : α) (v : Value) : (mput l a v).map (·.1) = if (mget l a).isSome then l.map (·.1) else l.map (·.1) ++ [a] := by
  unfold mput
  rw [any_iff]
  split
  · rw [List.map_map]
    apply List.map_congr_left
    intro p _
    by_cases h : p.1 = a <;> simp [h]
  · simp
theorem keys_del (l : List (α × Value)) (a : α) : (mdel l a).map (·.1) = (l.map (·.1)).filter fun c => decide (c ≠ a) := by
  unfold mdel
  rw [List.filter_map]
  rfl
theorem mem_keys {l : List (α × Value)} {a : α} : a ∈ l.map (·.1) ↔ (mget l a).isSome = true := by
  rw [← any_iff]
  simp
theorem nodup_put {l : List (α × Value)} (h : (l.map (·.1)).Nodup) (a : α) (v : Value) : ((mput l a v).map (·.1)).Nodup := by
  rw [keys_put]
  split
  · exact h
  · rename_i hn
    rw [List.nodup_append]
    refine ⟨h, by simp, fun x hx y hy => ?_⟩
    simp only [List.mem_singleton] at hy
    subst hy
    exact fun e => hn (mem_keys.1 (e ▸ hx))
theorem nodup_del {l : List (α × Value)} (h : (l.map (·.1)).Nodup) (a : α) : ((mdel l a).map (·.1)).Nodup := by
  rw [keys_del]
  exact h.filter _
theorem length_put_le (l : List (α × Value)) (a : α) (v : Value) : (mput l a v).length ≤ l.length + 1 := by
  unfold mput
  split <;> simp
theorem length_del_le (l : List (α × Value)) (a : α) : (mdel l a).length ≤ l.length := List.length_filter_le _ _
theorem look_of_mem {l : List (α × Value)} (h : (l.map (·.1)).Nodup) {p : α × Value} (hp : p ∈ l) : mget l p.1 = some p.2 := by
  induction l with
  | nil => cases hp
  | cons q l ih =>
    rw [look_cons]
    simp only [List.map_cons, List.nodup_cons] at h
    rcases List.mem_cons.1 hp with e | e
    · subst e; simp
    · have : q.1 ≠ p.1 := fun e' => h.1 (e' ▸ List.mem_map_of_mem e)
      rw [if_neg this]
      exact ih h.2 e
theorem mem_of_look {l : List (α × Value)} {a : α} {v : Value} (h : mget l a = some v) : (a, v) ∈ l := by
  induction l with
  | nil => cases h
  | cons q l ih =>
    rw [look_cons] at h
    by_cases e : q.1 = a
    · rw [if_pos e] at h
      simp only [Option.some.injEq] at h
      have : q = (a, v) := by rw [← e, ← h]
      rw [this]; exact List.mem_cons_self
    · rw [if_neg e] at h
      exact List.mem_cons_of_mem _ (ih h)

/-- BLOCK b OF w IS A MAP: its entries, in the order in which they came, are l's. -/
def MapIs (P : Program) (kt : TypeId) (enc : α → Value) (w : World) (b : Nat) (l : List (α × Value)) : Prop :=
  ∃ (E : Array MapEntry) (clock : Nat), w.heap[b]? = some (.map E clock) ∧ E.toList.map (fun e => (e.key, e.val)) = l.map (fun p => (enc p.1, p.2)) ∧ (l.map (·.1)).Nodup ∧
    (∀ p ∈ l, ∃ x, keyOf P kt (enc p.1) = some x) ∧ (∀ e ∈ E.toList, e.born < clock) ∧ (E.toList.map (·.born)).Nodup

variable {P : Program} {kt : TypeId} {enc : α → Value} {w w' : World} {b : Nat} {l : List (α × Value)}

theorem MapIs.nodup (h : MapIs P kt enc w b l) : (l.map (·.1)).Nodup := let ⟨_, _, _, _, h, _⟩ := h; h
theorem MapIs.keyed (h : MapIs P kt enc w b l) : ∀ p ∈ l, ∃ x, keyOf P kt (enc p.1) = some x := let ⟨_, _, _, _, _, h, _⟩ := h; h
theorem MapIs.lt (h : MapIs P kt enc w b l) : b < w.heap.size := let ⟨_, _, h, _⟩ := h; lt_of_at h
theorem MapIs.kept (h : MapIs P kt enc w b l) (hb : w'.heap[b]? = w.heap[b]?) : MapIs P kt enc w' b l := by
  obtain ⟨E, c, h1, h2⟩ := h
  exact ⟨E, c, by rw [hb]; exact h1, h2⟩
theorem MapIs.turned (h : MapIs P kt enc w b l) {S : List Nat} (t : Turned S w w') (hn : b ∉ S) : MapIs P kt enc w' b l := h.kept (t.block b h.lt hn)
theorem MapIs.alloc (h : MapIs P kt enc w b l) (o : Obj) : MapIs P kt enc (w.alloc o) b l := h.turned ((Turned.refl [] w).alloc o) (by simp)
theorem MapIs.setCell (h : MapIs P kt enc w b l) {p : Addr} (hp : b ≠ p.block) (u : Value) : MapIs P kt enc (w.setCell p u) b l := h.kept (Below.heap_setCell _ _ _ _ hp)
theorem MapIs.drew (h : MapIs P kt enc w b l) : MapIs P kt enc w.drew b l := h
theorem MapIs.made (w : World) : MapIs P kt enc (w.alloc (.map #[] 0)) w.heap.size ([] : List (α × Value)) :=
  ⟨#[], 0, (MapKept.heap_alloc w _).1, rfl, List.nodup_nil, by simp, by simp, by simp⟩

/-- where a key stands -/
theorem find_pos (K : Keyed P kt) (hinj : ∀ a c, enc a = enc c → a = c) {E : Array MapEntry} (h2 : E.toList.map (fun e => (e.key, e.val)) = l.map (fun p => (enc p.1, p.2))) (hnd : (l.map (·.1)).Nodup)
    (hk : ∀ p ∈ l, ∃ x, keyOf P kt (enc p.1) = some x) (w : World) (a : α) {x : Lit} (ha : keyOf P kt (enc a) = some x) :
    ((Instr.findKey kt (enc a) E.toList).run P w = .ok none w ∧ mget l a = none) ∨
    ∃ j v, (Instr.findKey kt (enc a) E.toList).run P w = .ok (some (j, v)) w ∧ l[j]? = some (a, v) ∧ mget l a = some v := by
  have hkE : ∀ e ∈ E.toList, ∃ x, keyOf P kt e.key = some x := by
    intro e he
    have : (e.key, e.val) ∈ l.map (fun p => (enc p.1, p.2)) := by rw [← h2]; exact List.mem_map_of_mem (f := fun e : MapEntry => (e.key, e.val)) he
    obtain ⟨p, hp, hpe⟩ := List.mem_map.1 this
    simp only [Prod.mk.injEq] at hpe
    rw [← hpe.1]; exact hk p hp
  rcases K.find w ha E.toList hkE with ⟨f1, f2⟩ | ⟨j, e, f1, f2, f3⟩
  · refine .inl ⟨f1, look_none.2 fun p hp e => ?_⟩
    have : (enc p.1, p.2) ∈ E.toList.map (fun e => (e.key, e.val)) := by rw [h2]; exact List.mem_map_of_mem (f := fun p : α × Value => (enc p.1, p.2)) hp
    obtain ⟨y, hy, hye⟩ := List.mem_map.1 this
    simp only [Prod.mk.injEq] at hye
    exact f2 y hy (by rw [hye.1, e])
  · refine .inr ⟨j, e.val, f1, ?_⟩
    have hj : (E.toList.map (fun e => (e.key, e.val)))[j]? = some (e.key, e.val) := by rw [List.getElem?_map, f2]; rfl
    rw [h2, List.getElem?_map] at hj
    cases hlj : l[j]? with
    | none => rw [hlj] at hj; cases hj
    | some p =>
      rw [hlj] at hj
      simp only [Option.map_some, Option.some.injEq, Prod.mk.injEq] at hj
      have e1 : p.1 = a := hinj _ _ (by rw [hj.1, f3])
      have e2 : p = (a, e.val) := by rw [← e1, ← hj.2]
      exact ⟨by rw [e2], by have := look_of_mem hnd (List.mem_of_getElem? hlj); rw [e1, hj.2] at this; exact this⟩

theorem MapIs.run_look (h : MapIs P kt enc w b l) (K : Keyed P kt) (hinj : ∀ a c, enc a = enc c → a = c) {t et : TypeId} (ht : P.underlying t = some (.map kt et)) {z : Value} (hz : (zeroValue et).run P w = .ok z w) (a : α) {x : Lit} (ha : keyOf P kt (enc a) = some x) (c : Bool) :
    (Instr.lookup t (.map (some b)) (enc a) c).run P w = .ok (if c then .tuple #[(mget l a).getD z, .bool (mget l a).isSome] else (mget l a).getD z) w := by
  obtain ⟨E, clock, hb, h2, hnd, hk, _, _⟩ := h
  rcases find_pos K hinj h2 hnd hk w a ha with ⟨f1, f2⟩ | ⟨j, v, f1, f2, f3⟩
  · simp [Instr.lookup, run_underlying ht, MapKept.run_getObj_map hb, K.check w _ ha, f1, hz, f2, Result.andThen]
  · simp [Instr.lookup, run_underlying ht, MapKept.run_getObj_map hb, K.check w _ ha, f1, f3, Result.andThen]
theorem run_look_nil (K : Keyed P kt) {t et : TypeId} (ht : P.underlying t = some (.map kt et)) {z : Value} (hz : (zeroValue et).run P w = .ok z w) {key : Value} {x : Lit} (ha : keyOf P kt key = some x) (c : Bool) :
    (Instr.lookup t (.map none) key c).run P w = .ok (if c then .tuple #[z, .bool false] else z) w := by
  rcases K.find w ha [] (by simp) with ⟨f1, f2⟩ | ⟨j, v, f1, f2, f3⟩
  · simp [Instr.lookup, run_underlying ht, K.check w _ ha, f1, hz, Result.andThen]
  · simp at f2

theorem set_at {w : World} {b : Nat} {o o' : Obj} (hb : w.heap[b]? = some o) : (setBlock w b o').heap[b]? = some o' := by
  have := lt_of_at hb
  simp [setBlock, this]

theorem modify_map (E : Array MapEntry) (j : Nat) (key v : Value) : (E.modify j fun e => { e with key, val := v }).toList.map (fun e => (e.key, e.val)) = (E.toList.map (fun e => (e.key, e.val))).set j (key, v) := by
  apply List.ext_getElem?
  intro i
  rw [List.getElem?_map, Array.getElem?_toList, Array.getElem?_modify, List.getElem?_set, List.getElem?_map, List.length_map, Array.length_toList]
  by_cases h : j = i
  · subst h
    rw [if_pos rfl, if_pos rfl]
    by_cases hj : j < E.size
    · simp [hj]
    · simp [hj]
  · rw [if_neg h, if_neg h]; simp
theorem modify_born (E : Array MapEntry) (j : Nat) (key v : Value) : (E.modify j fun e => { e with key, val := v }).toList.map (·.born) = E.toList.map (·.born) := by
  apply List.ext_getElem?
  intro i
  rw [List.getElem?_map, Array.getElem?_toList, Array.getElem?_modify, List.getElem?_map, Array.getElem?_toList]
  by_cases h : j = i
  · subst h; simp; rfl
  · rw [if_neg h]
theorem put_at {l : List (α × Value)} (hnd : (l.map (·.1)).Nodup) {j : Nat} {a : α} {u : Value} (hj : l[j]? = some (a, u)) (v : Value) : mput l a v = l.set j (a, v) := by
  unfold mput
  rw [any_iff, look_of_mem hnd (List.mem_of_getElem? hj), Option.isSome_some, if_pos rfl]
  apply List.ext_getElem?
  intro i
  rw [List.getElem?_map, List.getElem?_set]
  by_cases h : j = i
  · subst h
    have : j < l.length := by rcases Nat.lt_or_ge j l.length with q | q; exact q; simp [List.getElem?_eq_none q] at hj
    rw [hj, if_pos rfl, if_pos this]; simp
  · rw [if_neg h]
    cases hi : l[i]? with
    | none => rfl
    | some p =>
      simp only [Option.map_some]
      have : p.1 ≠ a := by
        intro e
        have li : i < l.length := by rcases Nat.lt_or_ge i l.length with q | q; exact q; simp [List.getElem?_eq_none q] at hi
        have lj : j < l.length := by rcases Nat.lt_or_ge j l.length with q | q; exact q; simp [List.getElem?_eq_none q] at hj
        have h1 : (l.map (·.1))[i]'(by simpa using li) = (l.map (·.1))[j]'(by simpa using lj) := by
          rw [List.getElem_map, List.getElem_map]
          rw [List.getElem?_eq_getElem li] at hi
          rw [List.getElem?_eq_getElem lj] at hj
          simp only [Option.some.injEq] at hi hj
          rw [hi, hj, e]
        exact h ((List.getElem_inj hnd).1 h1).symm
      rw [if_neg this]

theorem MapIs.run_put (h : MapIs P kt enc w b l) (K : Keyed P kt) (hinj : ∀ a c, enc a = enc c → a = c) {t et : TypeId} (ht : P.underlying t = some (.map kt et)) (a : α) {x : Lit} (ha : keyOf P kt (enc a) = some x) (v : Value) :
    ∃ w', (Instr.mapUpdate t (.map (some b)) (enc a) v).run P w = .ok () w' ∧ MapIs P kt enc w' b (mput l a v) ∧ Turned [b] w w' := by
  obtain ⟨E, clock, hb, h2, hnd, hk, hbn, hbd⟩ := h
  rcases find_pos K hinj h2 hnd hk w a ha with ⟨f1, f2⟩ | ⟨j, u, f1, f2, f3⟩
  · refine ⟨setBlock w b (.map (E.push ⟨enc a, v, clock⟩) (clock + 1)), by simp [Instr.mapUpdate, run_underlying ht, MapKept.run_getObj_map hb, K.check w _ ha, f1, MapKept.run_setObj_map _ hb, Result.andThen, setBlock], ?_, (Turned.refl _ _).laid (.inl (by simp)) _⟩
    refine ⟨_, _, set_at hb, ?_, nodup_put hnd a v, ?_, ?_, ?_⟩
    · unfold mput
      rw [any_iff, f2, if_neg (by simp)]
      simp [h2]
    · intro p hp
      unfold mput at hp
      rw [any_iff, f2, if_neg (by simp)] at hp
      rcases List.mem_append.1 hp with hp | hp
      · exact hk p hp
      · simp only [List.mem_singleton] at hp; subst hp; exact ⟨x, ha⟩
    · intro e he
      simp only [Array.toList_push, List.mem_append, List.mem_singleton] at he
      rcases he with he | rfl
      · have := hbn e he; omega
      · simp
    · simp only [Array.toList_push, List.map_append, List.map_cons, List.map_nil, List.nodup_append]
      refine ⟨hbd, by simp, fun y hy z hz => ?_⟩
      obtain ⟨e, he, rfl⟩ := List.mem_map.1 hy
      simp only [List.mem_singleton] at hz
      have := hbn e he
      omega
  · have hj : j < l.length := by rcases Nat.lt_or_ge j l.length with q | q; exact q; simp [List.getElem?_eq_none q] at f2
    have hlen : E.toList.length = l.length := by have := congrArg List.length h2; simpa using this
    have hej : ∃ e, E[j]? = some e ∧ e.key = enc a := by
      have hjE : j < E.size := by rw [Array.length_toList] at hlen; omega
      refine ⟨E[j], by simp [hjE], ?_⟩
      have := congrArg (·[j]?) h2
      simp only [List.getElem?_map, f2, Array.getElem?_toList] at this
      simp [hjE] at this
      exact this.1
    obtain ⟨e, he, hek⟩ := hej
    refine ⟨setBlock w b (.map (E.modify j fun e => { e with key := enc a, val := v }) clock), ?_, ?_, (Turned.refl _ _).laid (.inl (by simp)) _⟩
    · simp [Instr.mapUpdate, run_underlying ht, MapKept.run_getObj_map hb, K.check w _ ha, f1, he, hek, K.stays w ha, MapKept.run_setObj_map _ hb, Result.andThen, setBlock]
    · refine ⟨_, _, set_at hb, ?_, nodup_put hnd a v, ?_, ?_, ?_⟩
      · rw [modify_map, h2, put_at hnd f2 v, List.map_set]
      · intro p hp
        rw [put_at hnd f2 v] at hp
        rcases List.mem_or_eq_of_mem_set hp with hp | rfl
        · exact hk p hp
        · exact ⟨x, ha⟩
      · intro y hy
        have : y.born ∈ (E.modify j fun e => { e with key := enc a, val := v }).toList.map (·.born) := List.mem_map_of_mem hy
        rw [modify_born] at this
        obtain ⟨z, hz, hzb⟩ := List.mem_map.1 this
        rw [← hzb]; exact hbn z hz
      · rw [modify_born]; exact hbd

theorem eraseIdx_map {α β : Type} (f : α → β) (l : List α) (j : Nat) : (l.eraseIdx j).map f = (l.map f).eraseIdx j := ChangeMaps.map_eraseIdx f l j
theorem del_at {l : List (α × Value)} (hnd : (l.map (·.1)).Nodup) {j : Nat} {a : α} {u : Value} (hj : l[j]? = some (a, u)) : mdel l a = l.eraseIdx j := by
  induction l generalizing j with
  | nil => cases hj
  | cons q l ih =>
    simp only [List.map_cons, List.nodup_cons] at hnd
    unfold mdel
    rw [List.filter_cons]
    cases j with
    | zero =>
      simp only [List.getElem?_cons_zero, Option.some.injEq] at hj
      subst hj
      simp only [ne_eq, not_true, decide_false, Bool.false_eq_true, if_false, List.eraseIdx_cons_zero]
      rw [List.filter_eq_self]
      intro p hp
      simp only [ne_eq, decide_eq_true_eq]
      exact fun e => hnd.1 (by rw [← e]; exact List.mem_map.2 ⟨p, hp, rfl⟩)
    | succ j =>
      rw [List.getElem?_cons_succ] at hj
      have : q.1 ≠ a := fun e => hnd.1 (by rw [e]; exact List.mem_map.2 ⟨_, List.mem_of_getElem? hj, rfl⟩)
      simp only [ne_eq, this, not_false_eq_true, decide_true, if_true, List.eraseIdx_cons_succ]
      rw [← ih hnd.2 hj]
      rfl
theorem del_none {l : List (α × Value)} {a : α} (h : mget l a = none) : mdel l a = l := by
  unfold mdel
  rw [List.filter_eq_self]
  intro p hp
  simpa using look_none.1 h p hp

theorem MapIs.run_del (h : MapIs P kt enc w b l) (K : Keyed P kt) (hinj : ∀ a c, enc a = enc c → a = c) {t et : TypeId} (ht : P.underlying t = some (.map kt et)) (a : α) {x : Lit} (ha : keyOf P kt (enc a) = some x) (ty : TypeId) :
    ∃ w', (Builtin.delete_ #[t, kt] ty #[.map (some b), enc a]).run P w = .ok (.tuple #[]) w' ∧ MapIs P kt enc w' b (mdel l a) ∧ Turned [b] w w' := by
  obtain ⟨E, clock, hb, h2, hnd, hk, hbn, hbd⟩ := h
  rcases find_pos K hinj h2 hnd hk w a ha with ⟨f1, f2⟩ | ⟨j, u, f1, f2, f3⟩
  · refine ⟨setBlock w b (.map E clock), by simp [Builtin.delete_, run_underlying ht, MapKept.run_getObj_map hb, K.check w _ ha, f1, MapKept.run_setObj_map _ hb, Result.andThen, setBlock], ?_, (Turned.refl _ _).laid (.inl (by simp)) _⟩
    rw [del_none f2]
    exact ⟨E, clock, set_at hb, h2, hnd, hk, hbn, hbd⟩
  · refine ⟨setBlock w b (.map (E.eraseIdxIfInBounds j) clock), by simp [Builtin.delete_, run_underlying ht, MapKept.run_getObj_map hb, K.check w _ ha, f1, MapKept.run_setObj_map _ hb, Result.andThen, setBlock], ?_, (Turned.refl _ _).laid (.inl (by simp)) _⟩
    have hE : (E.eraseIdxIfInBounds j).toList = E.toList.eraseIdx j := by simp
    refine ⟨_, _, set_at hb, ?_, nodup_del hnd a, ?_, ?_, ?_⟩
    · rw [hE, eraseIdx_map, h2, del_at hnd f2, eraseIdx_map]
    · intro p hp
      exact hk p (List.mem_filter.1 hp).1
    · intro y hy
      rw [hE] at hy
      exact hbn y ((List.eraseIdx_sublist _ _).subset hy)
    · rw [hE, eraseIdx_map]
      exact hbd.sublist (List.eraseIdx_sublist _ _)

theorem MapIs.run_len (h : MapIs P kt enc w b l) {t et : TypeId} (ht : P.underlying t = some (.map kt et)) (ty : TypeId) : (Builtin.len_ #[t] ty #[.map (some b)]).run P w = .ok (.int .i64 l.length) w := by
  obtain ⟨E, clock, hb, h2, _⟩ := h
  have hlen : E.size = l.length := by have := congrArg List.length h2; simpa using this
  simp [Builtin.len_, run_underlying ht, MapKept.run_getObj_map hb, hlen, Result.andThen, goInt]

end

/-! ### at the operation, for the walk -/
section
variable {α : Type} [DecidableEq α] {P : Program} (w : World) {ops : Array Oper} {rest : List Oper} {o : Oper} {a : Act} {Q : Exit → Act → World → Prop}

/-- (at_lookup; refine wp_look _ rfl _ _ T _ rfl K inj HT hz b l rfl h _ rfl ha ?_) -/
theorem wp_look (hg : o.guard = none) (m x : Operand) (t : TypeId) (c : Bool) (hop : o.op = Op.lookup t m x c)
    {kt et : TypeId} {enc : α → Value} (K : Keyed P kt) (hinj : ∀ a c, enc a = enc c → a = c) (ht : P.underlying t = some (.map kt et)) {z : Value} (hz : (zeroValue et).run P w = .ok z w) (b : Nat) (l : List (α × Value))
    (hm : a.eval m = .map (some b)) (h : MapIs P kt enc w b l) (k : α) (hx : a.eval x = enc k) {y : Lit} (ha : keyOf P kt (enc k) = some y)
    (hK : wpList P ops Q rest (a.put o.dst (if c then .tuple #[(mget l k).getD z, .bool (mget l k).isSome] else (mget l k).getD z)) w) :
    wpList P ops Q (o :: rest) a w := by
  refine wpList_plain hg fun K' hK' => ?_
  unfold Oper.wp
  simp [execOp, hop, hm, hx, h.run_look K hinj ht hz k ha c, Result.andThen]
  cases c <;> exact hK' _ _ hK

theorem wp_put (hg : o.guard = none) (m x v : Operand) (t : TypeId) (hop : o.op = Op.mapUpdate t m x v)
    {kt et : TypeId} {enc : α → Value} (K : Keyed P kt) (hinj : ∀ a c, enc a = enc c → a = c) (ht : P.underlying t = some (.map kt et)) (b : Nat) (l : List (α × Value))
    (hm : a.eval m = .map (some b)) (h : MapIs P kt enc w b l) (k : α) (hx : a.eval x = enc k) (u : Value) (hv : a.eval v = u) {y : Lit} (ha : keyOf P kt (enc k) = some y)
    (hK : ∀ w', MapIs P kt enc w' b (mput l k u) → Turned [b] w w' → wpList P ops Q rest (a.put o.dst undef) w') :
    wpList P ops Q (o :: rest) a w := by
  refine wpList_plain hg fun K' hK' => ?_
  obtain ⟨w', hrun, r1, r2⟩ := h.run_put K hinj ht k ha u
  unfold Oper.wp
  simp [execOp, hop, hm, hx, hv, hrun, Result.andThen]
  exact hK' _ _ (hK w' r1 r2)

theorem wp_del (hg : o.guard = none) (m x : Operand) (t kt : TypeId) (hop : o.op = Op.call { callee := Callee.builtin Builtin.delete, args := #[m, x], argTypes := #[t, kt] })
    {et : TypeId} {enc : α → Value} (K : Keyed P kt) (hinj : ∀ a c, enc a = enc c → a = c) (ht : P.underlying t = some (.map kt et)) (b : Nat) (l : List (α × Value))
    (hm : a.eval m = .map (some b)) (h : MapIs P kt enc w b l) (k : α) (hx : a.eval x = enc k) {y : Lit} (ha : keyOf P kt (enc k) = some y)
    (hK : ∀ w', MapIs P kt enc w' b (mdel l k) → Turned [b] w w' → wpList P ops Q rest (a.put o.dst (.tuple #[])) w') :
    wpList P ops Q (o :: rest) a w := by
  refine wpList_plain hg fun K' hK' => ?_
  obtain ⟨w', hrun, r1, r2⟩ := h.run_del K hinj ht k ha o.type
  unfold Oper.wp
  simp [execOp, hop, resolve, invoke, builtin, hm, hx, hrun, Result.andThen]
  exact hK' _ _ (hK w' r1 r2)

theorem wp_len (hg : o.guard = none) (m : Operand) (t : TypeId) (hop : o.op = Op.call { callee := Callee.builtin Builtin.len, args := #[m], argTypes := #[t] })
    {kt et : TypeId} {enc : α → Value} (ht : P.underlying t = some (.map kt et)) (b : Nat) (l : List (α × Value)) (hm : a.eval m = .map (some b)) (h : MapIs P kt enc w b l)
    (hK : wpList P ops Q rest (a.put o.dst (.int .i64 l.length)) w) :
    wpList P ops Q (o :: rest) a w := by
  refine wpList_plain hg fun K' hK' => ?_
  unfold Oper.wp
  simp [execOp, hop, resolve, invoke, builtin, hm, h.run_len ht o.type, Result.andThen]
  exact hK' _ _ hK

end
end Go.Proofs.Ytmpbhoijkcanmaa.G
