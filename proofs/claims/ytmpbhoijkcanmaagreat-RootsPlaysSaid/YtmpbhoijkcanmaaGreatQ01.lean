/- Maps of pages, and versions of them: lemmas, part 1 of 23. -/
import Derived.Maps.OwnSet
import Derived.Maps.Keyed
import Derived.Below
import Derived.OwnWalk
import Derived.Deep.Draws
import Derived.Laws.AppendOwn
import Derived.Laws.OwnMore
import Derived.WalkKit
import Derived.Maps.RangeRun
import Derived.Maps.RangeWalk
import Derived.Test.YtmpbhoijkcanmaaGreatRows
import Derived.ProofKit
import Derived.OpenShut
import Derived.Outline
import Derived.IntWalk
import Derived.Deep.QuietTactic
import Derived.BigQuiet
import Derived.LoopTactic
import Derived.Lib.Hide
import Derived.DeepKeys4
import Derived.MapViews
import Derived.ChangeSame
import Derived.WalkSpells
import Derived.Deep.MidRow
import Derived.Deep.OwnRows

/- Maps as lists of entries: a block of memory that is a map whose entries, in the order in which they came, are a list's; what a mget-up, a store, a delete, len do to it. And 'Turned': a world that is another one but for some blocks. -/
namespace Go.Proofs.YtmpbhoijkcanmaaGreat.G
open Go.ChangeMaps (setBlock)
open Go.RowKit Go.Maps Go.WideMaps
set_option linter.unusedVariables false
set_option linter.unusedSimpArgs false
set_option linter.unusedSectionVars false

/-! ### a world but for some blocks -/
/-- w' is w, but for the blocks of S, and new ones. -/
structure Turned (S : List Nat) (w w' : World) : Prop where
  os : w'.os = w.os
  tape : w'.tape = w.tape
  output : w'.output = w.output
  size : w.heap.size ≤ w'.heap.size
  block : ∀ k, k < w.heap.size → k ∉ S → w'.heap[k]? = w.heap[k]?

theorem Turned.refl (S : List Nat) (w : World) : Turned S w w := ⟨rfl, rfl, rfl, Nat.le_refl _, fun _ _ _ => rfl⟩
theorem Turned.trans {S : List Nat} {a b c : World} (h : Turned S a b) (k : Turned S b c) : Turned S a c :=
  ⟨k.os.trans h.os, k.tape.trans h.tape, k.output.trans h.output, Nat.le_trans h.size k.size, fun i hi hn => (k.block i (Nat.lt_of_lt_of_le hi h.size) hn).trans (h.block i hi hn)⟩
theorem Turned.mono {S T : List Nat} {a b : World} (h : Turned S a b) (hs : ∀ k, k < a.heap.size → k ∈ S → k ∈ T) : Turned T a b :=
  ⟨h.os, h.tape, h.output, h.size, fun k hk hn => h.block k hk fun hc => hn (hs k hk hc)⟩
theorem Turned.of_below {a b : World} (h : Below a.heap.size a b) : Turned [] a b := ⟨h.os, h.tape, h.output, h.size, fun k hk _ => h.block k hk⟩
theorem Turned.below {a b : World} (h : Turned [] a b) : Below a.heap.size a b := ⟨h.os, h.tape, h.output, h.size, fun k hk => h.block k hk (by simp)⟩
/-- what is turned is new -/
theorem Turned.below_of {S : List Nat} {a b c : World} (h : Below a.heap.size a b) (k : Turned S b c) (hs : ∀ i ∈ S, a.heap.size ≤ i) : Below a.heap.size a c :=
  ⟨k.os.trans h.os, k.tape.trans h.tape, k.output.trans h.output, Nat.le_trans h.size k.size, fun i hi => (k.block i (Nat.lt_of_lt_of_le hi h.size) fun hm => by have := hs i hm; omega).trans (h.block i hi)⟩
theorem Turned.nil_mono {T : List Nat} {a b : World} (h : Turned [] a b) : Turned T a b := h.mono fun _ _ hk => by cases hk
theorem Turned.alloc {S : List Nat} {a w : World} (h : Turned S a w) (o : Obj) : Turned S a (w.alloc o) :=
  h.trans ⟨rfl, rfl, rfl, by simp, fun k hk _ => Below.heap_alloc _ _ _ hk⟩
theorem Turned.drew {S : List Nat} {a w : World} (h : Turned S a w) : Turned S a w.drew := ⟨h.os, h.tape, h.output, h.size, h.block⟩
theorem Turned.drewN {S : List Nat} {a w : World} (h : Turned S a w) (m : Nat) : Turned S a (w.drewN m) := ⟨h.os, h.tape, h.output, h.size, h.block⟩
theorem Turned.setCell {S : List Nat} {a w : World} (h : Turned S a w) {p : Addr} (hp : p.block ∈ S ∨ a.heap.size ≤ p.block) (u : Value) : Turned S a (w.setCell p u) := by
  refine ⟨h.os, h.tape, h.output, by simpa [World.setCell] using h.size, fun k hk hn => ?_⟩
  have hne : k ≠ p.block := by
    rcases hp with hp | hp
    · exact fun e => hn (e ▸ hp)
    · omega
  exact (Below.heap_setCell _ _ _ _ hne).trans (h.block k hk hn)
theorem Turned.grown {S : List Nat} {a w w' : World} {row : Option Nat} (h : Turned S a w) (hg : w.grownBy w' row) (hr : ∀ k, row = some k → k ∈ S ∨ a.heap.size ≤ k) : Turned S a w' :=
  ⟨hg.os.trans h.os, hg.tape.trans h.tape, hg.output.trans h.output, Nat.le_trans h.size hg.size, fun k hk hn => (hg.block k (Nat.lt_of_lt_of_le hk h.size) (fun e => by
    rcases hr k e.symm with q | q
    · exact hn q
    · omega)).trans (h.block k hk hn)⟩
theorem Turned.laid {S : List Nat} {a w : World} (h : Turned S a w) {b : Nat} (hb : b ∈ S ∨ a.heap.size ≤ b) (o : Obj) : Turned S a (ChangeMaps.setBlock w b o) := by
  refine ⟨h.os, h.tape, h.output, by simpa [ChangeMaps.setBlock] using h.size, fun k hk hn => ?_⟩
  have hne : b ≠ k := by
    rcases hb with hb | hb
    · exact fun e => hn (e ▸ hb)
    · omega
  simp only [ChangeMaps.setBlock, Array.getElem?_setIfInBounds_ne hne]
  exact h.block k hk hn
theorem Turned.at {S : List Nat} {w w' : World} (h : Turned S w w') {k : Nat} {o : Obj} (hk : w.heap[k]? = some o) (hn : k ∉ S) : w'.heap[k]? = some o := by
  have : k < w.heap.size := by
    rcases Nat.lt_or_ge k w.heap.size with q | q
    · exact q
    · simp [Array.getElem?_eq_none q] at hk
  rw [h.block k this hn]; exact hk
theorem lt_of_at {w : World} {k : Nat} {o : Obj} (hk : w.heap[k]? = some o) : k < w.heap.size := by
  rcases Nat.lt_or_ge k w.heap.size with q | q
  · exact q
  · simp [Array.getElem?_eq_none q] at hk
theorem lt_of_cell {w : World} {a : Addr} {v : Value} (h : w.cell? a = some v) : a.block < w.heap.size := by
  rcases Nat.lt_or_ge a.block w.heap.size with q | q
  · exact q
  · simp [World.cell?, Array.getElem?_eq_none q] at h
theorem Turned.cell {S : List Nat} {w w' : World} (h : Turned S w w') {a : Addr} {v : Value} (ha : w.cell? a = some v) (hn : a.block ∉ S) : w'.cell? a = some v := by
  rw [World.cell?_of_block (h.block a.block (lt_of_cell ha) hn)]; exact ha
theorem Turned.frozen {S : List Nat} {w w' : World} (h : Turned S w w') {a : Addr} (ha : a.block < w.heap.size) (hn : a.block ∉ S) : w'.frozen? a = w.frozen? a :=
  World.frozen?_of_block (h.block a.block ha hn)

/-! ### maps as lists -/
section
variable {α : Type} [DecidableEq α]
def mget (l : List (α × Value)) (a : α) : Option Value := (l.find? fun p => decide (p.1 = a)).map (·.2)
def mput (l : List (α × Value)) (a : α) (v : Value) : List (α × Value) := if (l.any fun p => decide (p.1 = a)) then l.map (fun p => if p.1 = a then (a, v) else p) else l ++ [(a, v)]
def mdel (l : List (α × Value)) (a : α) : List (α × Value) := l.filter fun p => decide (p.1 ≠ a)

theorem look_nil (a : α) : mget ([] : List (α × Value)) a = none := rfl
theorem look_cons (p : α × Value) (l : List (α × Value)) (a : α) : mget (p :: l) a = if p.1 = a then some p.2 else mget l a := by
  unfold mget
  rw [List.find?_cons]
  by_cases h : p.1 = a <;> simp [h]
theorem look_append (l m : List (α × Value)) (a : α) : mget (l ++ m) a = (mget l a).or (mget m a) := by
  induction l with
  | nil => simp [look_nil]
  | cons p l ih => rw [List.cons_append, look_cons, look_cons, ih]; by_cases h : p.1 = a <;> simp [h]
theorem look_none {l : List (α × Value)} {a : α} : mget l a = none ↔ ∀ p ∈ l, p.1 ≠ a := by
  unfold mget
  simp
theorem any_iff {l : List (α × Value)} {a : α} : (l.any fun p => decide (p.1 = a)) = (mget l a).isSome := by
  induction l with
  | nil => rfl
  | cons p l ih => rw [List.any_cons, look_cons, ih]; by_cases h : p.1 = a <;> simp [h]
theorem look_map (l : List (α × Value)) (a : α) (v : Value) (c : α) : mget (l.map (fun p => if p.1 = a then (a, v) else p)) c = if c = a then (mget l a).map (fun _ => v) else mget l c := by
  induction l with
  | nil => simp [look_nil]
  | cons p l ih =>
    rw [List.map_cons, look_cons, ih, look_cons, look_cons]
    by_cases h : p.1 = a
    · subst h
      by_cases hc : c = p.1
      · subst hc; simp
      · have hc' : ¬ p.1 = c := fun e => hc e.symm
        simp [hc, hc']
    · by_cases hc : c = a
      · subst hc; simp [h]
      · simp [h, hc]
theorem look_put (l : List (α × Value)) (a : α) (v : Value) (c : α) : mget (mput l a v) c = if c = a then some v else mget l c := by
  unfold mput
  rw [any_iff]
  cases h : mget l a with
  | some x =>
    rw [if_pos (by rfl), look_map, h]
    rfl
  | none =>
    rw [if_neg (by simp), look_append, look_cons, look_nil]
    by_cases hc : c = a
    · subst hc; simp [h]
    · have hc' : ¬ a = c := fun e => hc e.symm
      simp [hc, hc']
theorem look_del (l : List (α × Value)) (a c : α) : mget (mdel l a) c = if c = a then none else mget l c := by
  unfold mdel
  induction l with
  | nil => simp [look_nil]
  | cons p l ih =>
    rw [List.filter_cons, look_cons]
    by_cases h : p.1 = a
    · subst h
      simp only [ne_eq, not_true, decide_false, Bool.false_eq_true, if_false]
      rw [ih]
      by_cases hc : c = p.1
      · simp [hc]
      · have hc' : ¬ p.1 = c := fun e => hc e.symm
        simp [hc, hc']
    · simp only [ne_eq, h, not_false_eq_true, decide_true, if_true]
      rw [look_cons, ih]
      by_cases hc : p.1 = c
      · subst hc; simp [h]
      · simp [hc]
theorem keys_put (l : List (α × Value)) (a : α) (v : Value) : (mput l a v).map (·.1) = if (mget l a).isSome then l.map (·.1) else l.map (·.1) ++ [a] := by
  unfold mput
  rw [any_iff]
  split
  · rw [List.map_map]
    apply List.map_congr_left
    intro p _
    by_cases h : p.1 = a <;> simp [h]
  · simp
theorem keys_del (l : List (α × Value)) (a : α) : (mdel l a).map (·.1) = (l.map (·.1)).filter fun c => decide (c ≠ a) := by
  unfold mdel
  rw [List.filter_map]
  rfl
theorem mem_keys {l : List (α × Value)} {a : α} : a ∈ l.map (·.1) ↔ (mget l a).isSome = true := by
  rw [← any_iff]
  simp
theorem nodup_put {l : List (α × Value)} (h : (l.map (·.1)).Nodup) (a : α) (v : Value) : ((mput l a v).map (·.1)).Nodup := by
  rw [keys_put]
  split
  · exact h
  · rename_i hn
    rw [List.nodup_append]
    refine ⟨h, by simp, fun x hx y hy => ?_⟩
    simp only [List.mem_singleton] at hy
    subst hy
    exact fun e => hn (mem_keys.1 (e ▸ hx))
theorem nodup_del {l : List (α × Value)} (h : (l.map (·.1)).Nodup) (a : α) : ((mdel l a).map (·.1)).Nodup := by
  rw [keys_del]
  exact h.filter _
theorem length_put_le (l : List (α × Value)) (a : α) (v : Value) : (mput l a v).length ≤ l.length + 1 := by
  unfold mput
  split <;> simp
theorem length_del_le (l : List (α × Value)) (a : α) : (mdel l a).length ≤ l.length := List.length_filter_le _ _
theorem look_of_mem {l : List (α × Value)} (h : (l.map (·.1)).Nodup) {p : α × Value} (hp : p ∈ l) : mget l p.1 = some p.2 := by
  induction l with
  | nil => cases hp
  | cons q l ih =>
    rw [look_cons]
    simp only [List.map_cons, List.nodup_cons] at h
    rcases List.mem_cons.1 hp with e | e
    · subst e; simp
    · have : q.1 ≠ p.1 := fun e' => h.1 (e' ▸ List.mem_map_of_mem e)
      rw [if_neg this]
      exact ih h.2 e
theorem mem_of_look {l : List (α × Value)} {a : α} {v : Value} (h : mget l a = some v) : (a, v) ∈ l := by
  induction l with
  | nil => cases h
  | cons q l ih =>
    rw [look_cons] at h
    by_cases e : q.1 = a
    · rw [if_pos e] at h
      simp only [Option.some.injEq] at h
      have : q = (a, v) := by rw [← e, ← h]
      rw [this]; exact List.mem_cons_self
    · rw [if_neg e] at h
      exact List.mem_cons_of_mem _ (ih h)

/-- BLOCK b OF w IS A MAP: its entries, in the order in which they came, are l's. -/
def MapIs (P : Program) (kt : TypeId) (enc : α → Value) (w : World) (b : Nat) (l : List (α × Value)) : Prop :=
  ∃ (E : Array MapEntry) (clock : Nat), w.heap[b]? = some (.map E clock) ∧ E.toList.map (fun e => (e.key, e.val)) = l.map (fun p => (enc p.1, p.2)) ∧ (l.map (·.1)).Nodup ∧
    (∀ p ∈ l, ∃ x, keyOf P kt (enc p.1) = some x) ∧ (∀ e ∈ E.toList, e.born < clock) ∧ (E.toList.map (·.born)).Nodup

variable {P : Program} {kt : TypeId} {enc : α → Value} {w w' : World} {b : Nat} {l : List (α × Value)}

theorem MapIs.nodup (h : MapIs P kt enc w b l) : (l.map (·.1)).Nodup := let ⟨_, _, _, _, h, _⟩ := h; h
theorem MapIs.keyed (h : MapIs P kt enc w b l) : ∀ p ∈ l, ∃ x, keyOf P kt (enc p.1) = some x := let ⟨_, _, _, _, _, h, _⟩ := h; h
theorem MapIs.lt (h : MapIs P kt enc w b l) : b < w.heap.size := let ⟨_, _, h, _⟩ := h; lt_of_at h
theorem MapIs.kept (h : MapIs P kt enc w b l) (hb : w'.heap[b]? = w.heap[b]?) : MapIs P kt enc w' b l := by
  obtain ⟨E, c, h1, h2⟩ := h
  exact ⟨E, c, by rw [hb]; exact h1, h2⟩
theorem MapIs.turned (h : MapIs P kt enc w b l) {S : List Nat} (t : Turned S w w') (hn : b ∉ S) : MapIs P kt enc w' b l := h.kept (t.block b h.lt hn)
theorem MapIs.alloc (h : MapIs P kt enc w b l) (o : Obj) : MapIs P kt enc (w.alloc o) b l := h.turned ((Turned.refl [] w).alloc o) (by simp)
theorem MapIs.setCell (h : MapIs P kt enc w b l) {p : Addr} (hp : b ≠ p.block) (u : Value) : MapIs P kt enc (w.setCell p u) b l := h.kept (Below.heap_setCell _ _ _ _ hp)
theorem MapIs.drew (h : MapIs P kt enc w b l) : MapIs P kt enc w.drew b l := h
theorem MapIs.made (w : World) : MapIs P kt enc (w.alloc (.map #[] 0)) w.heap.size ([] : List (α × Value)) :=
  ⟨#[], 0, (MapKept.heap_alloc w _).1, rfl, List.nodup_nil, by simp, by simp, by simp⟩

/-- where a key stands -/
theorem find_pos (K : Keyed P kt) (hinj : ∀ a c, enc a = enc c → a = c) {E : Array MapEntry} (h2 : E.toList.map (fun e => (e.key, e.val)) = l.map (fun p => (enc p.1, p.2))) (hnd : (l.map (·.1)).Nodup)
    (hk : ∀ p ∈ l, ∃ x, keyOf P kt (enc p.1) = some x) (w : World) (a : α) {x : Lit} (ha : keyOf P kt (enc a) = some x) :
    ((Instr.findKey kt (enc a) E.toList).run P w = .ok none w ∧ mget l a = none) ∨
    ∃ j v, (Instr.findKey kt (enc a) E.toList).run P w = .ok (some (j, v)) w ∧ l[j]? = some (a, v) ∧ mget l a = some v := by
  have hkE : ∀ e ∈ E.toList, ∃ x, keyOf P kt e.key = some x := by
    intro e he
    have : (e.key, e.val) ∈ l.map (fun p => (enc p.1, p.2)) := by rw [← h2]; exact List.mem_map_of_mem (f := fun e : MapEntry => (e.key, e.val)) he
    obtain ⟨p, hp, hpe⟩ := List.mem_map.1 this
    simp only [Prod.mk.injEq] at hpe
    rw [← hpe.1]; exact hk p hp
  rcases K.find w ha E.toList hkE with ⟨f1, f2⟩ | ⟨j, e, f1, f2, f3⟩
  · refine .inl ⟨f1, look_none.2 fun p hp e => ?_⟩
    have : (enc p.1, p.2) ∈ E.toList.map (fun e => (e.key, e.val)) := by rw [h2]; exact List.mem_map_of_mem (f := fun p : α × Value => (enc p.1, p.2)) hp
    obtain ⟨y, hy, hye⟩ := List.mem_map.1 this
    simp only [Prod.mk.injEq] at hye
    exact f2 y hy (by rw [hye.1, e])
  · refine .inr ⟨j, e.val, f1, ?_⟩
    have hj : (E.toList.map (fun e => (e.key, e.val)))[j]? = some (e.key, e.val) := by rw [List.getElem?_map, f2]; rfl
    rw [h2, List.getElem?_map] at hj
    cases hlj : l[j]? with
    | none => rw [hlj] at hj; cases hj
    | some p =>
      rw [hlj] at hj
      simp only [Option.map_some, Option.some.injEq, Prod.mk.injEq] at hj
      have e1 : p.1 = a := hinj _ _ (by rw [hj.1, f3])
      have e2 : p = (a, e.val) := by rw [← e1, ← hj.2]
      exact ⟨by rw [e2], by have := look_of_mem hnd (List.mem_of_getElem? hlj); rw [e1, hj.2] at this; exact this⟩

theorem MapIs.run_look (h : MapIs P kt enc w b l) (K : Keyed P kt) (hinj : ∀ a c, enc a = enc c → a = c) {t et : TypeId} (ht : P.underlying t = some (.map kt et)) {z : Value} (hz : (zeroValue et).run P w = .ok z w) (a : α) {x : Lit} (ha : keyOf P kt (enc a) = some x) (c : Bool) :
    (Instr.lookup t (.map (some b)) (enc a) c).run P w = .ok (if c then .tuple #[(mget l a).getD z, .bool (mget l a).isSome] else (mget l a).getD z) w := by
  obtain ⟨E, clock, hb, h2, hnd, hk, _, _⟩ := h
  rcases find_pos K hinj h2 hnd hk w a ha with ⟨f1, f2⟩ | ⟨j, v, f1, f2, f3⟩
  · simp [Instr.lookup, run_underlying ht, MapKept.run_getObj_map hb, K.check w _ ha, f1, hz, f2, Result.andThen]
  · simp [Instr.lookup, run_underlying ht, MapKept.run_getObj_map hb, K.check w _ ha, f1, f3, Result.andThen]
theorem run_look_nil (K : Keyed P kt) {t et : TypeId} (ht : P.underlying t = some (.map kt et)) {z : Value} (hz : (zeroValue et).run P w = .ok z w) {key : Value} {x : Lit} (ha : keyOf P kt key = some x) (c : Bool) :
    (Instr.lookup t (.map none) key c).run P w = .ok (if c then .tuple #[z, .bool false] else z) w := by
  rcases K.find w ha [] (by simp) with ⟨f1, f2⟩ | ⟨j, v, f1, f2, f3⟩
  · simp [Instr.lookup, run_underlying ht, K.check w _ ha, f1, hz, Result.andThen]
  · simp at f2

theorem set_at {w : World} {b : Nat} {o o' : Obj} (hb : w.heap[b]? = some o) : (setBlock w b o').heap[b]? = some o' := by
  have := lt_of_at hb
  simp [setBlock, this]

theorem modify_map (E : Array MapEntry) (j : Nat) (key v : Value) : (E.modify j fun e => { e with key, val := v }).toList.map (fun e => (e.key, e.val)) = (E.toList.map (fun e => (e.key, e.val))).set j (key, v) := by
  apply List.ext_getElem?
  intro i
  rw [List.getElem?_map, Array.getElem?_toList, Array.getElem?_modify, List.getElem?_set, List.getElem?_map, List.length_map, Array.length_toList]
  by_cases h : j = i
  · subst h
    rw [if_pos rfl, if_pos rfl]
    by_cases hj : j < E.size
    · simp [hj]
    · simp [hj]
  · rw [if_neg h, if_neg h]; simp
theorem modify_born (E : Array MapEntry) (j : Nat) (key v : Value) : (E.modify j fun e => { e with key, val := v }).toList.map (·.born) = E.toList.map (·.born) := by
  apply List.ext_getElem?
  intro i
  rw [List.getElem?_map, Array.getElem?_toList, Array.getElem?_modify, List.getElem?_map, Array.getElem?_toList]
  by_cases h : j = i
  · subst h; simp; rfl
  · rw [if_neg h]
theorem put_at {l : List (α × Value)} (hnd : (l.map (·.1)).Nodup) {j : Nat} {a : α} {u : Value} (hj : l[j]? = some (a, u)) (v : Value) : mput l a v = l.set j (a, v) := by
  unfold mput
  rw [any_iff, look_of_mem hnd (List.mem_of_getElem? hj), Option.isSome_some, if_pos rfl]
  apply List.ext_getElem?
  intro i
  rw [List.getElem?_map, List.getElem?_set]
  by_cases h : j = i
  · subst h
    have : j < l.length := by rcases Nat.lt_or_ge j l.length with q | q; exact q; simp [List.getElem?_eq_none q] at hj
    rw [hj, if_pos rfl, if_pos this]; simp
  · rw [if_neg h]
    cases hi : l[i]? with
    | none => rfl
    | some p =>
      simp only [Option.map_some]
      have : p.1 ≠ a := by
        intro e
        have li : i < l.length := by rcases Nat.lt_or_ge i l.length with q | q; exact q; simp [List.getElem?_eq_none q] at hi
        have lj : j < l.length := by rcases Nat.lt_or_ge j l.length with q | q; exact q; simp [List.getElem?_eq_none q] at hj
        have h1 : (l.map (·.1))[i]'(by simpa using li) = (l.map (·.1))[j]'(by simpa using lj) := by
          rw [List.getElem_map, List.getElem_map]
          rw [List.getElem?_eq_getElem li] at hi
          rw [List.getElem?_eq_getElem lj] at hj
          simp only [Option.some.injEq] at hi hj
          rw [hi, hj, e]
        exact h ((List.getElem_inj hnd).1 h1).symm
      rw [if_neg this]

theorem MapIs.run_put (h : MapIs P kt enc w b l) (K : Keyed P kt) (hinj : ∀ a c, enc a = enc c → a = c) {t et : TypeId} (ht : P.underlying t = some (.map kt et)) (a : α) {x : Lit} (ha : keyOf P kt (enc a) = some x) (v : Value) :
    ∃ w', (Instr.mapUpdate t (.map (some b)) (enc a) v).run P w = .ok () w' ∧ MapIs P kt enc w' b (mput l a v) ∧ Turned [b] w w' := by
  obtain ⟨E, clock, hb, h2, hnd, hk, hbn, hbd⟩ := h
  rcases find_pos K hinj h2 hnd hk w a ha with ⟨f1, f2⟩ | ⟨j, u, f1, f2, f3⟩
  · refine ⟨setBlock w b (.map (E.push ⟨enc a, v, clock⟩) (clock + 1)), by simp [Instr.mapUpdate, run_underlying ht, MapKept.run_getObj_map hb, K.check w _ ha, f1, MapKept.run_setObj_map _ hb, Result.andThen, setBlock], ?_, (Turned.refl _ _).laid (.inl (by simp)) _⟩
    refine ⟨_, _, set_at hb, ?_, nodup_put hnd a v, ?_, ?_, ?_⟩
    · unfold mput
      rw [any_iff, f2, if_neg (by simp)]
      simp [h2]
    · intro p hp
      unfold mput at hp
      rw [any_iff, f2, if_neg (by simp)] at hp
      rcases List.mem_append.1 hp with hp | hp
      · exact hk p hp
      · simp only [List.mem_singleton] at hp; subst hp; exact ⟨x, ha⟩
    · intro e he
      simp only [Array.toList_push, List.mem_append, List.mem_singleton] at he
      rcases he with he | rfl
      · have := hbn e he; omega
      · simp
    · simp only [Array.toList_push, List.map_append, List.map_cons, List.map_nil, List.nodup_append]
      refine ⟨hbd, by simp, fun y hy z hz => ?_⟩
      obtain ⟨e, he, rfl⟩ := List.mem_map.1 hy
      simp only [List.mem_singleton] at hz
      have := hbn e he
      omega
  · have hj : j < l.length := by rcases Nat.lt_or_ge j l.length with q | q; exact q; simp [List.getElem?_eq_none q] at f2
    have hlen : E.toList.length = l.length := by have := congrArg List.length h2; simpa using this
    have hej : ∃ e, E[j]? = some e ∧ e.key = enc a := by
      have hjE : j < E.size := by rw [Array.length_toList] at hlen; omega
      refine ⟨E[j], by simp [hjE], ?_⟩
      have := congrArg (·[j]?) h2
      simp only [List.getElem?_map, f2, Array.getElem?_toList] at this
      simp [hjE] at this
      exact this.1
    obtain ⟨e, he, hek⟩ := hej
    refine ⟨setBlock w b (.map (E.modify j fun e => { e with key := enc a, val := v }) clock), ?_, ?_, (Turned.refl _ _).laid (.inl (by simp)) _⟩
    · simp [Instr.mapUpdate, run_underlying ht, MapKept.run_getObj_map hb, K.check w _ ha, f1, he, hek, K.stays w ha, MapKept.run_setObj_map _ hb, Result.andThen, setBlock]
    · refine ⟨_, _, set_at hb, ?_, nodup_put hnd a v, ?_, ?_, ?_⟩
      · rw [modify_map, h2, put_at hnd f2 v, List.map_set]
      · intro p hp
        rw [put_at hnd f2 v] at hp
        rcases List.mem_or_eq_of_mem_set hp with hp | rfl
        · exact hk p hp
        · exact ⟨x, ha⟩
      · intro y hy
        have : y.born ∈ (E.modify j fun e => { e with key := enc a, val := v }).toList.map (·.born) := List.mem_map_of_mem hy
        rw [modify_born] at this
        obtain ⟨z, hz, hzb⟩ := List.mem_map.1 this
        rw [← hzb]; exact hbn z hz
      · rw [modify_born]; exact hbd

theorem eraseIdx_map {α β : Type} (f : α → β) (l : List α) (j : Nat) : (l.eraseIdx j).map f = (l.map f).eraseIdx j := ChangeMaps.map_eraseIdx f l j
theorem del_at {l : List (α × Value)} (hnd : (l.map (·.1)).Nodup) {j : Nat} {a : α} {u : Value} (hj : l[j]? = some (a, u)) : mdel l a = l.eraseIdx j := by
  induction l generalizing j with
  | nil => cases hj
  | cons q l ih =>
    simp only [List.map_cons, List.nodup_cons] at hnd
    unfold mdel
    rw [List.filter_cons]
    cases j with
    | zero =>
      simp only [List.getElem?_cons_zero, Option.some.injEq] at hj
      subst hj
      simp only [ne_eq, not_true, decide_false, Bool.false_eq_true, if_false, List.eraseIdx_cons_zero]
      rw [List.filter_eq_self]
      intro p hp
      simp only [ne_eq, decide_eq_true_eq]
      exact fun e => hnd.1 (by rw [← e]; exact List.mem_map.2 ⟨p, hp, rfl⟩)
    | succ j =>
      rw [List.getElem?_cons_succ] at hj
      have : q.1 ≠ a := fun e => hnd.1 (by rw [e]; exact List.mem_map.2 ⟨_, List.mem_of_getElem? hj, rfl⟩)
      simp only [ne_eq, this, not_false_eq_true, decide_true, if_true, List.eraseIdx_cons_succ]
      rw [← ih hnd.2 hj]
      rfl
theorem del_none {l : List (α × Value)} {a : α} (h : mget l a = none) : mdel l a = l := by
  unfold mdel
  rw [List.filter_eq_self]
  intro p hp
  simpa using look_none.1 h p hp

theorem MapIs.run_del (h : MapIs P kt enc w b l) (K : Keyed P kt) (hinj : ∀ a c, enc a = enc c → a = c) {t et : TypeId} (ht : P.underlying t = some (.map kt et)) (a : α) {x : Lit} (ha : keyOf P kt (enc a) = some x) (ty : TypeId) :
    ∃ w', (Builtin.delete_ #[t, kt] ty #[.map (some b), enc a]).run P w = .ok (.tuple #[]) w' ∧ MapIs P kt enc w' b (mdel l a) ∧ Turned [b] w w' := by
  obtain ⟨E, clock, hb, h2, hnd, hk, hbn, hbd⟩ := h
  rcases find_pos K hinj h2 hnd hk w a ha with ⟨f1, f2⟩ | ⟨j, u, f1, f2, f3⟩
  · refine ⟨setBlock w b (.map E clock), by simp [Builtin.delete_, run_underlying ht, MapKept.run_getObj_map hb, K.check w _ ha, f1, MapKept.run_setObj_map _ hb, Result.andThen, setBlock], ?_, (Turned.refl _ _).laid (.inl (by simp)) _⟩
    rw [del_none f2]
    exact ⟨E, clock, set_at hb, h2, hnd, hk, hbn, hbd⟩
  · refine ⟨setBlock w b (.map (E.eraseIdxIfInBounds j) clock), by simp [Builtin.delete_, run_underlying ht, MapKept.run_getObj_map hb, K.check w _ ha, f1, MapKept.run_setObj_map _ hb, Result.andThen, setBlock], ?_, (Turned.refl _ _).laid (.inl (by simp)) _⟩
    have hE : (E.eraseIdxIfInBounds j).toList = E.toList.eraseIdx j := by simp
    refine ⟨_, _, set_at hb, ?_, nodup_del hnd a, ?_, ?_, ?_⟩
    · rw [hE, eraseIdx_map, h2, del_at hnd f2, eraseIdx_map]
    · intro p hp
      exact hk p (List.mem_filter.1 hp).1
    · intro y hy
      rw [hE] at hy
      exact hbn y ((List.eraseIdx_sublist _ _).subset hy)
    · rw [hE, eraseIdx_map]
      exact hbd.sublist (List.eraseIdx_sublist _ _)

theorem MapIs.run_len (h : MapIs P kt enc w b l) {t et : TypeId} (ht : P.underlying t = some (.map kt et)) (ty : TypeId) : (Builtin.len_ #[t] ty #[.map (some b)]).run P w = .ok (.int .i64 l.length) w := by
  obtain ⟨E, clock, hb, h2, _⟩ := h
  have hlen : E.size = l.length := by have := congrArg List.length h2; simpa using this
  simp [Builtin.len_, run_underlying ht, MapKept.run_getObj_map hb, hlen, Result.andThen, goInt]

end

/-! ### at the operation, for the walk -/
section
variable {α : Type} [DecidableEq α] {P : Program} (w : World) {ops : Array Oper} {rest : List Oper} {o : Oper} {a : Act} {Q : Exit → Act → World → Prop}

/-- (at_lookup; refine wp_look _ rfl _ _ T _ rfl K inj HT hz b l rfl h _ rfl ha ?_) -/
theorem wp_look (hg : o.guard = none) (m x : Operand) (t : TypeId) (c : Bool) (hop : o.op = Op.lookup t m x c)
    {kt et : TypeId} {enc : α → Value} (K : Keyed P kt) (hinj : ∀ a c, enc a = enc c → a = c) (ht : P.underlying t = some (.map kt et)) {z : Value} (hz : (zeroValue et).run P w = .ok z w) (b : Nat) (l : List (α × Value))
    (hm : a.eval m = .map (some b)) (h : MapIs P kt enc w b l) (k : α) (hx : a.eval x = enc k) {y : Lit} (ha : keyOf P kt (enc k) = some y)
    (hK : wpList P ops Q rest (a.put o.dst (if c then .tuple #[(mget l k).getD z, .bool (mget l k).isSome] else (mget l k).getD z)) w) :
    wpList P ops Q (o :: rest) a w := by
  refine wpList_plain hg fun K' hK' => ?_
  unfold Oper.wp
  simp [execOp, hop, hm, hx, h.run_look K hinj ht hz k ha c, Result.andThen]
  cases c <;> exact hK' _ _ hK

theorem wp_put (hg : o.guard = none) (m x v : Operand) (t : TypeId) (hop : o.op = Op.mapUpdate t m x v)
    {kt et : TypeId} {enc : α → Value} (K : Keyed P kt) (hinj : ∀ a c, enc a = enc c → a = c) (ht : P.underlying t = some (.map kt et)) (b : Nat) (l : List (α × Value))
    (hm : a.eval m = .map (some b)) (h : MapIs P kt enc w b l) (k : α) (hx : a.eval x = enc k) (u : Value) (hv : a.eval v = u) {y : Lit} (ha : keyOf P kt (enc k) = some y)
    (hK : ∀ w', MapIs P kt enc w' b (mput l k u) → Turned [b] w w' → wpList P ops Q rest (a.put o.dst undef) w') :
    wpList P ops Q (o :: rest) a w := by
  refine wpList_plain hg fun K' hK' => ?_
  obtain ⟨w', hrun, r1, r2⟩ := h.run_put K hinj ht k ha u
  unfold Oper.wp
  simp [execOp, hop, hm, hx, hv, hrun, Result.andThen]
  exact hK' _ _ (hK w' r1 r2)

theorem wp_del (hg : o.guard = none) (m x : Operand) (t kt : TypeId) (hop : o.op = Op.call { callee := Callee.builtin Builtin.delete, args := #[m, x], argTypes := #[t, kt] })
    {et : TypeId} {enc : α → Value} (K : Keyed P kt) (hinj : ∀ a c, enc a = enc c → a = c) (ht : P.underlying t = some (.map kt et)) (b : Nat) (l : List (α × Value))
    (hm : a.eval m = .map (some b)) (h : MapIs P kt enc w b l) (k : α) (hx : a.eval x = enc k) {y : Lit} (ha : keyOf P kt (enc k) = some y)
    (hK : ∀ w', MapIs P kt enc w' b (mdel l k) → Turned [b] w w' → wpList P ops Q rest (a.put o.dst (.tuple #[])) w') :
    wpList P ops Q (o :: rest) a w := by
  refine wpList_plain hg fun K' hK' => ?_
  obtain ⟨w', hrun, r1, r2⟩ := h.run_del K hinj ht k ha o.type
  unfold Oper.wp
  simp [execOp, hop, resolve, invoke, builtin, hm, hx, hrun, Result.andThen]
  exact hK' _ _ (hK w' r1 r2)

theorem wp_len (hg : o.guard = none) (m : Operand) (t : TypeId) (hop : o.op = Op.call { callee := Callee.builtin Builtin.len, args := #[m], argTypes := #[t] })
    {kt et : TypeId} {enc : α → Value} (ht : P.underlying t = some (.map kt et)) (b : Nat) (l : List (α × Value)) (hm : a.eval m = .map (some b)) (h : MapIs P kt enc w b l)
    (hK : wpList P ops Q rest (a.put o.dst (.int .i64 l.length)) w) :
    wpList P ops Q (o :: rest) a w := by
  refine wpList_plain hg fun K' hK' => ?_
  unfold Oper.wp
  simp [execOp, hop, resolve, invoke, builtin, hm, h.run_len ht o.type, Result.andThen]
  exact hK' _ _ hK

end
end Go.Proofs.YtmpbhoijkcanmaaGreat.G

/- Slices of numbers in memory, as lists; appends of one number. -/
namespace Go.Proofs.YtmpbhoijkcanmaaGreat.G
open Go.RowKit Go.Maps
set_option linter.unusedVariables false
set_option linter.unusedSimpArgs false
set_option linter.unusedSectionVars false

/-- what is known of a slice of cells of one value each, its address and length: 'xs' are its elements -/
def SlAt (w : World) (a : Option Addr) (len : Nat) (xs : List Value) : Prop :=
  xs.length = len ∧ (len = 0 ∨ ∃ b off, a = some ⟨b, off, none⟩ ∧ ∀ i, i < len → w.cell? ⟨b, off + i, none⟩ = xs[i]?)
theorem SlAt.len {w : World} {a : Option Addr} {len : Nat} {xs : List Value} (h : SlAt w a len xs) : xs.length = len := h.1
theorem SlAt.cells {w : World} {a : Option Addr} {len : Nat} {xs : List Value} (h : SlAt w a len xs) (h0 : 0 < len) : ∃ b off, a = some ⟨b, off, none⟩ ∧ ∀ i, i < len → w.cell? ⟨b, off + i, none⟩ = xs[i]? := by
  rcases h.2 with h | h
  · omega
  · exact h
theorem SlAt.nil (w : World) (a : Option Addr) : SlAt w a 0 [] := ⟨rfl, .inl rfl⟩
theorem SlAt.kept {w w' : World} {a : Option Addr} {len : Nat} {xs : List Value} (h : SlAt w a len xs) (hk : ∀ b off, a = some ⟨b, off, none⟩ → ∀ i v, w.cell? ⟨b, off + i, none⟩ = some v → w'.cell? ⟨b, off + i, none⟩ = some v) : SlAt w' a len xs := by
  refine ⟨h.1, ?_⟩
  rcases h.2 with h0 | ⟨b, off, e, hc⟩
  · exact .inl h0
  · refine .inr ⟨b, off, e, fun i hi => ?_⟩
    have := hc i hi
    rw [List.getElem?_eq_getElem (by rw [h.1]; exact hi)] at this ⊢
    exact hk b off e i _ this
theorem SlAt.turned {w w' : World} {a : Option Addr} {len : Nat} {xs : List Value} (h : SlAt w a len xs) {S : List Nat} (t : Turned S w w') (hn : ∀ x, a = some x → x.block ∉ S) : SlAt w' a len xs :=
  h.kept fun b off e i v hv => t.cell hv (show b ∉ S from hn ⟨b, off, none⟩ e)

/-- a slice that is owned, read as one -/
theorem SlAt.of_owns {w : World} {base : Nat} {e : TypeId} {v : Value} {n : Nat} {xs : List Value} (h : w.ownsRow base e 1 v n xs) : ∃ a cap, v = .slice a n cap ∧ SlAt w a n xs ∧ (∀ x, a = some x → base ≤ x.block ∧ x.block < w.heap.size) := by
  obtain ⟨h1, h2⟩ := h
  rcases h2 with ⟨rfl, rfl⟩ | ⟨g, cap, cur, rfl, hg, hh, hn, hc, hs, ht⟩
  · refine ⟨none, 0, rfl, ⟨by simpa using h1, .inl rfl⟩, fun x hx => by cases hx⟩
  · refine ⟨some ⟨g, 0, none⟩, cap, rfl, ⟨by simpa using h1, .inr ⟨g, 0, rfl, fun i hi => ?_⟩⟩, fun x hx => by simp only [Option.some.injEq] at hx; subst hx; exact ⟨hg, lt_of_at hh⟩⟩
    unfold World.cell?
    simp only [Nat.zero_add]
    rw [hh]
    have : cur.toList[i]? = xs[i]? := by rw [← ht, List.getElem?_take]; simp [hi]
    simpa using this

/-- a value in a block of its own -/
theorem cell_new1 (w : World) (v : Value) (t : TypeId) (j : Nat) (u : Value) (h : [v][j]? = some u) : (w.alloc (.cells #[v] t)).cell? ((⟨w.heap.size, 0, none⟩ : Addr).add j) = some u := by
  cases j with
  | zero =>
    simp only [List.getElem?_cons_zero, Option.some.injEq] at h
    subst h
    have := (MapKept.heap_alloc w (.cells #[v] t)).1
    unfold World.cell? Addr.add
    simp only [if_true]
    rw [this]; rfl
  | succ j => simp at h
theorem cell_new0 (w : World) (v : Value) (t : TypeId) (n : Nat) (hn : w.heap.size = n) : (w.alloc (.cells #[v] t)).cell? ⟨n, 0, none⟩ = some v := by
  subst hn
  exact cell_new1 w v t 0 v rfl
theorem cells_new (w : World) (vs : List Value) (t : TypeId) (j : Nat) (u : Value) (h : vs[j]? = some u) : (w.alloc (.cells vs.toArray t)).cell? ((⟨w.heap.size, 0, none⟩ : Addr).add j) = some u := by
  have := (MapKept.heap_alloc w (.cells vs.toArray t)).1
  unfold World.cell? Addr.add
  by_cases hj : j = 0
  · subst hj
    simp only [if_true]
    rw [this]; simpa using h
  · simp only [if_neg hj, Nat.zero_add]
    rw [this]; simpa using h
end Go.Proofs.YtmpbhoijkcanmaaGreat.G

/- A range over a map, the map a list of entries: which have come, in the order in which they came; once none is left, all have, each once. -/
namespace Go.Proofs.YtmpbhoijkcanmaaGreat.G
open Go.ChangeMaps (setBlock)
open Go.RowKit Go.Maps Go.WideMaps
set_option linter.unusedVariables false
set_option linter.unusedSimpArgs false
set_option linter.unusedSectionVars false

section
variable {α : Type} {P : Program} {kt : TypeId} {enc : α → Value} {w w' : World} {r b : Nat} {l done : List (α × Value)}

/-- BLOCK r IS AN ITERATOR OVER THE MAP IN BLOCK b (entries: l); 'done' have come. -/
def IterIs (P : Program) (kt : TypeId) (enc : α → Value) (w : World) (r b : Nat) (l done : List (α × Value)) : Prop :=
  ∃ (E : Array MapEntry) (clock since c0 : Nat) (seen : Array Nat) (idx : List Nat), w.heap[b]? = some (.map E clock) ∧ E.toList.map (fun e => (e.key, e.val)) = l.map (fun p => (enc p.1, p.2)) ∧ (E.toList.map (·.born)).Nodup ∧
    w.heap[r]? = some (.mapIter (some b) since seen c0) ∧ since ≤ c0 ∧ since ≤ clock ∧ (∀ e ∈ E.toList, e.born < since) ∧
    idx.Nodup ∧ (∀ i ∈ idx, i < l.length) ∧ seen.toList.map some = idx.map (fun i => (E.toList.map (·.born))[i]?) ∧ done.map some = idx.map (fun i => l[i]?)

theorem IterIs.kept (h : IterIs P kt enc w r b l done) (hb : w'.heap[b]? = w.heap[b]?) (hr : w'.heap[r]? = w.heap[r]?) : IterIs P kt enc w' r b l done := by
  obtain ⟨E, clock, since, c0, seen, idx, h1, h2, h3, h4, h5⟩ := h
  exact ⟨E, clock, since, c0, seen, idx, by rw [hb]; exact h1, h2, h3, by rw [hr]; exact h4, h5⟩
theorem IterIs.lt (h : IterIs P kt enc w r b l done) : r < w.heap.size ∧ b < w.heap.size := by
  obtain ⟨E, clock, since, c0, seen, idx, h1, h2, h3, h4, h5⟩ := h
  exact ⟨lt_of_at h4, lt_of_at h1⟩
theorem IterIs.turned (h : IterIs P kt enc w r b l done) {S : List Nat} (t : Turned S w w') (h1 : r ∉ S) (h2 : b ∉ S) : IterIs P kt enc w' r b l done :=
  h.kept (t.block b h.lt.2 h2) (t.block r h.lt.1 h1)
theorem IterIs.len_le (h : IterIs P kt enc w r b l done) : done.length ≤ l.length := by
  obtain ⟨E, clock, since, c0, seen, idx, h1, h2, h3, h4, h5, h6, h7, h8, h9, h10, h11⟩ := h
  have e : done.length = idx.length := by simpa using congrArg List.length h11
  have hp : idx.Perm ((List.range l.length).filter fun i => decide (i ∈ idx)) :=
    (List.perm_ext_iff_of_nodup h8 (List.nodup_range.filter _)).2 fun i => ⟨fun hi => List.mem_filter.2 ⟨by simpa using h9 i hi, by simpa using hi⟩, fun hi => by simpa using (List.mem_filter.1 hi).2⟩
  rw [e, hp.length_eq]
  exact Nat.le_trans (List.length_filter_le _ _) (by simp)

theorem map_some_perm {β : Type} {x y : List β} (h : (x.map some).Perm (y.map some)) : x.Perm y := by
  have := h.filterMap id
  simpa [List.filterMap_map] using this

/-- the loop begins -/
theorem MapIs.run_range (h : MapIs P kt enc w b l) {t et : TypeId} (ht : P.underlying t = some (.map kt et)) :
    ∃ w', (Instr.range t (.map (some b))).run P w = .ok (.pointer (some ⟨w.heap.size, 0, none⟩)) w' ∧ IterIs P kt enc w' w.heap.size b l [] ∧ Turned [] w w' := by
  obtain ⟨E, clock, h1, h2, h3, h4, h5, h6⟩ := h
  have hlt := lt_of_at h1
  refine ⟨_, run_range_map w t kt et b E clock ht h1, ⟨E, clock, clock, clock, #[], [], ?_, h2, h6, heap_alloc_new _ _, Nat.le_refl _, Nat.le_refl _, h5, List.nodup_nil, by simp, by simp, rfl⟩, (Turned.refl [] w).alloc _⟩
  rw [heap_alloc_old w _ hlt]; exact h1

/-- a step -/
theorem IterIs.run_next (h : IterIs P kt enc w r b l done) (ty : TypeId) :
    (done.Perm l ∧ (Instr.next (.pointer (some ⟨r, 0, none⟩)) false ty).run P w = .ok (.tuple #[.bool false]) w) ∨
    ∃ p w', p ∈ l ∧ (Instr.next (.pointer (some ⟨r, 0, none⟩)) false ty).run P w = .ok (.tuple #[.bool true, enc p.1, p.2]) w' ∧ IterIs P kt enc w' r b l (done ++ [p]) ∧ Turned [r] w w' ∧ w'.heap.size = w.heap.size ∧
      (Instr.entry (.pointer (some ⟨r, 0, none⟩))).run P w' = .ok (.tuple #[enc p.1, p.2]) w' := by
  obtain ⟨E, clock, since, c0, seen, idx, h1, h2, h3, h4, h5, h6, h7, h8, h9, h10, h11⟩ := h
  have hlen : E.toList.length = l.length := by simpa using congrArg List.length h2
  have hne : r ≠ b := by intro e; rw [e, h1] at h4; cases h4
  have hseen : ∀ i (hi : i < E.toList.length), E.toList[i].born ∈ seen.toList ↔ i ∈ idx := by
    intro i hi
    constructor
    · intro hm
      have : some E.toList[i].born ∈ seen.toList.map some := List.mem_map.2 ⟨_, hm, rfl⟩
      rw [h10] at this
      obtain ⟨j, hj, e⟩ := List.mem_map.1 this
      have hjl : j < E.toList.length := by rw [hlen]; exact h9 j hj
      simp only [List.getElem?_map, List.getElem?_eq_getElem hjl, Option.map_some, Option.some.injEq] at e
      have hjl' : j < (E.toList.map (·.born)).length := by simpa using hjl
      have hil' : i < (E.toList.map (·.born)).length := by simpa using hi
      have : j = i := (List.getElem_inj (h₀ := hjl') (h₁ := hil') h3).1 (by simpa using e)
      rwa [← this]
    · intro hm
      have : some E.toList[i].born ∈ idx.map (fun i => (E.toList.map (·.born))[i]?) := List.mem_map.2 ⟨i, hm, by simp [List.getElem?_eq_getElem hi]⟩
      rw [← h10] at this
      obtain ⟨x, hx, e⟩ := List.mem_map.1 this
      cases e
      exact hx
  rcases run_next_at (P := P) w ty r b since c0 seen E clock h4 h1 h7 h5 with ⟨h0, hrun⟩ | ⟨e, he, w1, hal, hrun⟩
  · refine .inl ⟨map_some_perm ?_, hrun⟩
    rw [h11]
    have hp : idx.Perm (List.range l.length) := by
      refine (List.perm_ext_iff_of_nodup h8 List.nodup_range).2 fun i => ⟨fun hi => by simpa using h9 i hi, fun hi => ?_⟩
      have hi' : i < E.toList.length := by rw [hlen]; simpa using hi
      refine (hseen i hi').1 ?_
      have hall : ∀ x ∈ E.toList, seen.contains x.born = true := by
        intro x hx
        cases hc : seen.contains x.born with
        | true => rfl
        | false =>
          have : x ∈ leftOf E seen := by unfold leftOf; rw [Array.mem_filter]; exact ⟨by simpa using hx, by rw [hc]; rfl⟩
          rw [Array.eq_empty_of_size_eq_zero h0] at this
          simp at this
      have := hall _ (List.getElem_mem hi')
      simpa using this
    refine (hp.map _).trans ?_
    have : (List.range l.length).map (fun i => l[i]?) = l.map some := by
      apply List.ext_getElem?
      intro i
      by_cases hi : i < l.length
      · simp [List.getElem?_range, hi]
      · simp [List.getElem?_eq_none, Nat.le_of_not_lt hi]
    rw [this]
  · have hem : e ∈ E.toList ∧ seen.contains e.born = false := by
      have h' := he
      unfold leftOf at h'
      simp at h'
      exact ⟨by simpa using h'.1, by simpa using h'.2⟩
    obtain ⟨i, hi, hie⟩ := List.getElem_of_mem hem.1
    have hil : i < l.length := by rw [← hlen]; exact hi
    have hkv : (e.key, e.val) = (enc l[i].1, l[i].2) := by
      have : (E.toList.map (fun e => (e.key, e.val)))[i]? = (l.map (fun p => (enc p.1, p.2)))[i]? := by rw [h2]
      rw [List.getElem?_map, List.getElem?_map, List.getElem?_eq_getElem hi, List.getElem?_eq_getElem hil, hie] at this
      simpa using this
    simp only [Prod.mk.injEq] at hkv
    have hnot : i ∉ idx := by
      intro hm
      have := (hseen i hi).2 hm
      rw [hie] at this
      have h' : seen.contains e.born = true := by simpa using this
      rw [hem.2] at h'
      cases h'
    have hr1 : w1.heap[r]? = some (.mapIter (some b) since seen c0) := by rcases hal with rfl | rfl <;> exact h4
    have hb1 : w1.heap[b]? = some (.map E clock) := by rcases hal with rfl | rfl <;> exact h1
    have hset := Go.MapKept.heap_set (o' := .mapIter (some b) since (seen.push e.born) clock) hr1
    have hb' : (setBlock w1 r (.mapIter (some b) since (seen.push e.born) clock)).heap[b]? = some (.map E clock) := (hset.2 b (fun e1 => hne e1.symm)).trans hb1
    refine .inr ⟨l[i], _, List.getElem_mem hil, by rw [hrun, hkv.1, hkv.2], ⟨E, clock, since, clock, seen.push e.born, idx ++ [i], hb', h2, h3, hset.1, h6, h6, h7, ?_, ?_, ?_, ?_⟩, ?_, ?_, ?_⟩
    · rw [List.nodup_append]
      exact ⟨h8, by simp, fun a ha c hc => by simp at hc; subst hc; intro e; exact hnot (e ▸ ha)⟩
    · intro j hj
      rcases List.mem_append.1 hj with hj | hj
      · exact h9 j hj
      · simp at hj; subst hj; exact hil
    · rw [Array.toList_push, List.map_append, List.map_append, h10]
      have h' : E[i]? = some e := by rw [← Array.getElem?_toList, List.getElem?_eq_getElem hi, hie]
      simp [h']
    · rw [List.map_append, List.map_append, h11]
      simp [List.getElem?_eq_getElem hil]
    · rcases hal with rfl | rfl
      · exact (Turned.refl [r] _).laid (.inl (by simp)) _
      · exact ((Turned.refl [r] _).drew).laid (.inl (by simp)) _
    · rcases hal with rfl | rfl <;> simp [setBlock]
    · rw [← hkv.1, ← hkv.2]
      exact run_entry_at _ r b since seen E clock e hset.1 hb' hem.1 h3
end

/-! ### at the operation, for the walk -/
section
variable {α : Type} {P : Program} (w : World) {ops : Array Oper} {rest : List Oper} {o : Oper} {a : Act} {Q : Exit → Act → World → Prop}

/-- (at_range; refine wp_range _ rfl _ _ rfl HT b l rfl h ?_) -/
theorem wp_range (hg : o.guard = none) (m : Operand) (t : TypeId) (hop : o.op = Op.range t m) {kt et : TypeId} {enc : α → Value} (ht : P.underlying t = some (.map kt et)) (b : Nat) (l : List (α × Value))
    (hm : a.eval m = .map (some b)) (h : MapIs P kt enc w b l)
    (hK : ∀ w', IterIs P kt enc w' w.heap.size b l [] → Turned [] w w' → wpList P ops Q rest (a.put o.dst (.pointer (some ⟨w.heap.size, 0, none⟩))) w') :
    wpList P ops Q (o :: rest) a w := by
  refine wpList_plain hg fun K' hK' => ?_
  obtain ⟨w', hrun, r1, r2⟩ := h.run_range ht
  unfold Oper.wp
  simp [execOp, hop, hm, hrun, Result.andThen]
  exact hK' _ _ (hK w' r1 r2)

/-- (at_next; refine wp_next _ rfl _ rfl r b l done rfl h ?_ ?_) -/
theorem wp_next (hg : o.guard = none) (it : Operand) (hop : o.op = Op.next it false) {kt : TypeId} {enc : α → Value} (r b : Nat) (l done : List (α × Value))
    (hit : a.eval it = .pointer (some ⟨r, 0, none⟩)) (h : IterIs P kt enc w r b l done)
    (hDone : done.Perm l → wpList P ops Q rest (a.put o.dst (.tuple #[.bool false])) w)
    (hMore : ∀ (k : α) (v : Value) (w' : World), (k, v) ∈ l → IterIs P kt enc w' r b l (done ++ [(k, v)]) → Turned [r] w w' → w'.heap.size = w.heap.size →
      (Instr.entry (.pointer (some ⟨r, 0, none⟩))).run P w' = .ok (.tuple #[enc k, v]) w' → wpList P ops Q rest (a.put o.dst (.tuple #[.bool true, enc k, v])) w') :
    wpList P ops Q (o :: rest) a w := by
  refine wpList_plain hg fun K' hK' => ?_
  unfold Oper.wp
  rcases h.run_next o.type with ⟨hp, hrun⟩ | ⟨⟨k, v⟩, w', hm, hrun, r1, r2, r3, r4⟩
  · simp [execOp, hop, hit, hrun, Result.andThen]
    exact hK' _ _ (hDone hp)
  · simp [execOp, hop, hit, hrun, Result.andThen]
    exact hK' _ _ (hMore k v w' hm r1 r2 r3 r4)
end
end Go.Proofs.YtmpbhoijkcanmaaGreat.G

/- Radix: nodes, and what a forest is. -/
namespace Go.Proofs.YtmpbhoijkcanmaaGreat.R
open Go.ChangeShapes Go.WideShapes Go.ChangeAt Go.RowKit Go.Maps Go.Proofs.YtmpbhoijkcanmaaGreat.G
set_option linter.unusedVariables false
set_option linter.unusedSimpArgs false
set_option linter.unnecessarySimpa false
theorem laidOut : laidOutB Tryz.prog = true := by kernel_rfl
theorem lawS : Go.WideMaps.KeyLaw Tryz.prog 45 := deep_law_laid laidOut (m := 2) (by omega) (of_decide_eq_true (by kernel_rfl)) (by kernel_rfl) (by rw [Tryz.underlying45])
theorem keyedS : Keyed Tryz.prog 45 := Keyed.of_law lawS
theorem keyedI : Keyed Tryz.prog 3 := int_keyed Tryz.underlying3
/-- a slot -/
structure Slot where
  e : Int
  c : Int
  i : Int
deriving DecidableEq, Inhabited
def encS (x : Slot) : Value := .agg #[.int .i64 x.e, .int .i64 x.c, .int .i64 x.i]
theorem encS_inj (a b : Slot) (h : encS a = encS b) : a = b := by
  cases a; cases b; simp [encS] at h; simp [h]
def encI (n : Int) : Value := .int .i64 n
theorem encI_inj (a b : Int) (h : encI a = encI b) : a = b := by simpa [encI] using h
abbrev I64 (n : Int) : Prop := -9223372036854775808 ≤ n ∧ n ≤ 9223372036854775807
def Slot.ok (x : Slot) : Prop := I64 x.e ∧ I64 x.c ∧ I64 x.i
theorem wf64 {n : Int} (hn : I64 n) : (Lit.int .i64 n).wf = true := by simp [Lit.wf, IntKind.min, IntKind.max, IntKind.signed, IntKind.bits]; omega
theorem keyS (x : Slot) (h : x.ok) : ∃ k, keyOf Tryz.prog 45 (encS x) = some k := by
  have hf : (encS x).formed Tryz.prog 45 = true := by
    have : Tryz.prog.cellsOf 45 = 3 := by kernel_rfl
    simp [encS, Value.formed, Tryz.underlying45, this]
  have eS : Tryz.prog.cellsOf 45 = 3 := by kernel_rfl
  have eI : Tryz.prog.cellsOf 3 = 1 := by kernel_rfl
  have ht : DataW.trod (H := Unit) (fun _ => ()) Tryz.prog Inhabited.default 0 (fun _ => false) false 2 45 (encS x).cells.toList = some (.agg [.lit (.int .i64 x.e), .lit (.int .i64 x.c), .lit (.int .i64 x.i)], []) := by
    have := trod_struct_mk (enc := fun _ : TypeId × Value => ()) (P := Tryz.prog) (w := Inhabited.default) (base := 0) (spare := fun _ => false) (held := false) (n := 1) (cs := (encS x).cells.toList)
      (xs := [(.lit (.int .i64 x.e), []), (.lit (.int .i64 x.c), []), (.lit (.int .i64 x.i), [])]) Tryz.underlying45 (by rw [eS]; rfl) (by
        simp [eI, encS, Value.cells, trod_int_mk 0 Tryz.underlying3 (wf64 h.1), trod_int_mk 0 Tryz.underlying3 (wf64 h.2.1), trod_int_mk 0 Tryz.underlying3 (wf64 h.2.2)])
    simpa using this
  exact ⟨_, (keyOf_asKey (by kernel_rfl) (by rw [Tryz.underlying45]) hf ⟨2, ht⟩).1⟩
theorem keyI (n : Int) (h : I64 n) : ∃ k, keyOf Tryz.prog 3 (encI n) = some k := ⟨_, keyOf_int_mk Tryz.underlying3 (wf64 h)⟩

/-- an entry -/
structure Ent where
  s : Slot
  g : Int
deriving DecidableEq, Inhabited
def zeroE : Ent := ⟨⟨0, 0, 0⟩, 0⟩
def encE (x : Ent) : Value := .agg #[.int .i64 x.s.e, .int .i64 x.s.c, .int .i64 x.s.i, .int .i64 x.g]
def Ent.ok (x : Ent) : Prop := x.s.ok ∧ I64 x.g
/-- a node: its kids, its entries, which of these are there, how often it is referred to -/
structure Node where
  kids : Nat → Nat
  ents : Nat → Ent
  bits : Nat
  refs : Nat
def zeroN : Node := ⟨fun _ => 0, fun _ => zeroE, 0, 0⟩
def entCell (x : Ent) (j : Nat) : Value := if j = 0 then .int .i64 x.s.e else if j = 1 then .int .i64 x.s.c else if j = 2 then .int .i64 x.s.i else .int .i64 x.g
def cellN (x : Node) (j : Nat) : Value := if j < 16 then .int .i64 (x.kids j) else if j < 80 then entCell (x.ents ((j - 16) / 4)) ((j - 16) % 4) else if j = 80 then .int .u16 x.bits else .int .i64 x.refs
def NodeAt (w : World) (b : Nat) (x : Node) : Prop := w.rowIs b 116 82 (cellN x)
theorem NodeAt.kid {w : World} {b : Nat} {x : Node} (h : NodeAt w b x) (j : Nat) (hj : j < 16) : w.cell? ⟨b, j, none⟩ = some (.int .i64 (x.kids j)) := by
  rw [World.rowIs.cell h (by omega)]; unfold cellN; rw [if_pos hj]
theorem NodeAt.bits {w : World} {b : Nat} {x : Node} (h : NodeAt w b x) : w.cell? ⟨b, 80, none⟩ = some (.int .u16 x.bits) := by
  rw [World.rowIs.cell h (by omega)]; rfl
theorem NodeAt.refs {w : World} {b : Nat} {x : Node} (h : NodeAt w b x) : w.cell? ⟨b, 81, none⟩ = some (.int .i64 x.refs) := by
  rw [World.rowIs.cell h (by omega)]; rfl
theorem NodeAt.ent {w : World} {b : Nat} {x : Node} (h : NodeAt w b x) (i j : Nat) (hi : i < 16) (hj : j < 4) : w.cell? ⟨b, 16 + i * 4 + j, none⟩ = some (entCell (x.ents i) j) := by
  rw [World.rowIs.cell h (by omega)]; unfold cellN
  rw [if_neg (by omega), if_pos (by omega), show (16 + i * 4 + j - 16) / 4 = i by omega, show (16 + i * 4 + j - 16) % 4 = j by omega]
theorem NodeAt.frozen {w : World} {b : Nat} {x : Node} (h : NodeAt w b x) (j : Nat) : w.frozen? ⟨b, j, none⟩ = false := World.rowIs.frozen h j
theorem NodeAt.lt {w : World} {b : Nat} {x : Node} (h : NodeAt w b x) : b < w.heap.size := World.rowIs.lt h
theorem NodeAt.turned {w w' : World} {b : Nat} {x : Node} (h : NodeAt w b x) {S : List Nat} (t : Turned S w w') (h0 : b ∉ S) : NodeAt w' b x := World.rowIs.of_block h (t.block b h.lt h0)
end Go.Proofs.YtmpbhoijkcanmaaGreat.R

/- Radix: forests in memory; small functions. -/
namespace Go.Proofs.YtmpbhoijkcanmaaGreat.R
open Go.ChangeShapes Go.WideShapes Go.ChangeAt Go.RowKit Go.Maps Go.Proofs.YtmpbhoijkcanmaaGreat.G
set_option linter.unusedVariables false
set_option linter.unusedSimpArgs false
set_option linter.unnecessarySimpa false

theorem ret1 {k : IntKind} {a b : Int} (h : a = b) : Ending.returned (.int k a) = .returned (.int k b) := by rw [h]
theorem retB {a b : Bool} (h : a = b) : Ending.returned (.bool a) = .returned (.bool b) := by rw [h]

/-! ### counts -/
def natAt : Option Value → Nat
  | some (.int _ n) => n.toNat
  | _ => 0
def cnt {α : Type} [DecidableEq α] (l : List (α × Value)) (a : α) : Nat := natAt (mget l a)
/-- each entry counts something, and not more than fits -/
def NumL {α : Type} [DecidableEq α] (l : List (α × Value)) : Prop := ∀ a v, mget l a = some v → ∃ n : Nat, 0 < n ∧ n ≤ 2 ^ 50 ∧ v = .int .i64 n
theorem NumL.get {α : Type} [DecidableEq α] {l : List (α × Value)} (h : NumL l) (a : α) : (mget l a).getD (.int .i64 0) = .int .i64 (cnt l a) := by
  unfold cnt
  cases e : mget l a with
  | none => rfl
  | some v =>
    obtain ⟨n, _, _, rfl⟩ := h a v e
    rfl
theorem NumL.le {α : Type} [DecidableEq α] {l : List (α × Value)} (h : NumL l) (a : α) : cnt l a ≤ 2 ^ 50 := by
  unfold cnt
  cases e : mget l a with
  | none => exact Nat.zero_le _
  | some v =>
    obtain ⟨n, _, hn, rfl⟩ := h a v e
    simpa [natAt] using hn
theorem NumL.some_iff {α : Type} [DecidableEq α] {l : List (α × Value)} (h : NumL l) (a : α) : (mget l a).isSome = true ↔ 0 < cnt l a := by
  unfold cnt
  cases e : mget l a with
  | none => simp [natAt]
  | some v =>
    obtain ⟨n, h0, _, rfl⟩ := h a v e
    simp only [Option.isSome_some, natAt, Int.toNat_natCast, true_iff]
    exact h0
theorem cnt_put {α : Type} [DecidableEq α] (l : List (α × Value)) (a : α) (n : Nat) (b : α) : cnt (mput l a (.int .i64 n)) b = if b = a then n else cnt l b := by
  unfold cnt
  rw [look_put]
  by_cases h : b = a
  · rw [if_pos h, if_pos h]; simp [natAt]
  · rw [if_neg h, if_neg h]
theorem cnt_del {α : Type} [DecidableEq α] (l : List (α × Value)) (a b : α) : cnt (mdel l a) b = if b = a then 0 else cnt l b := by
  unfold cnt
  rw [look_del]
  by_cases h : b = a
  · rw [if_pos h, if_pos h]; rfl
  · rw [if_neg h, if_neg h]
theorem NumL.put {α : Type} [DecidableEq α] {l : List (α × Value)} (h : NumL l) (a : α) (n : Nat) (h0 : 0 < n) (h1 : n ≤ 2 ^ 50) : NumL (mput l a (.int .i64 n)) := by
  intro b v hv
  rw [look_put] at hv
  split at hv
  · simp only [Option.some.injEq] at hv; exact ⟨n, h0, h1, hv.symm⟩
  · exact h b v hv
theorem NumL.del {α : Type} [DecidableEq α] {l : List (α × Value)} (h : NumL l) (a : α) : NumL (mdel l a) := by
  intro b v hv
  rw [look_del] at hv
  split at hv
  · cases hv
  · exact h b v hv
theorem NumL.nil {α : Type} [DecidableEq α] : NumL ([] : List (α × Value)) := fun a v h => by cases h

/-! ### forests -/
/-- a forest: its nodes, how often roots are held, in how many nodes slots are, the last number; at which level a node stands (kept along) -/
structure Fo where
  ids : List Nat
  nd : Nat → Node
  held : List (Int × Value)
  sl : List (Slot × Value)
  last : Nat
  lev : Nat → Nat
/-- where it lies -/
structure Pf where
  f : Nat
  m : Nat
  h : Nat
  s : Nat
  blk : Nat → Nat
def ptrV (b : Nat) : Value := .pointer (some ⟨b, 0, none⟩)
def nodesL (p : Pf) (F : Fo) : List (Int × Value) := F.ids.map fun (i : Nat) => ((i : Int), ptrV (p.blk i))
def Pf.own (p : Pf) (F : Fo) (b : Nat) : Prop := b = p.f ∨ b = p.m ∨ b = p.h ∨ b = p.s ∨ ∃ i, i ∈ F.ids ∧ b = p.blk i
structure FoAt (w : World) (p : Pf) (F : Fo) : Prop where
  c0 : w.cell? ⟨p.f, 0, none⟩ = some (.map (some p.m))
  c1 : w.cell? ⟨p.f, 1, none⟩ = some (.map (some p.h))
  c2 : w.cell? ⟨p.f, 2, none⟩ = some (.map (some p.s))
  c3 : w.cell? ⟨p.f, 3, none⟩ = some (.int .i64 F.last)
  fz : ∀ j, w.frozen? ⟨p.f, j, none⟩ = false
  nodes : MapIs Tryz.prog 3 encI w p.m (nodesL p F)
  held : MapIs Tryz.prog 3 encI w p.h F.held
  sl : MapIs Tryz.prog 45 encS w p.s F.sl
  nd : ∀ i, i ∈ F.ids → NodeAt w (p.blk i) (F.nd i)
  nh : NumL F.held
  ns : NumL F.sl
  inj : ∀ i j, i ∈ F.ids → j ∈ F.ids → i ≠ j → p.blk i ≠ p.blk j
  far : ∀ i, i ∈ F.ids → p.blk i ≠ p.f ∧ p.blk i ≠ p.m ∧ p.blk i ≠ p.h ∧ p.blk i ≠ p.s
  dis : (p.f ≠ p.m ∧ p.f ≠ p.h ∧ p.f ≠ p.s) ∧ (p.m ≠ p.h ∧ p.m ≠ p.s) ∧ p.h ≠ p.s
variable {w w' : World} {p : Pf} {F : Fo}
theorem FoAt.lt (h : FoAt w p F) {b : Nat} (hb : p.own F b) : b < w.heap.size := by
  rcases hb with rfl | rfl | rfl | rfl | ⟨i, hi, rfl⟩
  · exact lt_of_cell h.c0
  · exact h.nodes.lt
  · exact h.held.lt
  · exact h.sl.lt
  · exact (h.nd i hi).lt
theorem FoAt.turned (h : FoAt w p F) {S : List Nat} (t : Turned S w w') (hS : ∀ b, p.own F b → b ∉ S) : FoAt w' p F := by
  have hf := hS p.f (.inl rfl)
  have hl := h.lt (.inl rfl)
  exact ⟨t.cell h.c0 hf, t.cell h.c1 hf, t.cell h.c2 hf, t.cell h.c3 hf, fun j => (t.frozen (a := ⟨p.f, j, none⟩) hl hf).trans (h.fz j),
    h.nodes.turned t (hS _ (.inr (.inl rfl))), h.held.turned t (hS _ (.inr (.inr (.inl rfl)))), h.sl.turned t (hS _ (.inr (.inr (.inr (.inl rfl))))),
    fun i hi => (h.nd i hi).turned t (hS _ (.inr (.inr (.inr (.inr ⟨i, hi, rfl⟩))))), h.nh, h.ns, h.inj, h.far, h.dis⟩
theorem FoAt.calm (h : FoAt w p F) (t : Turned [] w w') : FoAt w' p F := h.turned t (fun _ _ => by simp)
theorem find_nodes (p : Pf) (F : Fo) (n : Nat) : mget (nodesL p F) (n : Int) = if n ∈ F.ids then some (ptrV (p.blk n)) else none := by
  unfold nodesL
  induction F.ids with
  | nil => rfl
  | cons i l ih =>
    rw [List.map_cons, look_cons, ih]
    simp only
    by_cases h : i = n
    · subst h; simp
    · rw [if_neg (by omega)]
      have : n ∈ i :: l ↔ n ∈ l := by simp [Ne.symm h]
      by_cases hm : n ∈ l
      · rw [if_pos hm, if_pos (this.2 hm)]
      · rw [if_neg hm, if_neg (fun h => hm (this.1 h))]

/-! ### small functions -/
set_option maxRecDepth 100000 in
theorem none_fn (w : World) (h : FoAt w p F) : Calls Tryz.prog 47 #[.pointer (some ⟨p.f, 0, none⟩)] w fun e w' => e = .returned (.bool false) ∧ w = w' := by
  have c0 := h.c0
  have qT : ∀ (w : World) (r : Option Nat), (binOp .eql 99 (.map r) (.map none)).run Tryz.prog w = .ok (.bool r.isNone) w := fun w r => run_eql_map_nil w 99 3 117 r Tryz.underlying99
  clear h
  go_enter Tryz.func47, Tryz.ntmps47
  go_wp2
  go_ret
  exact ⟨rfl, rfl⟩
set_option maxRecDepth 100000 in
theorem none_nil (w : World) : Calls Tryz.prog 47 #[.pointer none] w fun e w' => e = .returned (.bool true) ∧ w = w' := by
  go_enter Tryz.func47, Tryz.ntmps47
  go_wp2
  go_ret
  exact ⟨rfl, rfl⟩
def isB (F : Fo) (r : Int) : Bool := r == 0 || decide (0 < cnt F.held r)
theorem zeroI (w : World) : (zeroValue 3).run Tryz.prog w = .ok (.int .i64 0) w := by kernel_rfl
theorem FoAt.look_held (h : FoAt w p F) (r : Int) (hr : I64 r) : (Instr.lookup 100 (.map (some p.h)) (.int .i64 r) false).run Tryz.prog w = .ok (.int .i64 (cnt F.held r)) w := by
  obtain ⟨k, hk⟩ := keyI r hr
  have := h.held.run_look keyedI encI_inj Tryz.underlying100 (zeroI w) r hk false
  rw [h.nh.get] at this
  exact this
theorem FoAt.look_sl (h : FoAt w p F) (x : Slot) (hx : x.ok) : (Instr.lookup 101 (.map (some p.s)) (encS x) false).run Tryz.prog w = .ok (.int .i64 (cnt F.sl x)) w := by
  obtain ⟨k, hk⟩ := keyS x hx
  have := h.sl.run_look keyedS encS_inj Tryz.underlying101 (zeroI w) x hk false
  rw [h.ns.get] at this
  exact this
theorem zeroP (w : World) : (zeroValue 117).run Tryz.prog w = .ok (.pointer none) w := by kernel_rfl
theorem FoAt.look_node (h : FoAt w p F) (n : Nat) (hn : n < 2 ^ 60) (hi : n ∈ F.ids) : (Instr.lookup 99 (.map (some p.m)) (.int .i64 (n : Nat)) false).run Tryz.prog w = .ok (ptrV (p.blk n)) w := by
  obtain ⟨k, hk⟩ := keyI n (by unfold I64; omega)
  have := h.nodes.run_look keyedI encI_inj Tryz.underlying99 (zeroP w) n hk false
  rw [find_nodes, if_pos hi] at this
  exact this
set_option maxRecDepth 100000 in
theorem is_fn (r : Int) (hr : I64 r) (w : World) (h : FoAt w p F) : Calls Tryz.prog 50 #[.pointer (some ⟨p.f, 0, none⟩), .int .i64 r] w fun e w' => e = .returned (.bool (isB F r)) ∧ w = w' := by
  have c1 := h.c1
  have hL := h.look_held r hr
  clear h
  by_cases h0 : r = 0
  · subst h0
    rw [show isB F 0 = true from rfl]
    go_enter Tryz.func50, Tryz.ntmps50
    go_wp2
    go_ret
    exact ⟨rfl, rfl⟩
  · have hb : (r == 0) = false := by simpa using h0
    unfold isB
    rw [hb, Bool.false_or]
    generalize cnt F.held r = n at *
    go_enter Tryz.func50, Tryz.ntmps50
    go_wp2
    go_ret
    exact ⟨rfl, rfl⟩
def pageB (n : Int) : Bool := decide (0 ≤ n) && decide (n < 4096)
set_option maxRecDepth 100000 in
theorem page_fn (n : Int) (w : World) : Calls Tryz.prog 51 #[.int .i64 n] w fun e w' => e = .returned (.bool (pageB n)) ∧ w = w' := by
  unfold pageB
  by_cases h0 : 0 ≤ n
  · have hd : decide (0 ≤ n) = true := by simpa using h0
    rw [hd, Bool.true_and]
    by_cases h1 : n < 4096
    · rw [decide_eq_true h1]
      go_enter Tryz.func51, Tryz.ntmps51
      go_wp2
      go_ret
      exact ⟨rfl, rfl⟩
    · rw [decide_eq_false h1]
      go_enter Tryz.func51, Tryz.ntmps51
      go_wp2
      go_ret
      exact ⟨rfl, rfl⟩
  · have hd : decide (0 ≤ n) = false := by simpa using h0
    rw [hd, Bool.false_and]
    go_enter Tryz.func51, Tryz.ntmps51
    go_wp2
    go_ret
    exact ⟨rfl, rfl⟩
def partN (n lev : Nat) : Nat := n / 16 ^ (2 - lev) % 16
theorem and15_all : ∀ a : Fin 64, ∀ b : Fin 64, bits BinOp.and IntKind.i64 ((64 * a.val + b.val : Nat) : Int) 15 = (((64 * a.val + b.val) % 16 : Nat) : Int) := by decide +kernel
theorem and15 (k : Nat) (h : k < 4096) : bits BinOp.and IntKind.i64 (k : Int) 15 = ((k % 16 : Nat) : Int) := by
  have := and15_all ⟨k / 64, by omega⟩ ⟨k % 64, by omega⟩
  have e : 64 * (k / 64) + k % 64 = k := by omega
  simp only [e] at this
  exact this
theorem part_fn (n lev : Nat) (hn : n < 4096) (hl : lev ≤ 2) (w : World) : Calls Tryz.prog 52 #[.int .i64 (n : Nat), .int .i64 (lev : Nat)] w fun e w' => e = .returned (.int .i64 (partN n lev)) ∧ w = w' := by
  have : lev = 0 ∨ lev = 1 ∨ lev = 2 := by omega
  rcases this with rfl | rfl | rfl
  · have e : partN n 0 = n / 256 % 16 := rfl
    have HA := Lib.hid (and15 (n / 256) (by omega))
    go_enter Tryz.func52, Tryz.ntmps52
    go_wp2
    go_ret
    exact ⟨ret1 (by rw [e]; exact HA.out), rfl⟩
  · have e : partN n 1 = n / 16 % 16 := rfl
    have HA := Lib.hid (and15 (n / 16) (by omega))
    go_enter Tryz.func52, Tryz.ntmps52
    go_wp2
    go_ret
    exact ⟨ret1 (by rw [e]; exact HA.out), rfl⟩
  · have e : partN n 2 = n % 16 := by unfold partN; simp
    have HA := Lib.hid (and15 n hn)
    go_enter Tryz.func52, Tryz.ntmps52
    go_wp2
    go_ret
    exact ⟨ret1 (by rw [e]; exact HA.out), rfl⟩
theorem partN_lt (n lev : Nat) : partN n lev < 16 := Nat.mod_lt _ (by omega)
end Go.Proofs.YtmpbhoijkcanmaaGreat.R
