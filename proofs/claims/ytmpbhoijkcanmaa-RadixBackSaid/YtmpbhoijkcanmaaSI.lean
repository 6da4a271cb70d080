/- Radix: rows beside a forest. -/
import Derived.Test.YtmpbhoijkcanmaaSH
import Derived.Maps.AppendAt
namespace Go.Proofs.Ytmpbhoijkcanmaa.R
open Go.ChangeShapes Go.WideShapes Go.ChangeAt Go.RowKit Go.Maps Go.Proofs.Ytmpbhoijkcanmaa.G
set_option linter.unusedVariables false
set_option linter.unusedSimpArgs false
set_option linter.unnecessarySimpa false

variable {F G : Fo} {w ww w' : World} {L f : Nat} {K K' : List (Nat × Obj)}
abbrev keysK (K : List (Nat × Obj)) : List Nat := K.map (·.1)
theorem mem_keysK {K : List (Nat × Obj)} {b : Nat} : b ∈ keysK K ↔ ∃ o, (b, o) ∈ K := by
  unfold keysK
  rw [List.mem_map]
  exact ⟨fun ⟨x, h, e⟩ => ⟨x.2, by rw [← e]; exact h⟩, fun ⟨o, h⟩ => ⟨_, h, rfl⟩⟩
/-- blocks beside a forest change, and new ones come -/
theorem LV.turn (h : LV w ww f F L K) {S : List Nat} (t : Turned S ww w') (hS : ∀ b ∈ S, w.heap.size ≤ b ∧ b ∈ keysK K) (hK : ∀ x ∈ K', w'.heap[x.1]? = some x.2 ∧ (ww.heap.size ≤ x.1 ∨ x.1 ∈ keysK K)) : LV w w' f F L K' := by
  obtain ⟨p, e, h1, h2⟩ := h
  have hn : ∀ b, b ∈ keysK K → ¬ p.own F b := fun b hb => by
    obtain ⟨o, ho⟩ := mem_keysK.1 hb
    exact (h2 _ ho).2
  refine ⟨p, e, ⟨h1.fo.turned t (fun b hb hs => hn b (hS b hs).2 hb), h1.ok, h1.new, Turned.below_of h1.bel t fun b hb => (hS b hb).1⟩, fun x hx => ⟨(hK x hx).1, fun ho => ?_⟩⟩
  rcases (hK x hx).2 with h' | h'
  · have := h1.fo.lt ho; omega
  · exact hn _ h' ho
theorem LV.sub (h : LV w ww f F L K) (hs : ∀ x ∈ K', x ∈ K) : LV w ww f F L K' := by
  obtain ⟨p, e, h1, h2⟩ := h
  exact ⟨p, e, h1, fun x hx => h2 x (hs x hx)⟩
theorem LV.lt (h : LV w ww f F L K) {b : Nat} (hb : b ∈ keysK K) : b < ww.heap.size := by
  obtain ⟨o, ho⟩ := mem_keysK.1 hb
  exact lt_of_at (h.at ho)
/-- a row that lies in some blocks -/
def RowK (K : List (Nat × Obj)) (base : Nat) (t : TypeId) (sz : Nat) (v : Value) (n : Nat) (xs : List Value) : Prop := ∀ ww : World, (∀ x ∈ K, ww.heap[x.1]? = some x.2) → ww.ownsRow base t sz v n xs
theorem RowK.at {base n sz : Nat} {t : TypeId} {v : Value} {xs : List Value} (r : RowK K base t sz v n xs) (h : LV w ww f F L K) : ww.ownsRow base t sz v n xs := r ww fun _ hx => h.at hx
theorem RowK.mono {base n sz : Nat} {t : TypeId} {v : Value} {xs : List Value} (r : RowK K base t sz v n xs) (hs : ∀ x ∈ K, x ∈ K') : RowK K' base t sz v n xs := fun ww h => r ww fun x hx => h x (hs x hx)
/-- it lies in no other ones -/
structure RowO (K : List (Nat × Obj)) (base : Nat) (t : TypeId) (sz : Nat) (v : Value) (n : Nat) (xs : List Value) : Prop where
  row : RowK K base t sz v n xs
  own : ∀ b, b ∈ keysK K ↔ v.ownBlock = some b
  one : (keysK K).Nodup
  base : ∀ b, b ∈ keysK K → base ≤ b
theorem RowO.nil (base : Nat) (t : TypeId) (sz : Nat) : RowO [] base t sz (.slice none 0 0) 0 [] :=
  ⟨fun _ _ => ⟨by simp, .inl ⟨rfl, rfl⟩⟩, fun b => by simp [keysK, Value.ownBlock], by simp [keysK], fun b hb => by simp [keysK] at hb⟩
theorem RowO.of {base n sz : Nat} {t : TypeId} {v : Value} {xs : List Value} (h : w'.ownsRow base t sz v n xs) : ∃ K1, RowO K1 base t sz v n xs ∧ ∀ x ∈ K1, w'.heap[x.1]? = some x.2 := by
  obtain ⟨h1, h2⟩ := h
  rcases h2 with ⟨rfl, rfl⟩ | ⟨g, cap, cur, rfl, hg, hh, hn, hc, hs, ht⟩
  · obtain rfl : xs = [] := List.length_eq_zero_iff.1 (by simpa using h1)
    exact ⟨[], RowO.nil base t sz, by simp⟩
  · exact ⟨[(g, .cells cur t (0, 0))], ⟨fun ww hw => ⟨h1, .inr ⟨g, cap, cur, rfl, hg, hw (g, _) List.mem_cons_self, hn, hc, hs, ht⟩⟩, fun b => by simp [keysK, Value.ownBlock, eq_comm], by simp [keysK], fun b hb => by simp [keysK] at hb; omega⟩, by simpa using hh⟩
/-- a forest, blocks beside it, each once -/
def LK (w ww : World) (f : Nat) (F : Fo) (L : Nat) (K : List (Nat × Obj)) : Prop := LV w ww f F L K ∧ (keysK K).Nodup
theorem LK.calm (h : LK w ww f F L K) (b : Below ww.heap.size ww w') : LK w w' f F L K := ⟨h.1.calm b, h.2⟩
theorem LK.bel (h : LK w ww f F L K) : Below w.heap.size w ww := h.1.bel
/-- a new row comes -/
theorem LK.row (h : LK w ww f F L K) (b : Below ww.heap.size ww w') {n sz : Nat} {t : TypeId} {v : Value} {xs : List Value} (r : w'.ownsRow ww.heap.size t sz v n xs) : ∃ K1, LK w w' f F L (K1 ++ K) ∧ RowO K1 w.heap.size t sz v n xs := by
  obtain ⟨K1, r1, hK1⟩ := RowO.of r
  have hw := h.bel.size
  refine ⟨K1, ⟨h.1.turn (Turned.of_below b) (by simp) fun x hx => ?_, ?_⟩, fun W hW => owns_mono (r1.row W hW) hw, r1.own, r1.one, fun b hb => Nat.le_trans hw (r1.base b hb)⟩
  · rcases List.mem_append.1 hx with hx | hx
    · exact ⟨hK1 x hx, .inl (r1.base _ (mem_keysK.2 ⟨_, hx⟩))⟩
    · exact ⟨(Turned.of_below b).at (h.1.at hx) (by simp), .inr (mem_keysK.2 ⟨_, hx⟩)⟩
  · unfold keysK
    rw [List.map_append, List.nodup_append]
    exact ⟨r1.one, h.2, fun a ha b hb e => by subst e; have := r1.base a ha; have := h.1.lt hb; omega⟩
/-- a row grows: behind an append -/
theorem LK.grow {K1 K2 K3 : List (Nat × Obj)} (h : LK w ww f F L (K1 ++ K2 ++ K3)) {n n' sz : Nat} {t : TypeId} {v v' : Value} {xs ys : List Value} (r : RowO K2 w.heap.size t sz v n xs) {o : Obj} (hg : (ww.alloc o).grownBy w' v.ownBlock) (ho : w'.ownsRow w.heap.size t sz v' n' ys)
    (hb : v'.ownBlock = v.ownBlock ∨ v'.ownBlock = some (ww.alloc o).heap.size) : ∃ K2', LK w w' f F L (K1 ++ K2' ++ K3) ∧ RowO K2' w.heap.size t sz v' n' ys := by
  obtain ⟨K2', r2, hK2⟩ := RowO.of ho
  have hsz : (ww.alloc o).heap.size = ww.heap.size + 1 := by simp
  have t1 : Turned (keysK K2) ww w' := ((Turned.refl (keysK K2) ww).alloc o).grown hg fun k hk => .inl ((r.own k).2 hk)
  have hnd := h.2
  unfold keysK at hnd
  rw [List.map_append, List.map_append, List.nodup_append, List.nodup_append] at hnd
  obtain ⟨⟨n1, n2, d12⟩, n3, d123⟩ := hnd
  have keep : ∀ x, x ∈ K1 ∨ x ∈ K3 → w'.heap[x.1]? = some x.2 := fun x hx => by
    refine t1.at (h.1.at ?_) fun hm => ?_
    · rcases hx with hx | hx
      · simp [hx]
      · simp [hx]
    · rcases hx with hx | hx
      · exact d12 x.1 (List.mem_map_of_mem hx) x.1 hm rfl
      · exact d123 x.1 (List.mem_append.2 (.inr hm)) x.1 (List.mem_map_of_mem hx) rfl
  have new : ∀ b, b ∈ keysK K2' → ww.heap.size < b ∨ b ∈ keysK K2 := fun b hb2 => by
    have h1 := (r2.own b).1 hb2
    rcases hb with hb | hb
    · exact .inr ((r.own b).2 (by rw [← hb, h1]))
    · rw [h1] at hb
      simp only [Option.some.injEq] at hb
      left; omega
  refine ⟨K2', ⟨h.1.turn t1 (fun b hb => ⟨r.base b hb, ?_⟩) fun x hx => ?_, ?_⟩, r2⟩
  · obtain ⟨o', ho'⟩ := mem_keysK.1 hb
    exact mem_keysK.2 ⟨o', by simp [ho']⟩
  · rcases List.mem_append.1 hx with hx | hx
    · rcases List.mem_append.1 hx with hx | hx
      · exact ⟨keep x (.inl hx), .inr (mem_keysK.2 ⟨x.2, by simp [hx]⟩)⟩
      · refine ⟨hK2 x hx, ?_⟩
        rcases new x.1 (mem_keysK.2 ⟨x.2, hx⟩) with h' | h'
        · left; omega
        · obtain ⟨o', ho'⟩ := mem_keysK.1 h'
          exact .inr (mem_keysK.2 ⟨o', by simp [ho']⟩)
    · exact ⟨keep x (.inr hx), .inr (mem_keysK.2 ⟨x.2, by simp [hx]⟩)⟩
  · have far : ∀ b, b ∈ keysK K2' → b ∉ keysK K1 ∧ b ∉ keysK K3 := fun b hb2 => by
      rcases new b hb2 with h' | h'
      · refine ⟨fun hm => ?_, fun hm => ?_⟩
        · obtain ⟨o', ho'⟩ := mem_keysK.1 hm
          have := h.1.lt (mem_keysK.2 ⟨o', List.mem_append.2 (.inl (List.mem_append.2 (.inl ho')))⟩); omega
        · obtain ⟨o', ho'⟩ := mem_keysK.1 hm
          have := h.1.lt (mem_keysK.2 ⟨o', List.mem_append.2 (.inr ho')⟩); omega
      · exact ⟨fun hm => d12 b hm b h' rfl, fun hm => d123 b (List.mem_append.2 (.inr h')) b hm rfl⟩
    unfold keysK
    rw [List.map_append, List.map_append, List.nodup_append, List.nodup_append]
    refine ⟨⟨n1, r2.one, fun a ha b hb e => by subst e; exact (far a hb).1 ha⟩, n3, fun a ha b hb e => ?_⟩
    subst e
    rcases List.mem_append.1 ha with ha | ha
    · exact d123 a (List.mem_append.2 (.inl ha)) a hb rfl
    · exact (far a ha).2 hb
end Go.Proofs.Ytmpbhoijkcanmaa.R
