/- Maps of pages, and versions of them: lemmas, part 9 of 23. -/
import Derived.Maps.AppendAt
import Derived.Test.YtmpbhoijkcanmaaGreatRows
import Derived.Deep.Slices
import Derived.ChangeSame
import Derived.WalkKit
import Derived.ProofKit
import Derived.OpenShut
import Derived.Test.YtmpbhoijkcanmaaGreatQ08

/- Radix: rows beside a forest. -/
namespace Go.Proofs.YtmpbhoijkcanmaaGreat.R
open Go.ChangeShapes Go.WideShapes Go.ChangeAt Go.RowKit Go.Maps Go.Proofs.YtmpbhoijkcanmaaGreat.G
set_option linter.unusedVariables false
set_option linter.unusedSimpArgs false
set_option linter.unnecessarySimpa false

variable {F G : Fo} {w ww w' : World} {L f : Nat} {K K' : List (Nat × Obj)}
abbrev keysK (K : List (Nat × Obj)) : List Nat := K.map (·.1)
theorem mem_keysK {K : List (Nat × Obj)} {b : Nat} : b ∈ keysK K ↔ ∃ o, (b, o) ∈ K := by
  unfold keysK
  rw [List.mem_map]
  exact ⟨fun ⟨x, h, e⟩ => ⟨x.2, by rw [← e]; exact h⟩, fun ⟨o, h⟩ => ⟨_, h, rfl⟩⟩
/-- blocks beside a forest change, and new ones come -/
theorem LV.turn (h : LV w ww f F L K) {S : List Nat} (t : Turned S ww w') (hS : ∀ b ∈ S, w.heap.size ≤ b ∧ b ∈ keysK K) (hK : ∀ x ∈ K', w'.heap[x.1]? = some x.2 ∧ (ww.heap.size ≤ x.1 ∨ x.1 ∈ keysK K)) : LV w w' f F L K' := by
  obtain ⟨p, e, h1, h2⟩ := h
  have hn : ∀ b, b ∈ keysK K → ¬ p.own F b := fun b hb => by
    obtain ⟨o, ho⟩ := mem_keysK.1 hb
    exact (h2 _ ho).2
  refine ⟨p, e, ⟨h1.fo.turned t (fun b hb hs => hn b (hS b hs).2 hb), h1.ok, h1.new, Turned.below_of h1.bel t fun b hb => (hS b hb).1⟩, fun x hx => ⟨(hK x hx).1, fun ho => ?_⟩⟩
  rcases (hK x hx).2 with h' | h'
  · have := h1.fo.lt ho; omega
  · exact hn _ h' ho
theorem LV.sub (h : LV w ww f F L K) (hs : ∀ x ∈ K', x ∈ K) : LV w ww f F L K' := by
  obtain ⟨p, e, h1, h2⟩ := h
  exact ⟨p, e, h1, fun x hx => h2 x (hs x hx)⟩
theorem LV.lt (h : LV w ww f F L K) {b : Nat} (hb : b ∈ keysK K) : b < ww.heap.size := by
  obtain ⟨o, ho⟩ := mem_keysK.1 hb
  exact lt_of_at (h.at ho)
/-- a row that lies in some blocks -/
def RowK (K : List (Nat × Obj)) (base : Nat) (t : TypeId) (sz : Nat) (v : Value) (n : Nat) (xs : List Value) : Prop := ∀ ww : World, (∀ x ∈ K, ww.heap[x.1]? = some x.2) → ww.ownsRow base t sz v n xs
theorem RowK.at {base n sz : Nat} {t : TypeId} {v : Value} {xs : List Value} (r : RowK K base t sz v n xs) (h : LV w ww f F L K) : ww.ownsRow base t sz v n xs := r ww fun _ hx => h.at hx
theorem RowK.mono {base n sz : Nat} {t : TypeId} {v : Value} {xs : List Value} (r : RowK K base t sz v n xs) (hs : ∀ x ∈ K, x ∈ K') : RowK K' base t sz v n xs := fun ww h => r ww fun x hx => h x (hs x hx)
/-- it lies in no other ones -/
structure RowO (K : List (Nat × Obj)) (base : Nat) (t : TypeId) (sz : Nat) (v : Value) (n : Nat) (xs : List Value) : Prop where
  row : RowK K base t sz v n xs
  own : ∀ b, b ∈ keysK K ↔ v.ownBlock = some b
  one : (keysK K).Nodup
  base : ∀ b, b ∈ keysK K → base ≤ b
theorem RowO.nil (base : Nat) (t : TypeId) (sz : Nat) : RowO [] base t sz (.slice none 0 0) 0 [] :=
  ⟨fun _ _ => ⟨by simp, .inl ⟨rfl, rfl⟩⟩, fun b => by simp [keysK, Value.ownBlock], by simp [keysK], fun b hb => by simp [keysK] at hb⟩
theorem RowO.of {base n sz : Nat} {t : TypeId} {v : Value} {xs : List Value} (h : w'.ownsRow base t sz v n xs) : ∃ K1, RowO K1 base t sz v n xs ∧ ∀ x ∈ K1, w'.heap[x.1]? = some x.2 := by
  obtain ⟨h1, h2⟩ := h
  rcases h2 with ⟨rfl, rfl⟩ | ⟨g, cap, cur, rfl, hg, hh, hn, hc, hs, ht⟩
  · obtain rfl : xs = [] := List.length_eq_zero_iff.1 (by simpa using h1)
    exact ⟨[], RowO.nil base t sz, by simp⟩
  · exact ⟨[(g, .cells cur t (0, 0))], ⟨fun ww hw => ⟨h1, .inr ⟨g, cap, cur, rfl, hg, hw (g, _) List.mem_cons_self, hn, hc, hs, ht⟩⟩, fun b => by simp [keysK, Value.ownBlock, eq_comm], by simp [keysK], fun b hb => by simp [keysK] at hb; omega⟩, by simpa using hh⟩
/-- a forest, blocks beside it, each once -/
def LK (w ww : World) (f : Nat) (F : Fo) (L : Nat) (K : List (Nat × Obj)) : Prop := LV w ww f F L K ∧ (keysK K).Nodup
theorem LK.calm (h : LK w ww f F L K) (b : Below ww.heap.size ww w') : LK w w' f F L K := ⟨h.1.calm b, h.2⟩
theorem LK.bel (h : LK w ww f F L K) : Below w.heap.size w ww := h.1.bel
/-- a new row comes -/
theorem LK.row (h : LK w ww f F L K) (b : Below ww.heap.size ww w') {n sz : Nat} {t : TypeId} {v : Value} {xs : List Value} (r : w'.ownsRow ww.heap.size t sz v n xs) : ∃ K1, LK w w' f F L (K1 ++ K) ∧ RowO K1 w.heap.size t sz v n xs := by
  obtain ⟨K1, r1, hK1⟩ := RowO.of r
  have hw := h.bel.size
  refine ⟨K1, ⟨h.1.turn (Turned.of_below b) (by simp) fun x hx => ?_, ?_⟩, fun W hW => owns_mono (r1.row W hW) hw, r1.own, r1.one, fun b hb => Nat.le_trans hw (r1.base b hb)⟩
  · rcases List.mem_append.1 hx with hx | hx
    · exact ⟨hK1 x hx, .inl (r1.base _ (mem_keysK.2 ⟨_, hx⟩))⟩
    · exact ⟨(Turned.of_below b).at (h.1.at hx) (by simp), .inr (mem_keysK.2 ⟨_, hx⟩)⟩
  · unfold keysK
    rw [List.map_append, List.nodup_append]
    exact ⟨r1.one, h.2, fun a ha b hb e => by subst e; have := r1.base a ha; have := h.1.lt hb; omega⟩
/-- a row grows: behind an append -/
theorem LK.grow {K1 K2 K3 : List (Nat × Obj)} (h : LK w ww f F L (K1 ++ K2 ++ K3)) {n n' sz : Nat} {t : TypeId} {v v' : Value} {xs ys : List Value} (r : RowO K2 w.heap.size t sz v n xs) {o : Obj} (hg : (ww.alloc o).grownBy w' v.ownBlock) (ho : w'.ownsRow w.heap.size t sz v' n' ys)
    (hb : v'.ownBlock = v.ownBlock ∨ v'.ownBlock = some (ww.alloc o).heap.size) : ∃ K2', LK w w' f F L (K1 ++ K2' ++ K3) ∧ RowO K2' w.heap.size t sz v' n' ys := by
  obtain ⟨K2', r2, hK2⟩ := RowO.of ho
  have hsz : (ww.alloc o).heap.size = ww.heap.size + 1 := by simp
  have t1 : Turned (keysK K2) ww w' := ((Turned.refl (keysK K2) ww).alloc o).grown hg fun k hk => .inl ((r.own k).2 hk)
  have hnd := h.2
  unfold keysK at hnd
  rw [List.map_append, List.map_append, List.nodup_append, List.nodup_append] at hnd
  obtain ⟨⟨n1, n2, d12⟩, n3, d123⟩ := hnd
  have keep : ∀ x, x ∈ K1 ∨ x ∈ K3 → w'.heap[x.1]? = some x.2 := fun x hx => by
    refine t1.at (h.1.at ?_) fun hm => ?_
    · rcases hx with hx | hx
      · simp [hx]
      · simp [hx]
    · rcases hx with hx | hx
      · exact d12 x.1 (List.mem_map_of_mem hx) x.1 hm rfl
      · exact d123 x.1 (List.mem_append.2 (.inr hm)) x.1 (List.mem_map_of_mem hx) rfl
  have new : ∀ b, b ∈ keysK K2' → ww.heap.size < b ∨ b ∈ keysK K2 := fun b hb2 => by
    have h1 := (r2.own b).1 hb2
    rcases hb with hb | hb
    · exact .inr ((r.own b).2 (by rw [← hb, h1]))
    · rw [h1] at hb
      simp only [Option.some.injEq] at hb
      left; omega
  refine ⟨K2', ⟨h.1.turn t1 (fun b hb => ⟨r.base b hb, ?_⟩) fun x hx => ?_, ?_⟩, r2⟩
  · obtain ⟨o', ho'⟩ := mem_keysK.1 hb
    exact mem_keysK.2 ⟨o', by simp [ho']⟩
  · rcases List.mem_append.1 hx with hx | hx
    · rcases List.mem_append.1 hx with hx | hx
      · exact ⟨keep x (.inl hx), .inr (mem_keysK.2 ⟨x.2, by simp [hx]⟩)⟩
      · refine ⟨hK2 x hx, ?_⟩
        rcases new x.1 (mem_keysK.2 ⟨x.2, hx⟩) with h' | h'
        · left; omega
        · obtain ⟨o', ho'⟩ := mem_keysK.1 h'
          exact .inr (mem_keysK.2 ⟨o', by simp [ho']⟩)
    · exact ⟨keep x (.inr hx), .inr (mem_keysK.2 ⟨x.2, by simp [hx]⟩)⟩
  · have far : ∀ b, b ∈ keysK K2' → b ∉ keysK K1 ∧ b ∉ keysK K3 := fun b hb2 => by
      rcases new b hb2 with h' | h'
      · refine ⟨fun hm => ?_, fun hm => ?_⟩
        · obtain ⟨o', ho'⟩ := mem_keysK.1 hm
          have := h.1.lt (mem_keysK.2 ⟨o', List.mem_append.2 (.inl (List.mem_append.2 (.inl ho')))⟩); omega
        · obtain ⟨o', ho'⟩ := mem_keysK.1 hm
          have := h.1.lt (mem_keysK.2 ⟨o', List.mem_append.2 (.inr ho')⟩); omega
      · exact ⟨fun hm => d12 b hm b h' rfl, fun hm => d123 b (List.mem_append.2 (.inr h')) b hm rfl⟩
    unfold keysK
    rw [List.map_append, List.map_append, List.nodup_append, List.nodup_append]
    refine ⟨⟨n1, r2.one, fun a ha b hb e => by subst e; exact (far a hb).1 ha⟩, n3, fun a ha b hb e => ?_⟩
    subst e
    rcases List.mem_append.1 ha with ha | ha
    · exact d123 a (List.mem_append.2 (.inl ha)) a hb rfl
    · exact (far a ha).2 hb
end Go.Proofs.YtmpbhoijkcanmaaGreat.R

/- Slices that are handed in, read as lists: of any element type of which one element's cells can be read. -/
namespace Go.Proofs.YtmpbhoijkcanmaaGreat.G
open Go.ChangeShapes Go.WideShapes Go.ChangeAt Go.RowKit Go.Deep
set_option linter.unusedVariables false
set_option linter.unusedSimpArgs false
set_option linter.unnecessarySimpa false

/-- the cells of a slice are those of a list's elements, sz each -/
def RowsAt {α : Type} (w : World) (sz : Nat) (enc : α → List Value) (a : Option Addr) (len : Nat) (l : List α) : Prop :=
  l.length = len ∧ (len = 0 ∨ ∃ b off, a = some ⟨b, off, none⟩ ∧ b < w.heap.size ∧ ∀ i (h : i < l.length) j u, (enc l[i])[j]? = some u → w.cell? ⟨b, off + i * sz + j, none⟩ = some u)
theorem RowsAt.turned {α : Type} {w w' : World} {sz : Nat} {enc : α → List Value} {a : Option Addr} {len : Nat} {l : List α} (h : RowsAt w sz enc a len l) {S : List Nat} (t : Turned S w w') (hn : ∀ b, b < w.heap.size → b ∉ S) : RowsAt w' sz enc a len l := by
  refine ⟨h.1, h.2.imp id ?_⟩
  rintro ⟨b, off, e, hb, hc⟩
  exact ⟨b, off, e, Nat.lt_of_lt_of_le hb t.size, fun i hi j u hu => t.cell (hc i hi j u hu) (hn b hb)⟩
theorem RowsAt.below {α : Type} {w w' : World} {sz : Nat} {enc : α → List Value} {a : Option Addr} {len : Nat} {l : List α} (h : RowsAt w sz enc a len l) (t : Below w.heap.size w w') : RowsAt w' sz enc a len l := h.turned (Turned.of_below t) (by simp)
theorem RowsAt.at {α : Type} {w : World} {sz : Nat} {enc : α → List Value} {a : Option Addr} {len : Nat} {l : List α} (h : RowsAt w sz enc a len l) (i : Nat) (hi : i < len) : ∃ b off x, a = some ⟨b, off, none⟩ ∧ b < w.heap.size ∧ l[i]? = some x ∧ ∀ j u, (enc x)[j]? = some u → w.cell? ⟨b, off + i * sz + j, none⟩ = some u := by
  have hl : i < l.length := by rw [h.1]; exact hi
  rcases h.2 with h0 | ⟨b, off, e, hb, hc⟩
  · omega
  · exact ⟨b, off, l[i], e, hb, by simp, fun j u hu => hc i hl j u hu⟩
theorem addr_add_none (b off n : Nat) : (⟨b, off, none⟩ : Addr).add n = ⟨b, off + n, none⟩ := by
  unfold Addr.add
  split
  · next h => subst h; rfl
  · rfl
theorem cells_read {w : World} {base : Nat} {a : Addr} {n : Nat} {cs : List Value} (h : w.cells? base a n = some cs) : cs.length = n ∧ ∀ i, i < n → w.cell? (a.add i) = cs[i]? := by
  unfold World.cells? at h
  split at h
  · exact ⟨by simpa using mapM_some_length h, fun i hi => mapM_some_get h i i (by simp [hi])⟩
  · cases h
theorem spot_none {w : World} {z : Addr} {v : Value} (hv : w.cell? z = some v) : z.spot = none := by
  unfold World.cell? at hv
  split at hv
  · split at hv
    · cases hv
    · rename_i hs; simpa using hs
  · cases hv
/-- a slice that is handed in -/
theorem rows_of {α : Type} [Inhabited α] {P : Program} {H : Type} {encd : TypeId × Value → H} {W : World} {base : Nat} {spare : Nat → Bool} {held : Bool} {t e : TypeId} {sz : Nat} (hsz : 0 < sz) (enc : α → List Value) (hlen : ∀ x, (enc x).length = sz) (ok : α → Prop)
    (ht : P.underlying t = some (.slice e)) (hc : P.cellsOf e = sz)
    (elem : ∀ (n : Nat) (cs : List Value) (y : DataW H × List MemPlace), cs.length = sz → DataW.trod encd P W base spare held n e cs = some y → ∃ x, ok x ∧ cs = enc x)
    {a : Option Addr} {len cap fuel : Nat} {y : DataW H × List MemPlace} (h : DataW.trod encd P W base spare held fuel t [.slice a len cap] = some y) : ∃ l, RowsAt W sz enc a len l ∧ (∀ x ∈ l, ok x) ∧ len ≤ maxLen ∧ len ≤ cap := by
  rcases open_slice ht h with ⟨e, _⟩ | ⟨x, l, c, m, n, D, Pl, e, hb, hl, hm, hmm, _, hx⟩
  · simp at e; obtain ⟨rfl, rfl, rfl⟩ := e
    exact ⟨[], ⟨rfl, .inl rfl⟩, by simp, by decide, by omega⟩
  · simp at e; obtain ⟨rfl, rfl, rfl⟩ := e
    have hlm : len ≤ m := by rw [hmm]; split <;> omega
    have key : ∀ i, i < len → ∃ t : α, ok t ∧ ∀ j u, (enc t)[j]? = some u → W.cell? ((x.add (i * sz)).add j) = some u := by
      intro i hi
      obtain ⟨cs, h1, h2⟩ := hx i (by omega)
      rw [hc] at h1
      obtain ⟨hcl, hcg⟩ := cells_read h1
      obtain ⟨t, hok, rfl⟩ := elem _ _ _ hcl h2
      refine ⟨t, hok, fun j u hu => ?_⟩
      have hj : j < sz := by
        rcases Nat.lt_or_ge j sz with h | h
        · exact h
        · rw [List.getElem?_eq_none (by rw [hlen]; exact h)] at hu; cases hu
      rw [hcg j hj]; exact hu
    obtain ⟨V, hV⟩ := choose_lt key
    refine ⟨(List.range len).map V, ⟨by simp, ?_⟩, ?_, by omega, by omega⟩
    · by_cases h0 : len = 0
      · exact .inl h0
      · right
        have hl0 : 0 < (enc (V 0)).length := by rw [hlen]; exact hsz
        have h00 := (hV 0 (by omega)).2 0 _ (List.getElem?_eq_getElem hl0)
        have hs := spot_none h00
        obtain ⟨b, off, sp⟩ := x
        have hs' : sp = none := by
          have : ((⟨b, off, sp⟩ : Addr).add (0 * sz)).add 0 = ⟨b, off, sp⟩ := by simp [Addr.add]
          rw [this] at hs; exact hs
        subst hs'
        refine ⟨b, off, rfl, lt_of_cell (by simpa [Addr.add] using h00), fun i hi j u hu => ?_⟩
        simp only [List.getElem_map, List.getElem_range] at hu
        have := (hV i (by simpa using hi)).2 j u hu
        rw [addr_add_none, addr_add_none] at this
        exact this
    · intro t ht
      obtain ⟨i, hi, rfl⟩ := List.mem_map.1 ht
      exact (hV i (by simpa using hi)).1
end Go.Proofs.YtmpbhoijkcanmaaGreat.G

/- Radix: pages and entries that are handed in, bytes that are handed in. -/
namespace Go.Proofs.YtmpbhoijkcanmaaGreat.R
open Go.ChangeShapes Go.WideShapes Go.ChangeAt Go.RowKit Go.Maps Go.Proofs.YtmpbhoijkcanmaaGreat.G Go.Joins
set_option linter.unusedVariables false
set_option linter.unusedSimpArgs false
set_option linter.unnecessarySimpa false

structure PutD where
  page : Nat
  x : Ent
  gone : Bool
deriving Inhabited
def PutD.ok (c : PutD) : Prop := c.page < 65536 ∧ c.x.ok
def encPut (c : PutD) : List Value := [.int .u16 (c.page : Nat), .int .i64 c.x.s.e, .int .i64 c.x.s.c, .int .i64 c.x.s.i, .int .i64 c.x.g, .bool c.gone]
abbrev PutsAt (w : World) (a : Option Addr) (len : Nat) (l : List PutD) : Prop := RowsAt w 6 encPut a len l
theorem PutsAt.cells {w : World} {a : Option Addr} {len : Nat} {l : List PutD} (h : PutsAt w a len l) (i : Nat) (hi : i < len) : ∃ b off x, a = some ⟨b, off, none⟩ ∧ b < w.heap.size ∧ l[i]? = some x ∧ w.cell? ⟨b, off + i * 6, none⟩ = some (.int .u16 (x.page : Nat)) ∧ w.cell? ⟨b, off + i * 6 + 1, none⟩ = some (.int .i64 x.x.s.e) ∧ w.cell? ⟨b, off + i * 6 + 2, none⟩ = some (.int .i64 x.x.s.c) ∧ w.cell? ⟨b, off + i * 6 + 3, none⟩ = some (.int .i64 x.x.s.i) ∧ w.cell? ⟨b, off + i * 6 + 4, none⟩ = some (.int .i64 x.x.g) ∧ w.cell? ⟨b, off + i * 6 + 5, none⟩ = some (.bool x.gone) := by
  obtain ⟨b, off, x, e, hb, hx, hc⟩ := RowsAt.at h i hi
  exact ⟨b, off, x, e, hb, hx, hc 0 _ rfl, hc 1 _ rfl, hc 2 _ rfl, hc 3 _ rfl, hc 4 _ rfl, hc 5 _ rfl⟩
abbrev BytesAt (w : World) (a : Option Addr) (len : Nat) (l : List Nat) : Prop := RowsAt w 1 (fun n : Nat => [.int .u8 (n : Nat)]) a len l
section
variable {H : Type} {enc : TypeId × Value → H} {w : World} {base : Nat} {spare : Nat → Bool} {held : Bool}
theorem byte_trod {fuel : Nat} {cs : List Value} {y : DataW H × List MemPlace} (hl : cs.length = 1) (h : DataW.trod enc Tryz.prog w base spare held fuel 5 cs = some y) : ∃ x : Nat, x < 256 ∧ cs = [.int .u8 (x : Nat)] := by
  obtain ⟨p, e0, rfl, w0⟩ := DataW.trod_int Tryz.underlying5 h
  have b0 := bounds_u8 w0
  obtain ⟨pn, rfl⟩ : ∃ pn : Nat, p = pn := ⟨p.toNat, by omega⟩
  exact ⟨pn, by omega, e0⟩
end
/-- a row that is owned, by its cells -/
theorem slAt_of_row {K : List (Nat × Obj)} {base n : Nat} {t : TypeId} {v : Value} {xs : List Value} {w ww : World} {f L : Nat} {F : Fo} (r : RowK K base t 1 v n xs) (h : LV w ww f F L K) : ∃ a cap, v = .slice a n cap ∧ SlAt ww a n xs := by
  obtain ⟨a, cap, e, h1, _⟩ := SlAt.of_owns (r.at h)
  exact ⟨a, cap, e, h1⟩
end Go.Proofs.YtmpbhoijkcanmaaGreat.R

/- Radix: a law's forest, with the roots and the lists that it keeps. -/
namespace Go.Proofs.YtmpbhoijkcanmaaGreat.R
open Go.ChangeShapes Go.WideShapes Go.ChangeAt Go.RowKit Go.Maps Go.Proofs.YtmpbhoijkcanmaaGreat.G
set_option linter.unusedVariables false
set_option linter.unusedSimpArgs false
set_option linter.unnecessarySimpa false

variable {F G : Fo} {w ww w' : World} {L f : Nat} {rv qv : Value} {rs hs : List Nat} {ls : List Value} {ex : List (Value × List Pr)}
theorem LK.perm {K K' : List (Nat × Obj)} (h : LK w ww f F L K) (p : K.Perm K') : LK w ww f F L K' :=
  ⟨h.1.sub fun x hx => p.mem_iff.2 hx, (p.map (·.1)).nodup_iff.1 h.2⟩
def encR (r : Nat) : Value := .int .i64 (r : Nat)
def mapL (F : Fo) (r : Nat) : List Pr := allL (getL 2 F r) 4096
/-- the roots, the lists, and rows of entries, in memory -/
def StM (w ww : World) (f L : Nat) (F : Fo) (rv : Value) (rs : List Nat) (qv : Value) (ls : List Value) (ex : List (Value × List Pr)) : Prop :=
  ∃ K1 K2 K3, LK w ww f F L (K1 ++ K2 ++ K3) ∧ RowO K1 w.heap.size 3 1 rv rs.length (rs.map encR) ∧ RowO K2 w.heap.size 53 1 qv ls.length ls ∧ ∀ x ∈ ex, RowK K3 w.heap.size 88 5 x.1 x.2.length (flatP x.2)
theorem StM.calm (h : StM w ww f L F rv rs qv ls ex) (b : Below ww.heap.size ww w') : StM w w' f L F rv rs qv ls ex := by
  obtain ⟨K1, K2, K3, h1, h2⟩ := h
  exact ⟨K1, K2, K3, h1.calm b, h2⟩
theorem StM.alloc (h : StM w ww f L F rv rs qv ls ex) (o : Obj) : StM w (ww.alloc o) f L F rv rs qv ls ex := h.calm ((Turned.refl [] ww).alloc o).below
theorem StM.drewN (h : StM w ww f L F rv rs qv ls ex) (n : Nat) : StM w (ww.drewN n) f L F rv rs qv ls ex := h.calm ((Turned.refl [] ww).drewN n).below
theorem StM.lv (h : StM w ww f L F rv rs qv ls ex) : ∃ K, LV w ww f F L K := by
  obtain ⟨K1, K2, K3, h1, _⟩ := h
  exact ⟨_, h1.1⟩
theorem StM.bel (h : StM w ww f L F rv rs qv ls ex) : Below w.heap.size w ww := by
  obtain ⟨K, h1⟩ := h.lv
  exact h1.bel
theorem StM.ok (h : StM w ww f L F rv rs qv ls ex) : Ok F L := by
  obtain ⟨K, h1⟩ := h.lv
  exact h1.ok
theorem StM.start (h : LV w ww f fo0 0 []) : StM w ww f 0 fo0 (.slice none 0 0) [] (.slice none 0 0) [] [] :=
  ⟨[], [], [], ⟨h, by simp [keysK]⟩, RowO.nil _ _ _, RowO.nil _ _ _, by simp⟩
theorem StM.rowR (h : StM w ww f L F rv rs qv ls ex) : ww.ownsRow w.heap.size 3 1 rv rs.length (rs.map encR) := by
  obtain ⟨K1, K2, K3, h1, h2, h3, h4⟩ := h
  exact (h2.row.mono (K' := K1 ++ K2 ++ K3) fun x hx => by simp [hx]).at h1.1
theorem StM.rowL (h : StM w ww f L F rv rs qv ls ex) : ww.ownsRow w.heap.size 53 1 qv ls.length ls := by
  obtain ⟨K1, K2, K3, h1, h2, h3, h4⟩ := h
  exact (h3.row.mono (K' := K1 ++ K2 ++ K3) fun x hx => by simp [hx]).at h1.1
theorem StM.rowX (h : StM w ww f L F rv rs qv ls ex) {v : Value} {c : List Pr} (hx : (v, c) ∈ ex) : ww.ownsRow w.heap.size 88 5 v c.length (flatP c) := by
  obtain ⟨K1, K2, K3, h1, h2, h3, h4⟩ := h
  exact ((h4 _ hx).mono (K' := K1 ++ K2 ++ K3) fun x hx => by simp [hx]).at h1.1
theorem StM.set (h : StM w ww f L F rv rs qv ls ex) (hL : L ≤ 2 ^ 34) {r pg : Nat} (hr : isB F (r : Int) = true) (hpg : pg < 4096) (x : Ent) (hx : x.ok) :
    Calls Tryz.prog 37 #[.pointer (some ⟨f, 0, none⟩), .int .i64 (r : Nat), .int .i64 (pg : Nat), encE x] ww fun e w' => e = .returned (.tuple #[.int .i64 ((setF F r pg (.set 0 x)).2 : Nat), .int .i64 0]) ∧ StM w w' f (L + 3) (setF F r pg (.set 0 x)).1 rv rs qv ls ex := by
  obtain ⟨K1, K2, K3, h1, h2⟩ := h
  exact (set_lv h1.1 hL hr hpg x hx).mono fun e w' ⟨e1, e2⟩ => ⟨e1, K1, K2, K3, ⟨e2, h1.2⟩, h2⟩
theorem StM.clear (h : StM w ww f L F rv rs qv ls ex) (hL : L ≤ 2 ^ 34) {r pg : Nat} (hr : isB F (r : Int) = true) (hpg : pg < 4096) :
    Calls Tryz.prog 36 #[.pointer (some ⟨f, 0, none⟩), .int .i64 (r : Nat), .int .i64 (pg : Nat)] ww fun e w' => e = .returned (.tuple #[.int .i64 ((clearF F r pg).2 : Nat), .int .i64 0]) ∧ StM w w' f (L + 3) (clearF F r pg).1 rv rs qv ls ex := by
  obtain ⟨K1, K2, K3, h1, h2⟩ := h
  exact (clear_lv h1.1 hL hr hpg).mono fun e w' ⟨e1, e2⟩ => ⟨e1, K1, K2, K3, ⟨e2, h1.2⟩, h2⟩
theorem StM.drop (h : StM w ww f L F rv rs qv ls ex) (hL : L ≤ 2 ^ 34) {r : Nat} (hr : isB F (r : Int) = true) :
    Calls Tryz.prog 38 #[.pointer (some ⟨f, 0, none⟩), .int .i64 (r : Nat)] ww fun e w' => ∃ (v : Value) (G : Fo) (ys : List Slot), e = .returned (.tuple #[v, .int .i64 0]) ∧ DropIs F L r G ys ∧ w'.ownsRow ww.heap.size 45 3 v ys.length (flat ys) ∧ StM w w' f L G rv rs qv ls ex := by
  obtain ⟨K1, K2, K3, h1, h2⟩ := h
  exact (drop_lv h1.1 hL hr).mono fun e w' ⟨v, G, ys, e1, e2, eo, e3⟩ => ⟨v, G, ys, e1, e2, eo, K1, K2, K3, ⟨e3, h1.2⟩, h2⟩
theorem StM.all (h : StM w ww f L F rv rs qv ls ex) (hL : L ≤ 2 ^ 34) {r : Nat} (hr : isB F (r : Int) = true) :
    Calls Tryz.prog 34 #[.pointer (some ⟨f, 0, none⟩), .int .i64 (r : Nat)] ww fun e w' => ∃ v, e = .returned v ∧ w'.ownsRow ww.heap.size 88 5 v (mapL F r).length (flatP (mapL F r)) ∧ Below ww.heap.size ww w' ∧ StM w w' f L F rv rs qv ls ((v, mapL F r) :: ex) := by
  obtain ⟨K1, K2, K3, h1, h2, h3, h4⟩ := h
  refine (all_lv h1.1 hL hr).mono fun e w' ⟨v, e1, e2, e3⟩ => ?_
  have e2 : w'.ownsRow ww.heap.size 88 5 v (mapL F r).length (flatP (mapL F r)) := e2
  refine ⟨v, e1, e2, e3, ?_⟩
  generalize mapL F r = c at *
  obtain ⟨K4, k1, k2⟩ := h1.row e3 e2
  refine ⟨K1, K2, K4 ++ K3, k1.perm ?_, h2, h3, ?_⟩
  · have := (List.perm_append_comm (l₁ := K4) (l₂ := K1 ++ K2)).append_right K3
    simpa only [List.append_assoc] using this
  · intro x hx
    rcases List.mem_cons.1 hx with e | hx
    · rw [e]; exact k2.row.mono fun y hy => List.mem_append.2 (.inl hy)
    · exact (h4 x hx).mono fun y hy => List.mem_append.2 (.inr hy)
theorem StM.appR (h : StM w ww f L F rv rs qv ls ex) {o : Obj} {v' : Value} {r : Nat} (ho : w'.ownsRow w.heap.size 3 1 v' (rs.length + 1) (rs.map encR ++ [encR r])) (hg : (ww.alloc o).grownBy w' rv.ownBlock) (hb : v'.ownBlock = rv.ownBlock ∨ v'.ownBlock = some (ww.heap.size + 1)) : StM w w' f L F v' (rs ++ [r]) qv ls ex := by
  obtain ⟨K1, K2, K3, h1, h2, h3, h4⟩ := h
  have h1' : LK w ww f F L ([] ++ K1 ++ (K2 ++ K3)) := by simpa using h1
  obtain ⟨K1', k1, k2⟩ := h1'.grow h2 hg ho (by rw [World.size_alloc]; exact hb)
  exact ⟨K1', K2, K3, by simpa using k1, by simpa using k2, h3, h4⟩
theorem StM.appL (h : StM w ww f L F rv rs qv ls ex) {o : Obj} {v' v : Value} (ho : w'.ownsRow w.heap.size 53 1 v' (ls.length + 1) (ls ++ [v])) (hg : (ww.alloc o).grownBy w' qv.ownBlock) (hb : v'.ownBlock = qv.ownBlock ∨ v'.ownBlock = some (ww.heap.size + 1)) : StM w w' f L F rv rs v' (ls ++ [v]) ex := by
  obtain ⟨K1, K2, K3, h1, h2, h3, h4⟩ := h
  obtain ⟨K2', k1, k2⟩ := h1.grow h3 hg ho (by rw [World.size_alloc]; exact hb)
  exact ⟨K1, K2', K3, k1, h2, by simpa using k2, h4⟩
theorem StM.less {ex' : List (Value × List Pr)} (h : StM w ww f L F rv rs qv ls ex) (hs : ∀ x, x ∈ ex' → x ∈ ex) : StM w ww f L F rv rs qv ls ex' := by
  obtain ⟨K1, K2, K3, h1, h2, h3, h4⟩ := h
  exact ⟨K1, K2, K3, h1, h2, h3, fun x hx => h4 x (hs x hx)⟩
theorem cell_of_owns {base n cap rb roff k : Nat} {t : TypeId} {xs : List Value} {u : Value} (h : ww.ownsRow base t 1 (.slice (some ⟨rb, roff, none⟩) n cap) n xs) (hk : xs[k]? = some u) : ww.cell? ⟨rb, roff + k, none⟩ = some u := by
  obtain ⟨a, c, e, h1, h2⟩ := SlAt.of_owns h
  simp only [Value.slice.injEq] at e
  obtain ⟨rfl, _, _⟩ := e
  have hkn : k < n := by
    rcases Nat.lt_or_ge k n with q | q
    · exact q
    · rw [List.getElem?_eq_none (by rw [h1.1]; exact q)] at hk; cases hk
  obtain ⟨b, off, e, hc⟩ := h1.cells (by omega)
  simp only [Option.some.injEq, Addr.mk.injEq, and_true] at e
  obtain ⟨rfl, rfl⟩ := e
  rw [hc k hkn, hk]
theorem StM.cellR {rb roff n rcap k r : Nat} (h : StM w ww f L F (.slice (some ⟨rb, roff, none⟩) n rcap) rs qv ls ex) (hn : rs.length = n) (hk : rs[k]? = some r) : ww.cell? ⟨rb, roff + k, none⟩ = some (.int .i64 (r : Nat)) := by
  have := h.rowR
  rw [hn] at this
  exact cell_of_owns this (u := encR r) (by rw [List.getElem?_map, hk]; rfl)
theorem StM.cellL {rb roff n rcap k : Nat} {v : Value} (h : StM w ww f L F rv rs (.slice (some ⟨rb, roff, none⟩) n rcap) ls ex) (hn : ls.length = n) (hk : ls[k]? = some v) : ww.cell? ⟨rb, roff + k, none⟩ = some v := by
  have := h.rowL
  rw [hn] at this
  exact cell_of_owns this hk
/-- what is held, and what the lists are -/
structure StP (F : Fo) (hs rs : List Nat) (ls : List Value) (ex : List (Value × List Pr)) : Prop where
  held : ∀ r : Nat, r ≠ 0 → cnt F.held (r : Int) = hs.count r
  cont : ∀ (k r : Nat) (v : Value), rs[k]? = some r → ls[k]? = some v → r = 0 ∨ r ∈ hs → (v, mapL F r) ∈ ex
theorem StP.isB (h : StP F hs rs ls ex) {r : Nat} (hr : r = 0 ∨ r ∈ hs) : isB F (r : Int) = true := by
  rw [isB_iff]
  by_cases h0 : r = 0
  · exact .inl h0
  · right
    rw [h.held r h0]
    exact List.count_pos_iff.2 (hr.resolve_left h0)
theorem StP.start : StP fo0 [] [] [] [] := ⟨fun r _ => rfl, fun k r v h => by cases h⟩
theorem mapL_ext (h : Ok F L) (e : Ext F G) {r : Nat} (hr : r = 0 ∨ r ∈ F.ids) : mapL G r = mapL F r := allL_congr 4096 fun q _ => getL_ext h.inv e 2 r q hr
theorem StP.ids (h : StP F hs rs ls ex) (k : Ok F L) {r : Nat} (hr : r = 0 ∨ r ∈ hs) : r = 0 ∨ r ∈ F.ids := by
  by_cases h0 : r = 0
  · exact .inl h0
  · right
    refine k.root ?_
    rw [h.held r h0]
    exact List.count_pos_iff.2 (hr.resolve_left h0)
theorem StP.new (h : StP F hs rs ls ex) (hrs : ∀ r, r ∈ rs → r = 0 ∨ r ∈ hs) (hl : ls.length = rs.length) (k : Ok F L) (e : Ext F G) {r' : Nat} (hh : ∀ i : Int, cnt G.held i = cnt F.held i + if r' ≠ 0 ∧ i = r' then 1 else 0) (v : Value) : StP G (hs ++ [r']) (rs ++ [r']) (ls ++ [v]) ((v, mapL G r') :: ex) := by
  refine ⟨fun r h0 => ?_, fun j r u hr hu hx => ?_⟩
  · rw [hh, h.held r h0, List.count_append]
    by_cases e : r = r'
    · subst e; rw [if_pos ⟨h0, rfl⟩]; simp
    · rw [if_neg (by omega), List.count_singleton, if_neg (by simpa using Ne.symm e)]
  · have hj : j < (rs ++ [r']).length := by
      rcases Nat.lt_or_ge j (rs ++ [r']).length with q | q
      · exact q
      · rw [List.getElem?_eq_none q] at hr; cases hr
    rw [List.length_append, List.length_singleton] at hj
    by_cases hlt : j < rs.length
    · rw [List.getElem?_append_left hlt] at hr
      rw [List.getElem?_append_left (by omega)] at hu
      have hm := hrs r (List.mem_of_getElem? hr)
      rw [mapL_ext k e (h.ids k hm)]
      exact List.mem_cons_of_mem _ (h.cont j r u hr hu hm)
    · obtain rfl : j = rs.length := by omega
      rw [List.getElem?_append_right (Nat.le_refl _)] at hr
      rw [List.getElem?_append_right (by omega)] at hu
      simp [hl] at hr hu
      subst hr hu
      exact List.mem_cons_self
theorem StP.drop {a : Nat} {ys : List Slot} (h : StP F (a :: hs) rs ls ex) (d : DropIs F L a G ys) : StP G hs rs ls ex := by
  have hH : ∀ r : Nat, r ≠ 0 → cnt G.held (r : Int) = hs.count r := fun r h0 => by
    rw [d.held, h.held r h0, List.count_cons]
    by_cases e : a = r
    · subst e; simp [h0]
    · rw [if_neg (by omega), if_neg (by simpa using e)]; rfl
  refine ⟨hH, fun j r u hr hu hx => ?_⟩
  have hg : r = 0 ∨ r ∈ G.ids := by
    by_cases h0 : r = 0
    · exact .inl h0
    · right
      refine d.ok.root ?_
      rw [hH r h0]
      exact List.count_pos_iff.2 (hx.resolve_left h0)
  have := h.cont j r u hr hu (hx.imp id fun h => List.mem_cons_of_mem _ h)
  rw [mapL_ext d.ok d.ext hg] at this
  exact this
theorem StP.gone (h : StP F [] rs ls ex) (k : Ok F L) : F.ids = [] := k.ids_nil fun i => by
  by_cases h0 : i = 0
  · subst h0
    rcases Nat.eq_zero_or_pos (cnt F.held ((0 : Nat) : Int)) with h' | h'
    · exact h'
    · have h1 := k.root (i := 0) h'
      have := (k.inv.pos 0 h1).1
      omega
  · rw [h.held i h0]; rfl
end Go.Proofs.YtmpbhoijkcanmaaGreat.R

/- Radix: a law's forest, with the pages and the map that it keeps. -/
namespace Go.Proofs.YtmpbhoijkcanmaaGreat.R
open Go.ChangeShapes Go.WideShapes Go.ChangeAt Go.RowKit Go.Maps Go.Proofs.YtmpbhoijkcanmaaGreat.G
set_option linter.unusedVariables false
set_option linter.unusedSimpArgs false
set_option linter.unnecessarySimpa false

variable {F G : Fo} {w ww w' : World} {L f bm : Nat} {pv : Value} {ps : List Nat} {M : List (Int × Value)} {ex : List (Value × List Pr)}
/-- a block beside a forest is another one -/
theorem LK.put1 {K1 K3 : List (Nat × Obj)} {b : Nat} {o o' : Obj} (h : LK w ww f F L (K1 ++ [(b, o)] ++ K3)) (hb : w.heap.size ≤ b) (t : Turned [b] ww w') (ho : w'.heap[b]? = some o') : LK w w' f F L (K1 ++ [(b, o')] ++ K3) := by
  have hnd := h.2
  have hk : keysK (K1 ++ [(b, o')] ++ K3) = keysK (K1 ++ [(b, o)] ++ K3) := by simp [keysK]
  refine ⟨h.1.turn t (fun c hc => ?_) fun x hx => ?_, by rw [hk]; exact hnd⟩
  · simp only [List.mem_singleton] at hc; subst hc
    exact ⟨hb, by simp [keysK]⟩
  · by_cases e : x.1 = b
    · have : x = (b, o') := by
        have hx' := hx
        rw [List.append_assoc, List.mem_append] at hx
        unfold keysK at hnd
        rw [List.append_assoc, List.map_append, List.nodup_append] at hnd
        obtain ⟨n1, n2, d⟩ := hnd
        rcases hx with hx | hx
        · exact absurd rfl (d x.1 (List.mem_map_of_mem hx) b (by simp) |> fun h => by rw [e] at h; exact h)
        · rcases List.mem_cons.1 hx with hx | hx
          · exact hx
          · simp only [List.cons_append, List.nil_append, List.map_cons, List.nodup_cons] at n2
            have hx3 : x ∈ K3 := hx
            exact absurd (e ▸ (List.mem_map_of_mem (f := fun y : Nat × Obj => y.1) hx3)) n2.1
      rw [this]
      exact ⟨ho, .inr (by simp [keysK])⟩
    · have hx0 : x ∈ K1 ++ [(b, o)] ++ K3 := by
        rcases List.mem_append.1 hx with hx | hx
        · rcases List.mem_append.1 hx with hx | hx
          · simp [hx]
          · simp only [List.mem_singleton] at hx; exact absurd (by rw [hx]) e
        · simp [hx]
      exact ⟨t.at (h.1.at hx0) (by simpa using e), .inr (mem_keysK.2 ⟨x.2, hx0⟩)⟩
/-- the pages, the map, and rows of entries, in memory -/
def StO (w ww : World) (f L : Nat) (F : Fo) (pv : Value) (ps : List Nat) (bm : Nat) (M : List (Int × Value)) (ex : List (Value × List Pr)) : Prop :=
  ∃ K1 o K3, LK w ww f F L (K1 ++ [(bm, o)] ++ K3) ∧ RowO K1 w.heap.size 3 1 pv ps.length (ps.map encR) ∧ w.heap.size ≤ bm ∧ MapIs Tryz.prog 3 encI ww bm M ∧ ∀ x ∈ ex, RowK K3 w.heap.size 88 5 x.1 x.2.length (flatP x.2)
theorem at_some {w : World} {b : Nat} (h : b < w.heap.size) : ∃ o, w.heap[b]? = some o := ⟨_, Array.getElem?_eq_getElem h⟩
theorem LK.far {K : List (Nat × Obj)} {b : Nat} {o : Obj} (h : LK w ww f F L K) (hb : (b, o) ∈ K) : ww.heap[b]? = some o := h.1.at hb
theorem StO.calm (h : StO w ww f L F pv ps bm M ex) (b : Below ww.heap.size ww w') : StO w w' f L F pv ps bm M ex := by
  obtain ⟨K1, o, K3, h1, h2, h3, h4, h5⟩ := h
  exact ⟨K1, o, K3, h1.calm b, h2, h3, h4.turned (Turned.of_below b) (by simp), h5⟩
theorem StO.alloc (h : StO w ww f L F pv ps bm M ex) (o : Obj) : StO w (ww.alloc o) f L F pv ps bm M ex := h.calm ((Turned.refl [] ww).alloc o).below
theorem StO.drewN (h : StO w ww f L F pv ps bm M ex) (n : Nat) : StO w (ww.drewN n) f L F pv ps bm M ex := h.calm ((Turned.refl [] ww).drewN n).below
theorem StO.drew (h : StO w ww f L F pv ps bm M ex) : StO w ww.drew f L F pv ps bm M ex := h.calm (Turned.refl [] ww).drew.below
theorem StO.lv (h : StO w ww f L F pv ps bm M ex) : ∃ K, LV w ww f F L K := by
  obtain ⟨K1, o, K3, h1, _⟩ := h
  exact ⟨_, h1.1⟩
theorem StO.bel (h : StO w ww f L F pv ps bm M ex) : Below w.heap.size w ww := by
  obtain ⟨K, h1⟩ := h.lv
  exact h1.bel
theorem StO.base (h : StO w ww f L F pv ps bm M ex) : w.heap.size ≤ bm := by
  obtain ⟨K1, o, K3, h1, h2, h3, h4, h5⟩ := h
  exact h3
theorem StO.ok (h : StO w ww f L F pv ps bm M ex) : Ok F L := by
  obtain ⟨K, h1⟩ := h.lv
  exact h1.ok
theorem StO.map (h : StO w ww f L F pv ps bm M ex) : MapIs Tryz.prog 3 encI ww bm M := by
  obtain ⟨K1, o, K3, h1, h2, h3, h4, h5⟩ := h
  exact h4
theorem StO.start (h : LV w ww f fo0 0 []) : StO w (ww.alloc (.map #[] 0)) f 0 fo0 (.slice none 0 0) [] ww.heap.size [] [] :=
  ⟨[], .map #[] 0, [], ⟨by simpa using h.put (.map #[] 0), by simp [keysK]⟩, RowO.nil _ _ _, h.bel.size, MapIs.made ww, by simp⟩
theorem StO.row (h : StO w ww f L F pv ps bm M ex) : ww.ownsRow w.heap.size 3 1 pv ps.length (ps.map encR) := by
  obtain ⟨K1, o, K3, h1, h2, h3, h4, h5⟩ := h
  exact (h2.row.mono (K' := K1 ++ [(bm, o)] ++ K3) fun x hx => by simp [hx]).at h1.1
theorem StO.rowX (h : StO w ww f L F pv ps bm M ex) {v : Value} {c : List Pr} (hx : (v, c) ∈ ex) : ww.ownsRow w.heap.size 88 5 v c.length (flatP c) := by
  obtain ⟨K1, o, K3, h1, h2, h3, h4, h5⟩ := h
  exact ((h5 _ hx).mono (K' := K1 ++ [(bm, o)] ++ K3) fun x hx => by simp [hx]).at h1.1
theorem StO.less {ex' : List (Value × List Pr)} (h : StO w ww f L F pv ps bm M ex) (hs : ∀ x, x ∈ ex' → x ∈ ex) : StO w ww f L F pv ps bm M ex' := by
  obtain ⟨K1, o, K3, h1, h2, h3, h4, h5⟩ := h
  exact ⟨K1, o, K3, h1, h2, h3, h4, fun x hx => h5 x (hs x hx)⟩
theorem StO.of_lv (h : StO w ww f L F pv ps bm M ex) {G : Fo} {L' : Nat} (hs : ∀ K, LV w ww f F L K → LV w w' f G L' K) : StO w w' f L' G pv ps bm M ex := by
  obtain ⟨K1, o, K3, h1, h2, h3, h4, h5⟩ := h
  have h' := hs _ h1.1
  have e1 := h1.1.at (x := (bm, o)) (by simp)
  have e2 := h'.at (x := (bm, o)) (by simp)
  exact ⟨K1, o, K3, ⟨h', h1.2⟩, h2, h3, h4.kept (by rw [e1, e2]), h5⟩
theorem StO.set (h : StO w ww f L F pv ps bm M ex) (hL : L ≤ 2 ^ 34) {r pg : Nat} (hr : isB F (r : Int) = true) (hpg : pg < 4096) (x : Ent) (hx : x.ok) :
    Calls Tryz.prog 37 #[.pointer (some ⟨f, 0, none⟩), .int .i64 (r : Nat), .int .i64 (pg : Nat), encE x] ww fun e w' => e = .returned (.tuple #[.int .i64 ((setF F r pg (.set 0 x)).2 : Nat), .int .i64 0]) ∧ StO w w' f (L + 3) (setF F r pg (.set 0 x)).1 pv ps bm M ex := by
  obtain ⟨K1, o, K3, h1, h2, h3, h4, h5⟩ := id h
  refine (set_lv h1.1 hL hr hpg x hx).mono fun e w' ⟨e1, e2⟩ => ⟨e1, K1, o, K3, ⟨e2, h1.2⟩, h2, h3, h4.kept ?_, h5⟩
  rw [h1.1.at (x := (bm, o)) (by simp), e2.at (x := (bm, o)) (by simp)]
theorem StO.clear (h : StO w ww f L F pv ps bm M ex) (hL : L ≤ 2 ^ 34) {r pg : Nat} (hr : isB F (r : Int) = true) (hpg : pg < 4096) :
    Calls Tryz.prog 36 #[.pointer (some ⟨f, 0, none⟩), .int .i64 (r : Nat), .int .i64 (pg : Nat)] ww fun e w' => e = .returned (.tuple #[.int .i64 ((clearF F r pg).2 : Nat), .int .i64 0]) ∧ StO w w' f (L + 3) (clearF F r pg).1 pv ps bm M ex := by
  obtain ⟨K1, o, K3, h1, h2, h3, h4, h5⟩ := id h
  refine (clear_lv h1.1 hL hr hpg).mono fun e w' ⟨e1, e2⟩ => ⟨e1, K1, o, K3, ⟨e2, h1.2⟩, h2, h3, h4.kept ?_, h5⟩
  rw [h1.1.at (x := (bm, o)) (by simp), e2.at (x := (bm, o)) (by simp)]
theorem StO.all (h : StO w ww f L F pv ps bm M ex) (hL : L ≤ 2 ^ 34) {r : Nat} (hr : isB F (r : Int) = true) :
    Calls Tryz.prog 34 #[.pointer (some ⟨f, 0, none⟩), .int .i64 (r : Nat)] ww fun e w' => ∃ v, e = .returned v ∧ w'.ownsRow ww.heap.size 88 5 v (mapL F r).length (flatP (mapL F r)) ∧ Below ww.heap.size ww w' ∧ StO w w' f L F pv ps bm M ((v, mapL F r) :: ex) := by
  obtain ⟨K1, o, K3, h1, h2, h3, h4, h5⟩ := h
  refine (all_lv h1.1 hL hr).mono fun e w' ⟨v, e1, e2, e3⟩ => ?_
  have e2 : w'.ownsRow ww.heap.size 88 5 v (mapL F r).length (flatP (mapL F r)) := e2
  refine ⟨v, e1, e2, e3, ?_⟩
  generalize mapL F r = c at *
  obtain ⟨K4, k1, k2⟩ := h1.row e3 e2
  refine ⟨K1, o, K4 ++ K3, k1.perm ?_, h2, h3, h4.turned (Turned.of_below e3) (by simp), ?_⟩
  · have := (List.perm_append_comm (l₁ := K4) (l₂ := K1 ++ [(bm, o)])).append_right K3
    simpa only [List.append_assoc] using this
  · intro x hx
    rcases List.mem_cons.1 hx with e | hx
    · rw [e]; exact k2.row.mono fun y hy => List.mem_append.2 (.inl hy)
    · exact (h5 x hx).mono fun y hy => List.mem_append.2 (.inr hy)
theorem StO.app (h : StO w ww f L F pv ps bm M ex) {o : Obj} {v' : Value} {r : Nat} (ho : w'.ownsRow w.heap.size 3 1 v' (ps.length + 1) (ps.map encR ++ [encR r])) (hg : (ww.alloc o).grownBy w' pv.ownBlock) (hb : v'.ownBlock = pv.ownBlock ∨ v'.ownBlock = some (ww.heap.size + 1)) : StO w w' f L F v' (ps ++ [r]) bm M ex := by
  obtain ⟨K1, o', K3, h1, h2, h3, h4, h5⟩ := h
  have h1' : LK w ww f F L ([] ++ K1 ++ ([(bm, o')] ++ K3)) := by simpa using h1
  obtain ⟨K1', k1, k2⟩ := h1'.grow h2 hg ho (by rw [World.size_alloc]; exact hb)
  have k1 : LK w w' f F L (K1' ++ [(bm, o')] ++ K3) := by simpa using k1
  refine ⟨K1', o', K3, k1, by simpa using k2, h3, h4.kept ?_, h5⟩
  rw [h1.1.at (x := (bm, o')) (by simp), k1.1.at (x := (bm, o')) (by simp)]
theorem StO.put (h : StO w ww f L F pv ps bm M ex) {M' : List (Int × Value)} (t : Turned [bm] ww w') (hm : MapIs Tryz.prog 3 encI w' bm M') : StO w w' f L F pv ps bm M' ex := by
  obtain ⟨K1, o, K3, h1, h2, h3, h4, h5⟩ := h
  obtain ⟨o', ho'⟩ := at_some hm.lt
  exact ⟨K1, o', K3, h1.put1 h3 t ho', h2, h3, hm, h5⟩
/-- other pages -/
theorem StO.fresh (h : StO w ww f L F pv ps bm M ex) (b : Below ww.heap.size ww w') {v' : Value} {ps' : List Nat} (ho : w'.ownsRow ww.heap.size 3 1 v' ps'.length (ps'.map encR)) : StO w w' f L F v' ps' bm M ex := by
  obtain ⟨K1, o, K3, h1, h2, h3, h4, h5⟩ := h
  obtain ⟨K4, k1, k2⟩ := h1.row b ho
  have hm := h4.turned (Turned.of_below b) (by simp)
  have k3 : LK w w' f F L (K1 ++ (K4 ++ [(bm, o)] ++ K3)) := k1.perm (by
    have := (List.perm_append_comm (l₁ := K4) (l₂ := K1)).append_right ([(bm, o)] ++ K3)
    simpa only [List.append_assoc] using this)
  refine ⟨K4, o, K3, ⟨k3.1.sub fun x hx => List.mem_append.2 (.inr hx), ?_⟩, k2, h3, hm, h5⟩
  have := k3.2
  unfold keysK at this ⊢
  rw [List.map_append, List.nodup_append] at this
  exact this.2.1
end Go.Proofs.YtmpbhoijkcanmaaGreat.R

/- Radix: pages in any order: the plain law. -/
namespace Go.Proofs.YtmpbhoijkcanmaaGreat.R
open Go.ChangeShapes Go.WideShapes Go.ChangeAt Go.RowKit Go.Maps Go.Proofs.YtmpbhoijkcanmaaGreat.G
set_option linter.unusedVariables false
set_option linter.unusedSimpArgs false
set_option linter.unnecessarySimpa false

variable {F G : Fo} {L a b : Nat} {ps : List Nat} {M : List (Int × Value)}
abbrev castI (q : Nat) : Int := (q : Int)
/-- what a root has, and what the map has -/
structure PlO (F : Fo) (a : Nat) (ps : List Nat) (M : List (Int × Value)) : Prop where
  root : isB F (a : Int) = true
  nodup : ps.Nodup
  lt : ∀ q, q ∈ ps → q < 4096
  keys : M.map (·.1) = ps.map castI
  get : ∀ q : Nat, q < 4096 → mget M (q : Int) = (getL 2 F a q).map encE
theorem PlO.start : PlO fo0 0 [] [] := ⟨rfl, List.nodup_nil, by simp, rfl, fun q _ => by rw [getL_zero]; rfl⟩
theorem PlO.mem (h : PlO F a ps M) {q : Nat} (hq : q < 4096) : q ∈ ps ↔ (getL 2 F a q).isSome = true := by
  have h1 : ((q : Int) ∈ M.map (·.1)) ↔ (mget M (q : Int)).isSome = true := G.mem_keys
  rw [h.keys, h.get q hq, Option.isSome_map] at h1
  rw [← h1, List.mem_map]
  constructor
  · exact fun hm => ⟨q, hm, rfl⟩
  · rintro ⟨r, hr, e⟩
    have : r = q := by have e' : (r : Int) = q := e; omega
    exact this ▸ hr
theorem root_set {x : Ent} {R : Fo × Nat} {r pg : Nat} {c : Chg} (h : SetIs F L r pg c R) : isB R.1 (R.2 : Int) = true := by
  rw [isB_iff]
  by_cases h0 : R.2 = 0
  · exact .inl h0
  · right; rw [h.held, if_pos ⟨h0, rfl⟩]; omega
theorem root_keep {R : Fo × Nat} {r pg : Nat} {c : Chg} (h : SetIs F L r pg c R) (hb : isB F (b : Int) = true) : isB R.1 (b : Int) = true := by
  rw [isB_iff] at hb ⊢
  refine hb.imp id fun hb => ?_
  rw [h.held]; omega
theorem PlO.set (h : PlO F a ps M) {R : Fo × Nat} {pg : Nat} {x : Ent} (hp : pg < 4096) (his : SetIs F L a pg (.set 0 x) R) :
    PlO R.1 R.2 (if (getL 2 F a pg).isSome then ps else ps ++ [pg]) (mput M (pg : Int) (encE x)) := by
  have hm := h.mem hp
  have hk : (mput M (pg : Int) (encE x)).map (·.1) = if (mget M (pg : Int)).isSome then M.map (·.1) else M.map (·.1) ++ [(pg : Int)] := keys_put _ _ _
  rw [h.get pg hp, Option.isSome_map, h.keys] at hk
  refine ⟨root_set (x := x) his, ?_, fun q hq => ?_, ?_, fun q hq => ?_⟩
  · split
    · exact h.nodup
    · rename_i hn
      rw [List.nodup_append]
      exact ⟨h.nodup, by simp, fun u hu v hv e => by
        simp only [List.mem_singleton] at hv; subst hv; subst e
        exact hn (hm.1 hu)⟩
  · split at hq
    · exact h.lt q hq
    · rcases List.mem_append.1 hq with hq | hq
      · exact h.lt q hq
      · simp only [List.mem_singleton] at hq; omega
  · rw [hk]
    split
    · rfl
    · rw [List.map_append]; rfl
  · rw [look_put, his.get q hq]
    by_cases e : q = pg
    · subst e; rw [if_pos rfl, if_pos rfl]; rfl
    · rw [if_neg (by omega), if_neg e]; exact h.get q hq
/-- the other root, so far -/
structure PlB (F : Fo) (a b : Nat) (rem : List Nat) : Prop where
  root : isB F (b : Int) = true
  nodup : rem.Nodup
  get : ∀ q, q < 4096 → getL 2 F b q = if q ∈ rem then none else getL 2 F a q
theorem PlB.start (h : PlO F a ps M) : PlB F a 0 ps := ⟨rfl, h.nodup, fun q hq => by
  rw [getL_zero]
  split
  · rfl
  · rename_i hn
    have : ¬ (getL 2 F a q).isSome = true := fun hs => hn ((h.mem hq).2 hs)
    symm
    simpa using this⟩
theorem mem_erase {rem : List Nat} (hn : rem.Nodup) {k p : Nat} (hk : rem[k]? = some p) (q : Nat) : q ∈ rem.eraseIdx k ↔ q ∈ rem ∧ q ≠ p := by
  obtain ⟨hkl, hkp⟩ := List.getElem?_eq_some_iff.1 hk
  rw [List.mem_eraseIdx_iff_getElem]
  constructor
  · rintro ⟨i, hi, hne, rfl⟩
    exact ⟨List.getElem_mem hi, fun e => hne ((List.getElem_inj hn).1 (by rw [e, hkp]))⟩
  · rintro ⟨hq, hne⟩
    obtain ⟨i, hi, e⟩ := List.getElem_of_mem hq
    exact ⟨i, hi, fun e' => hne (by subst e'; rw [← e, hkp]), e⟩
/-- one more page -/
theorem PlB.set {rem : List Nat} (h : PlB F a b rem) (k : Ok F L) (ha : isB F (a : Int) = true) {R : Fo × Nat} {j p : Nat} {x : Ent} (hj : rem[j]? = some p) (hx : getL 2 F a p = some x) (his : SetIs F L b p (.set 0 x) R) :
    PlB R.1 a R.2 (rem.eraseIdx j) := by
  refine ⟨root_set (x := x) his, h.nodup.sublist (List.eraseIdx_sublist _ _), fun q hq => ?_⟩
  have ea : getL 2 R.1 a q = getL 2 F a q := getL_ext k.inv his.ext 2 a q ((k.inv.root ha).imp id fun h => h.1)
  rw [his.get q hq, ea, h.get q hq]
  have hm := mem_erase h.nodup hj q
  by_cases e : q = p
  · subst e
    rw [if_pos rfl, if_neg (fun hh => (hm.1 hh).2 rfl), hx]; rfl
  · rw [if_neg e]
    by_cases hr : q ∈ rem
    · rw [if_pos hr, if_pos (hm.2 ⟨hr, e⟩)]
    · rw [if_neg hr, if_neg (fun hh => hr (hm.1 hh).1)]
theorem PlO.keep (h : PlO F a ps M) (k : Ok F L) {R : Fo × Nat} {r pg : Nat} {c : Chg} (his : SetIs F L r pg c R) : PlO R.1 a ps M :=
  ⟨root_keep his h.root, h.nodup, h.lt, h.keys, fun q hq => by rw [h.get q hq, getL_ext k.inv his.ext 2 a q ((k.inv.root h.root).imp id fun h => h.1)]⟩
theorem PlB.done (h : PlB F a b []) : mapL F b = mapL F a := allL_congr 4096 fun q hq => by rw [h.get q hq, if_neg (by simp)]
/-! ### the list of all -/
theorem allL_mem {g : Nat → Option Ent} {n q : Nat} {e : Ent} : (q, e) ∈ allL g n ↔ q < n ∧ g q = some e := by
  unfold allL
  rw [List.mem_filterMap]
  constructor
  · rintro ⟨r, hr, h⟩
    cases hg : g r with
    | none => rw [hg] at h; simp at h
    | some y =>
      rw [hg] at h
      simp only [Option.map_some, Option.some.injEq, Prod.mk.injEq] at h
      obtain ⟨rfl, rfl⟩ := h
      exact ⟨List.mem_range.1 hr, hg⟩
  · rintro ⟨h1, h2⟩
    exact ⟨q, List.mem_range.2 h1, by rw [h2]; rfl⟩
theorem allL_rises (g : Nat → Option Ent) (n : Nat) : (allL g n).Pairwise (fun x y => x.1 < y.1) := by
  induction n with
  | zero => exact List.Pairwise.nil
  | succ n ih =>
    rw [allL_succ, List.pairwise_append]
    refine ⟨ih, ?_, fun x hx y hy => ?_⟩
    · cases g n <;> simp
    · have h1 := (allL_mem (q := x.1) (e := x.2)).1 hx
      cases hg : g n with
      | none => rw [hg] at hy; simp at hy
      | some e => rw [hg] at hy; simp only [List.mem_singleton] at hy; subst hy; exact h1.1
theorem PlO.len (h : PlO F a ps M) : (mapL F a).length = M.length := by
  have h1 : ((mapL F a).map (·.1)).Perm ps := by
    refine (List.perm_ext_iff_of_nodup ?_ h.nodup).2 fun q => ?_
    · rw [List.Nodup, List.pairwise_map]
      exact (allL_rises _ _).imp fun hxy => by omega
    · rw [List.mem_map]
      constructor
      · rintro ⟨x, hx, rfl⟩
        obtain ⟨h1, h2⟩ := (allL_mem (q := x.1) (e := x.2)).1 hx
        exact (h.mem h1).2 (by rw [h2]; rfl)
      · intro hq
        have hq4 := h.lt q hq
        obtain ⟨e, he⟩ := Option.isSome_iff_exists.1 ((h.mem hq4).1 hq)
        exact ⟨(q, e), allL_mem.2 ⟨hq4, he⟩, rfl⟩
  have h2 := h1.length_eq
  have h3 := congrArg List.length h.keys
  simp only [List.length_map] at h2 h3
  omega
theorem mapL_at {F : Fo} {a i : Nat} {x : Pr} (h : (mapL F a)[i]? = some x) : x.1 < 4096 ∧ getL 2 F a x.1 = some x.2 := allL_mem.1 (show (x.1, x.2) ∈ mapL F a from List.mem_of_getElem? h)
theorem rises_of {l : List Pr} (hp : l.Pairwise fun x y => x.1 < y.1) {i : Nat} {x y : Pr} (hx : l[i]? = some x) (hy : l[i + 1]? = some y) : x.1 < y.1 := by
  rw [List.pairwise_iff_getElem] at hp
  obtain ⟨h1, e1⟩ := List.getElem?_eq_some_iff.1 hx
  obtain ⟨h2, e2⟩ := List.getElem?_eq_some_iff.1 hy
  have := hp i (i + 1) h1 h2 (Nat.lt_succ_self i)
  rw [e1, e2] at this
  exact this
theorem mapL_pairs (F : Fo) (a : Nat) : (mapL F a).Pairwise fun x y => x.1 < y.1 := allL_rises (getL 2 F a) 4096
theorem mapL_rises {F : Fo} {a i : Nat} {x y : Pr} (hx : (mapL F a)[i]? = some x) (hy : (mapL F a)[i + 1]? = some y) : x.1 < y.1 := rises_of (mapL_pairs F a) hx hy
theorem get_ok_in (h : Ok F L) {q : Nat} {x : Ent} : ∀ (m n : Nat), n = 0 ∨ n ∈ F.ids → getL m F n q = some x → x.ok
  | 0, n, hn, hx => by
    unfold getL at hx
    by_cases h0 : n = 0
    · rw [if_pos h0] at hx; cases hx
    · rw [if_neg h0] at hx
      unfold leafE at hx
      split at hx
      · rename_i hb
        simp only [Option.some.injEq] at hx
        rw [← hx]
        exact (h.inv.ok n (hn.resolve_left h0)).ents _ (partN_lt _ _) hb
      · cases hx
  | m + 1, n, hn, hx => by
    refine get_ok_in h m (kidOf F n (partN q (1 - m))) ?_ hx
    unfold kidOf
    by_cases h0 : n = 0
    · rw [if_pos h0]; exact .inl rfl
    · rw [if_neg h0]
      exact ((h.inv.ok n (hn.resolve_left h0)).kid _ (partN_lt _ _)).imp id fun h => h.1
theorem get_ok {a q : Nat} (h : Ok F L) (ha : a = 0 ∨ (a ∈ F.ids ∧ F.lev a = 0)) {x : Ent} (hx : getL 2 F a q = some x) : x.ok := get_ok_in h 2 a (ha.imp id fun h => h.1) hx
end Go.Proofs.YtmpbhoijkcanmaaGreat.R

/- Roots: what a forest's nodes and slots are, by the maps that are held: the plain law. -/
namespace Go.Proofs.YtmpbhoijkcanmaaGreat.R
open Go.ChangeShapes Go.WideShapes Go.ChangeAt Go.RowKit Go.Maps Go.Proofs.YtmpbhoijkcanmaaGreat.G
set_option linter.unusedVariables false
set_option linter.unusedSimpArgs false
set_option linter.unnecessarySimpa false

variable {F G : Fo} {L : Nat}
/-- nodes by levels: a root that is held; a kid of one; a kid's kid -/
theorem Ok.kid_lev (h : Ok F L) {m q : Nat} (hm : m ∈ F.ids) (hq : q < 16) (h0 : (F.nd m).kids q ≠ 0) : F.lev ((F.nd m).kids q) = F.lev m + 1 := (((h.inv.ok m hm).kid q hq).resolve_left h0).2.1
theorem Ok.lev0 (h : Ok F L) {i : Nat} (hi : i ∈ F.ids) (hl : F.lev i = 0) : 0 < cnt F.held (i : Int) := by
  rcases h.reach hi with h' | ⟨m, hm, q, hq, e⟩
  · exact h'
  · have hp := (h.inv.pos i hi).1
    have := h.kid_lev hm hq (by omega)
    rw [e] at this
    omega
theorem Ok.levS (h : Ok F L) {i n : Nat} (hi : i ∈ F.ids) (hl : F.lev i = n + 1) : ∃ m, m ∈ F.ids ∧ F.lev m = n ∧ ∃ q, q < 16 ∧ (F.nd m).kids q = i := by
  rcases h.reach hi with h' | ⟨m, hm, q, hq, e⟩
  · obtain ⟨k, e, hk, h0⟩ := h.inv.held _ h'
    obtain rfl : i = k := by omega
    omega
  · have hp := (h.inv.pos i hi).1
    have := h.kid_lev hm hq (by omega)
    rw [e] at this
    exact ⟨m, hm, by omega, q, hq, e⟩
theorem part_at (a b c : Nat) (ha : a < 16) (hb : b < 16) (hc : c < 16) : a * 256 + b * 16 + c < 4096 ∧ partN (a * 256 + b * 16 + c) 0 = a ∧ partN (a * 256 + b * 16 + c) 1 = b ∧ partN (a * 256 + b * 16 + c) 2 = c := by
  unfold partN
  simp only [show (16 : Nat) ^ (2 - 0) = 256 by decide, show (16 : Nat) ^ (2 - 1) = 16 by decide, show (16 : Nat) ^ (2 - 2) = 1 by decide]
  omega
theorem kidOf_pos {n : Nat} (h : n ≠ 0) (i : Nat) : kidOf F n i = (F.nd n).kids i := if_neg h
theorem getL2 (q r : Nat) : getL 2 F r q = getL 0 F (kidOf F (kidOf F r (partN q 0)) (partN q 1)) q := rfl
/-- a slot is there just if a map that is held has it -/
def InMap (F : Fo) (r : Nat) (s : Slot) : Prop := ∃ q, q < 4096 ∧ ∃ e : Ent, getL 2 F r q = some e ∧ e.s = s
theorem leaf_of {q : Nat} {x : Ent} (h : Ok F L) : ∀ (m n : Nat), n = 0 ∨ n ∈ F.ids → getL m F n q = some x → ∃ i, i ∈ F.ids ∧ (F.nd i).bits.testBit (partN q 2) = true ∧ (F.nd i).ents (partN q 2) = x
  | 0, n, hn, hx => by
    unfold getL at hx
    by_cases h0 : n = 0
    · rw [if_pos h0] at hx; cases hx
    · rw [if_neg h0] at hx
      unfold leafE at hx
      split at hx
      · rename_i hb
        simp only [Option.some.injEq] at hx
        exact ⟨n, hn.resolve_left h0, hb, hx⟩
      · cases hx
  | m + 1, n, hn, hx => by
    refine leaf_of h m (kidOf F n (partN q (1 - m))) ?_ hx
    unfold kidOf
    by_cases h0 : n = 0
    · rw [if_pos h0]; exact .inl rfl
    · rw [if_neg h0]
      exact ((h.inv.ok n (hn.resolve_left h0)).kid _ (partN_lt _ _)).imp id fun h => h.1
theorem hasS_iff (h : Ok F L) (s : Slot) : HasS F s ↔ ∃ r : Nat, 0 < cnt F.held (r : Int) ∧ InMap F r s := by
  constructor
  · intro hs
    obtain ⟨m2, hm2, b, hb, hbit, rfl⟩ := HasS.ent h hs
    have hk2 := h.inv.ok m2 hm2
    have hl2 : F.lev m2 = 2 := by
      have h1 := h.inv.lev m2 hm2
      rcases Nat.lt_or_ge (F.lev m2) 2 with h' | h'
      · have := hk2.bits.2 h'
        rw [this] at hbit; simp at hbit
      · omega
    obtain ⟨m1, hm1, hl1, c, hc, e1⟩ := h.levS hm2 hl2
    obtain ⟨m0, hm0, hl0, d, hd, e0⟩ := h.levS hm1 hl1
    have hh := h.lev0 hm0 hl0
    have p0 := (h.inv.pos m0 hm0).1
    have p1 := (h.inv.pos m1 hm1).1
    have p2 := (h.inv.pos m2 hm2).1
    obtain ⟨hq, q0, q1, q2⟩ := part_at d c b hd hc hb
    refine ⟨m0, hh, d * 256 + c * 16 + b, hq, (F.nd m2).ents b, ?_, rfl⟩
    rw [getL2, q0, q1, kidOf_pos (n := m0) (by omega), e0, kidOf_pos (n := m1) (by omega), e1]
    unfold getL leafE
    rw [if_neg (by omega), q2, if_pos hbit]
  · rintro ⟨r, hr, q, hq, e, he, rfl⟩
    obtain ⟨i, hi, hb, rfl⟩ := leaf_of h 2 r (.inr (h.root hr)) he
    exact HasS.of h hi (partN_lt _ _) hb
/-- the same roots are held: the same nodes are there -/
theorem ids_same (h : Ok F L) {L' : Nat} (k : Ok G L') (e : Ext G F) (hh : ∀ r : Nat, 0 < cnt F.held (r : Int) → 0 < cnt G.held (r : Int)) (i : Nat) : i ∈ F.ids ↔ i ∈ G.ids := by
  refine ⟨fun hi => ?_, e.mem i⟩
  have key : ∀ n i, i ∈ F.ids → F.lev i = n → i ∈ G.ids := by
    intro n
    induction n with
    | zero => exact fun i hi hl => k.root (hh i (h.lev0 hi hl))
    | succ n ih =>
      intro i hi hl
      obtain ⟨m, hm, hl', q, hq, rfl⟩ := h.levS hi hl
      have hp := (h.inv.pos _ hi).1
      have hmg := ih m hm hl'
      rw [e.kids m hmg] at hp ⊢
      exact k.kid hmg hq (by omega)
  exact key _ i hi rfl
theorem len_same (h : Ok F L) {L' : Nat} (k : Ok G L') (e : Ext G F) (hh : ∀ r : Nat, 0 < cnt F.held (r : Int) → 0 < cnt G.held (r : Int)) : F.ids.length = G.ids.length :=
  ((List.perm_ext_iff_of_nodup h.inv.nd k.inv.nd).2 fun i => ids_same h k e hh i).length_eq
/-- one page alone: three nodes -/
theorem one_page (h : Ok F L) {r p : Nat} (hp4 : p < 4096) (hr : 0 < cnt F.held (r : Int)) (ho : ∀ i : Nat, 0 < cnt F.held (i : Int) → i = r) (hp : ∀ q, q < 4096 → ((getL 2 F r q).isSome = true ↔ q = p)) : F.ids.length = 3 := by
  have hrm := h.root hr
  have hrl : F.lev r = 0 := by
    obtain ⟨k, e, hk, h0⟩ := h.inv.held _ hr
    obtain rfl : r = k := by omega
    exact h0
  have hr0 := (h.inv.pos r hrm).1
  have hs := (hp p hp4).2 rfl
  rw [getL2, kidOf_pos (n := r) (by omega)] at hs
  obtain ⟨k1, hk1⟩ : ∃ k1, (F.nd r).kids (partN p 0) = k1 := ⟨_, rfl⟩
  have h1 : k1 ≠ 0 := fun h0 => by
    rw [hk1, h0] at hs
    have : kidOf F 0 (partN p 1) = 0 := if_pos rfl
    rw [this, getL_zero] at hs; cases hs
  rw [hk1, kidOf_pos h1] at hs
  obtain ⟨k2, hk2⟩ : ∃ k2, (F.nd k1).kids (partN p 1) = k2 := ⟨_, rfl⟩
  have h2 : k2 ≠ 0 := fun h0 => by rw [hk2, h0, getL_zero] at hs; cases hs
  have m1 : k1 ∈ F.ids := by rw [← hk1]; exact h.kid hrm (partN_lt _ _) (by rw [hk1]; exact h1)
  have l1 : F.lev k1 = 1 := by
    have := h.kid_lev hrm (partN_lt p 0) (by rw [hk1]; exact h1)
    rw [hk1, hrl] at this; exact this
  have m2 : k2 ∈ F.ids := by rw [← hk2]; exact h.kid m1 (partN_lt _ _) (by rw [hk2]; exact h2)
  have l2 : F.lev k2 = 2 := by
    have := h.kid_lev m1 (partN_lt p 1) (by rw [hk2]; exact h2)
    rw [hk2, l1] at this; exact this
  -- a page under each node
  have page1 : ∀ j, j < 16 → (F.nd r).kids j ≠ 0 → j = partN p 0 := fun j hj h0 => by
    have hm := h.kid hrm hj h0
    have hl := h.kid_lev hrm hj h0
    obtain ⟨q, hq, hqs⟩ := full_some h 1 (by omega) _ hm (by omega)
    obtain ⟨c, b, hc, hb, rfl⟩ : ∃ c b, c < 16 ∧ b < 16 ∧ q = c * 16 + b := ⟨q / 16, q % 16, by rw [show (16 : Nat) ^ (1 + 1) = 256 from rfl] at hq; omega, by omega, by omega⟩
    obtain ⟨e4, e0, e1, e2⟩ := part_at j c b hj hc hb
    have hq' : (getL 2 F r (j * 256 + c * 16 + b)).isSome = true := by
      show (getL 1 F (kidOf F r (partN (j * 256 + c * 16 + b) 0)) (j * 256 + c * 16 + b)).isSome = true
      rw [e0, kidOf_pos (n := r) (by omega), ← getL_mod F 1 1 _ (j * 256 + c * 16 + b) (Nat.le_refl _)]
      rw [show (j * 256 + c * 16 + b) % 16 ^ (1 + 1) = c * 16 + b by rw [show (16 : Nat) ^ (1 + 1) = 256 from rfl]; omega]
      exact hqs
    rw [← (hp _ e4).1 hq', e0]
  have page2 : ∀ j, j < 16 → (F.nd k1).kids j ≠ 0 → j = partN p 1 := fun j hj h0 => by
    have hm := h.kid m1 hj h0
    have hl := h.kid_lev m1 hj h0
    obtain ⟨b, hq, hqs⟩ := full_some h 0 (by omega) _ hm (by omega)
    have hb : b < 16 := by simpa using hq
    obtain ⟨e4, e0, e1, e2⟩ := part_at (partN p 0) j b (partN_lt _ _) hj hb
    have hq' : (getL 2 F r (partN p 0 * 256 + j * 16 + b)).isSome = true := by
      rw [getL2, e0, e1, kidOf_pos (n := r) (by omega), hk1, kidOf_pos h1, ← getL_mod F 0 0 _ _ (Nat.le_refl _)]
      rw [show (partN p 0 * 256 + j * 16 + b) % 16 ^ (0 + 1) = b by rw [show (16 : Nat) ^ (0 + 1) = 16 from rfl]; omega]
      exact hqs
    rw [← (hp _ e4).1 hq', e1]
  have all : ∀ i, i ∈ F.ids ↔ i ∈ [r, k1, k2] := by
    intro i
    simp only [List.mem_cons, List.not_mem_nil, or_false]
    constructor
    · intro hi
      have lv := h.inv.lev i hi
      have c0 : ∀ i, i ∈ F.ids → F.lev i = 0 → i = r := fun i hi hl => ho i (h.lev0 hi hl)
      have c1 : ∀ i, i ∈ F.ids → F.lev i = 1 → i = k1 := fun i hi hl => by
        obtain ⟨m, hm, hl', q, hq, rfl⟩ := h.levS hi hl
        obtain rfl := c0 m hm hl'
        have hp0 := (h.inv.pos _ hi).1
        rw [page1 q hq (by omega), hk1]
      have c2 : ∀ i, i ∈ F.ids → F.lev i = 2 → i = k2 := fun i hi hl => by
        obtain ⟨m, hm, hl', q, hq, rfl⟩ := h.levS hi hl
        obtain rfl := c1 m hm hl'
        have hp0 := (h.inv.pos _ hi).1
        rw [page2 q hq (by omega), hk2]
      have : F.lev i = 0 ∨ F.lev i = 1 ∨ F.lev i = 2 := by omega
      rcases this with hl | hl | hl
      · exact .inl (c0 i hi hl)
      · exact .inr (.inl (c1 i hi hl))
      · exact .inr (.inr (c2 i hi hl))
    · rintro (rfl | rfl | rfl)
      · exact hrm
      · exact m1
      · exact m2
  have hnd : [r, k1, k2].Nodup := by
    have n1 : r ≠ k1 := fun e => by rw [← e, hrl] at l1; cases l1
    have n2 : r ≠ k2 := fun e => by rw [← e, hrl] at l2; cases l2
    have n3 : k1 ≠ k2 := fun e => by rw [← e, l1] at l2; cases l2
    simp [n1, n2, n3]
  have := ((List.perm_ext_iff_of_nodup h.inv.nd hnd).2 all).length_eq
  simpa using this
/-- lists of slots with the same members are the same -/
theorem leS_anti {a b : Slot} (h1 : leS a b) (h2 : leS b a) : a = b := by
  obtain ⟨ae, ac, ai⟩ := a
  obtain ⟨be, bc, bi⟩ := b
  unfold leS ltB at h1 h2
  simp only [decide_eq_false_iff_not] at h1 h2
  have : ae = be ∧ ac = bc ∧ ai = bi := by omega
  obtain ⟨rfl, rfl, rfl⟩ := this
  rfl
theorem SlotsIs.uniq {C D : Slot → Prop} {xs ys : List Slot} (h : SlotsIs C xs) (k : SlotsIs D ys) (hCD : ∀ s, C s ↔ D s) : xs = ys := by
  have hp : xs.Perm ys := (List.perm_ext_iff_of_nodup h.nodup k.nodup).2 fun s => by rw [h.mem, k.mem, hCD]
  exact hp.eq_of_pairwise (fun a b _ _ => leS_anti) h.sorted k.sorted
end Go.Proofs.YtmpbhoijkcanmaaGreat.R
