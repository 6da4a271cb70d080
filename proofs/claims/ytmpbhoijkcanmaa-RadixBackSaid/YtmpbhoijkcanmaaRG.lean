/- Radix: what holds of a forest; a node comes in: the plain law. -/
import Derived.Test.YtmpbhoijkcanmaaRF
namespace Go.Proofs.Ytmpbhoijkcanmaa.R
open Go.ChangeShapes Go.WideShapes Go.ChangeAt Go.RowKit Go.Maps Go.Proofs.Ytmpbhoijkcanmaa.G
set_option linter.unusedVariables false
set_option linter.unusedSimpArgs false
set_option linter.unnecessarySimpa false

/-- how often nodes refer to a node; in how many places of nodes a slot is -/
def refc (F : Fo) (i : Nat) : Nat := (F.ids.map fun m => hits (F.nd m).kids 16 i).sum
def slHits (x : Node) (j : Nat) (s : Slot) : Nat := (List.range j).countP fun q => x.bits.testBit q && decide ((x.ents q).s = s)
def slc (F : Fo) (s : Slot) : Nat := (F.ids.map fun m => slHits (F.nd m) 16 s).sum
theorem slHits_le (x : Node) (j : Nat) (s : Slot) : slHits x j s ≤ j := by
  unfold slHits
  exact Nat.le_trans List.countP_le_length (by simp)
/-- a node as it may stand at a level -/
structure NodeOk (F : Fo) (l : Nat) (x : Node) : Prop where
  kid : ∀ j, j < 16 → x.kids j = 0 ∨ (x.kids j ∈ F.ids ∧ F.lev (x.kids j) = l + 1 ∧ l < 2)
  bits : x.bits < 2 ^ 16 ∧ (l < 2 → x.bits = 0)
  ents : ∀ j, j < 16 → x.bits.testBit j = true → (x.ents j).ok
  zero : ∀ j, j < 16 → x.bits.testBit j = false → x.ents j = zeroE
/-- what holds of a forest; of each node some references may be counted that are let go of next (pend; of slots: pendS); one node may not be referred to yet (exc) -/
structure Inv (F : Fo) (pend : Nat → Nat) (pendS : Slot → Nat) (exc : Nat) : Prop where
  nd : F.ids.Nodup
  pos : ∀ i, i ∈ F.ids → 0 < i ∧ i ≤ F.last
  lev : ∀ i, i ∈ F.ids → F.lev i ≤ 2
  ok : ∀ i, i ∈ F.ids → NodeOk F (F.lev i) (F.nd i)
  full : ∀ i, i ∈ F.ids → emptyB (F.nd i) = false
  refs : ∀ i, i ∈ F.ids → (F.nd i).refs = refc F i + cnt F.held (i : Int) + pend i
  held : ∀ r : Int, 0 < cnt F.held r → ∃ n : Nat, r = n ∧ n ∈ F.ids ∧ F.lev n = 0
  sls : ∀ s, cnt F.sl s = slc F s + pendS s
  live : ∀ i, i ∈ F.ids → 0 < (F.nd i).refs ∨ i = exc
/-- numbers that are far from what fits -/
structure Small (F : Fo) (pend : Nat → Nat) (pendS : Slot → Nat) : Prop where
  last : F.last ≤ 2 ^ 39
  held : ∀ r, cnt F.held r ≤ 2 ^ 43
  pend : ∀ i, pend i ≤ 2 ^ 43
  pendS : ∀ s, pendS s ≤ 2 ^ 43
variable {F : Fo} {pend : Nat → Nat} {pendS : Slot → Nat} {exc : Nat}
theorem sum_le (l : List Nat) (f : Nat → Nat) (c : Nat) (h : ∀ i, f i ≤ c) : (l.map f).sum ≤ l.length * c := by
  induction l with
  | nil => simp
  | cons a l ih =>
    rw [List.map_cons, List.sum_cons, List.length_cons]
    have := h a
    rw [Nat.add_mul]; omega
theorem nodup_len : ∀ (N : Nat) (L : List Nat), L.Nodup → (∀ x ∈ L, x < N) → L.length ≤ N := by
  intro N L hnd hb
  have hp : L.Perm ((List.range N).filter fun i => decide (i ∈ L)) :=
    (List.perm_ext_iff_of_nodup hnd (List.nodup_range.filter _)).2 fun i => ⟨fun hi => List.mem_filter.2 ⟨by simpa using hb i hi, by simpa using hi⟩, fun hi => by simpa using (List.mem_filter.1 hi).2⟩
  rw [hp.length_eq]
  exact Nat.le_trans (List.length_filter_le _ _) (by simp)
theorem Inv.len (h : Inv F pend pendS exc) : F.ids.length ≤ F.last + 1 := nodup_len _ _ h.nd fun i hi => by have := (h.pos i hi).2; omega
theorem Inv.refs_le (h : Inv F pend pendS exc) (hs : Small F pend pendS) (i : Nat) (hi : i ∈ F.ids) : (F.nd i).refs ≤ 2 ^ 45 := by
  have h1 := h.refs i hi
  have h2 := sum_le F.ids (fun m => hits (F.nd m).kids 16 i) 16 (fun m => hits_le _ _ _)
  have h3 := h.len
  have h4 := hs.held i
  have h5 := hs.pend i
  have h6 := hs.last
  unfold refc at h1
  omega
theorem Inv.sls_le (h : Inv F pend pendS exc) (hs : Small F pend pendS) (s : Slot) : cnt F.sl s ≤ 2 ^ 45 := by
  have h1 := h.sls s
  have h2 := sum_le F.ids (fun m => slHits (F.nd m) 16 s) 16 (fun m => slHits_le _ _ _)
  have h3 := h.len
  have h5 := hs.pendS s
  have h6 := hs.last
  unfold slc at h1
  omega
theorem Inv.copOk (h : Inv F pend pendS exc) (hs : Small F pend pendS) {l : Nat} {x : Node} (hx : NodeOk F l x) : CopOk F x :=
  ⟨h.pos, by have := hs.last; omega, fun i hi => h.refs_le hs i hi, h.sls_le hs, fun j hj => (hx.kid j hj).imp id (fun h => h.1), hx.bits.1, fun j hj hb => (hx.ents j hj hb).1⟩

/-! ### fields behind a node's coming -/
theorem refInc_rest (F : Fo) (k : Nat) : (refInc F k).held = F.held ∧ (refInc F k).lev = F.lev := by unfold refInc; split <;> exact ⟨rfl, rfl⟩
theorem refIncs_rest (F : Fo) (f : Nat → Nat) : ∀ j, (refIncs F f j).held = F.held ∧ (refIncs F f j).lev = F.lev
  | 0 => ⟨rfl, rfl⟩
  | j + 1 => by
    obtain ⟨a, b⟩ := refIncs_rest F f j
    obtain ⟨a', b'⟩ := refInc_rest (refIncs F f j) (f j)
    exact ⟨a'.trans a, b'.trans b⟩
theorem slIncs_rest (F : Fo) (x : Node) : ∀ j, (slIncs F x j).held = F.held ∧ (slIncs F x j).lev = F.lev
  | 0 => ⟨rfl, rfl⟩
  | j + 1 => by
    rw [slIncs]
    split
    · exact slIncs_rest F x j
    · exact slIncs_rest F x j
theorem slIncs_cnt (F : Fo) (x : Node) (s : Slot) : ∀ j, cnt (slIncs F x j).sl s = cnt F.sl s + slHits x j s
  | 0 => by simp [slIncs, slHits]
  | j + 1 => by
    have ih := slIncs_cnt F x s j
    have e : slHits x (j + 1) s = slHits x j s + if x.bits.testBit j = true ∧ (x.ents j).s = s then 1 else 0 := by
      unfold slHits
      rw [List.range_succ, List.countP_append]
      by_cases h : x.bits.testBit j = true ∧ (x.ents j).s = s
      · rw [if_pos h]; simp [h.1, h.2]
      · rw [if_neg h]; simp; intro h1 h2; exact h ⟨h1, h2⟩
    rw [e]
    by_cases hb : x.bits.testBit j = true
    · rw [slInc_nf F x j hb]
      unfold slInc
      simp only
      rw [cnt_put]
      by_cases hs : s = (x.ents j).s
      · rw [if_pos hs, if_pos ⟨hb, hs.symm⟩]
        rw [← hs]; omega
      · rw [if_neg hs, if_neg (fun h => hs h.2.symm)]; omega
    · rw [slInc_nn F x j hb, if_neg (fun h => hb h.1)]; omega
theorem addN_ids (F : Fo) (x : Node) (l : Nat) : (addN F x l).ids = F.ids ++ [F.last + 1] := by unfold addN; rw [slIncs_ids, refIncs_ids]; rfl
theorem addN_last (F : Fo) (x : Node) (l : Nat) : (addN F x l).last = F.last + 1 := by unfold addN; rw [slIncs_last, refIncs_last]; rfl
theorem addN_held (F : Fo) (x : Node) (l : Nat) : (addN F x l).held = F.held := by unfold addN; rw [(slIncs_rest _ _ _).1, (refIncs_rest _ _ _).1]; rfl
theorem addN_lev (F : Fo) (x : Node) (l : Nat) : (addN F x l).lev = fun i => if i = F.last + 1 then l else F.lev i := by unfold addN; rw [(slIncs_rest _ _ _).2, (refIncs_rest _ _ _).2]; rfl
theorem addN_sl (F : Fo) (x : Node) (l : Nat) (s : Slot) : cnt (addN F x l).sl s = cnt F.sl s + slHits x 16 s := by unfold addN; rw [slIncs_cnt, refIncs_sl]; rfl
theorem addN_mem {F : Fo} {x : Node} {l i : Nat} : i ∈ (addN F x l).ids ↔ i ∈ F.ids ∨ i = F.last + 1 := by rw [addN_ids]; simp
theorem addN_new {F : Fo} {x : Node} {l : Nat} (h : CopOk F x) : (addN F x l).nd (F.last + 1) = x := by unfold addN; rw [slIncs_nd]; exact new_nd h
theorem addN_old {F : Fo} {x : Node} {l i : Nat} (h : i ≠ F.last + 1) : ((addN F x l).nd i).kids = (F.nd i).kids ∧ ((addN F x l).nd i).ents = (F.nd i).ents ∧ ((addN F x l).nd i).bits = (F.nd i).bits ∧ ((addN F x l).nd i).refs = (F.nd i).refs + if i ≠ 0 then hits x.kids 16 i else 0 := by
  unfold addN
  rw [slIncs_nd]
  have := refIncs_nd (addId F x l) x.kids i 16
  rw [addId_old h] at this
  exact this
theorem sum_congr {l : List Nat} {f g : Nat → Nat} (h : ∀ i, i ∈ l → f i = g i) : (l.map f).sum = (l.map g).sum := by
  rw [List.map_congr_left h]
theorem addN_refc {F : Fo} {x : Node} {l : Nat} (h : CopOk F x) (i : Nat) : refc (addN F x l) i = refc F i + hits x.kids 16 i := by
  unfold refc
  rw [addN_ids, List.map_append, List.sum_append]
  simp only [List.map_cons, List.map_nil, List.sum_cons, List.sum_nil, Nat.add_zero]
  rw [addN_new h]
  congr 1
  exact sum_congr fun m hm => by rw [(addN_old (fun e => h.fresh (by rw [← e]; exact hm))).1]
theorem addN_slc {F : Fo} {x : Node} {l : Nat} (h : CopOk F x) (s : Slot) : slc (addN F x l) s = slc F s + slHits x 16 s := by
  unfold slc
  rw [addN_ids, List.map_append, List.sum_append]
  simp only [List.map_cons, List.map_nil, List.sum_cons, List.sum_nil, Nat.add_zero]
  rw [addN_new h]
  congr 1
  refine sum_congr fun m hm => ?_
  obtain ⟨_, a, b, _⟩ := addN_old (F := F) (x := x) (l := l) (i := m) (fun e => h.fresh (by rw [← e]; exact hm))
  unfold slHits
  rw [a, b]
theorem hits_zero {f : Nat → Nat} {j i : Nat} (h : ∀ q, q < j → f q ≠ i) : hits f j i = 0 := by
  unfold hits
  rw [List.countP_eq_zero]
  intro q hq
  simpa using h q (List.mem_range.1 hq)
theorem hits_pos {f : Nat → Nat} {j i q : Nat} (hq : q < j) (h : f q = i) : 0 < hits f j i := by
  unfold hits
  rw [List.countP_pos_iff]
  exact ⟨q, List.mem_range.2 hq, by simpa using h⟩
theorem refc_zero {F : Fo} {i : Nat} (h : ∀ m, m ∈ F.ids → ∀ q, q < 16 → (F.nd m).kids q ≠ i) : refc F i = 0 := by
  unfold refc
  have : ∀ l : List Nat, (∀ m, m ∈ l → m ∈ F.ids) → (l.map fun m => hits (F.nd m).kids 16 i).sum = 0 := by
    intro l
    induction l with
    | nil => intro _; rfl
    | cons a l ih =>
      intro hl
      rw [List.map_cons, List.sum_cons, ih (fun m hm => hl m (List.mem_cons_of_mem _ hm)), hits_zero (h a (hl a List.mem_cons_self))]
  exact this _ (fun m hm => hm)
theorem refc_pos {F : Fo} {i m q : Nat} (hm : m ∈ F.ids) (hq : q < 16) (h : (F.nd m).kids q = i) : 0 < refc F i := by
  unfold refc
  have h1 := hits_pos hq h
  have : ∀ l : List Nat, m ∈ l → 0 < (l.map fun m => hits (F.nd m).kids 16 i).sum := by
    intro l
    induction l with
    | nil => intro h; cases h
    | cons a l ih =>
      intro hl
      rw [List.map_cons, List.sum_cons]
      rcases List.mem_cons.1 hl with e | hl
      · subst e; omega
      · have := ih hl; omega
  exact this _ hm
theorem refc_some {F : Fo} {i : Nat} (h : 0 < refc F i) : ∃ m, m ∈ F.ids ∧ ∃ q, q < 16 ∧ (F.nd m).kids q = i := by
  rcases Classical.em (∃ m, m ∈ F.ids ∧ ∃ q, q < 16 ∧ (F.nd m).kids q = i) with h' | h'
  · exact h'
  · rw [refc_zero (fun m hm q hq e => h' ⟨m, hm, q, hq, e⟩)] at h; omega

/-- the nodes of one are nodes of the other, as they were -/
structure Ext (F G : Fo) : Prop where
  mem : ∀ i, i ∈ F.ids → i ∈ G.ids
  kids : ∀ i, i ∈ F.ids → (G.nd i).kids = (F.nd i).kids
  ents : ∀ i, i ∈ F.ids → (G.nd i).ents = (F.nd i).ents
  bits : ∀ i, i ∈ F.ids → (G.nd i).bits = (F.nd i).bits
  lev : ∀ i, i ∈ F.ids → G.lev i = F.lev i
theorem Ext.refl (F : Fo) : Ext F F := ⟨fun _ h => h, fun _ _ => rfl, fun _ _ => rfl, fun _ _ => rfl, fun _ _ => rfl⟩
theorem Ext.trans {F G H : Fo} (a : Ext F G) (b : Ext G H) : Ext F H :=
  ⟨fun i h => b.mem i (a.mem i h), fun i h => (b.kids i (a.mem i h)).trans (a.kids i h), fun i h => (b.ents i (a.mem i h)).trans (a.ents i h), fun i h => (b.bits i (a.mem i h)).trans (a.bits i h), fun i h => (b.lev i (a.mem i h)).trans (a.lev i h)⟩
theorem NodeOk.ext {F G : Fo} {l : Nat} {x : Node} (h : NodeOk F l x) (e : Ext F G) : NodeOk G l x :=
  ⟨fun j hj => (h.kid j hj).imp id (fun ⟨a, b, c⟩ => ⟨e.mem _ a, (e.lev _ a).trans b, c⟩), h.bits, h.ents, h.zero⟩
theorem NodeOk.same {F : Fo} {l : Nat} {x y : Node} (h : NodeOk F l x) (a : y.kids = x.kids) (b : y.ents = x.ents) (c : y.bits = x.bits) : NodeOk F l y :=
  ⟨by rw [a]; exact h.kid, by rw [c]; exact h.bits, by rw [c, b]; exact h.ents, by rw [c, b]; exact h.zero⟩
theorem emptyB_same {x y : Node} (a : y.kids = x.kids) (c : y.bits = x.bits) : emptyB y = emptyB x := by unfold emptyB; rw [a, c]
theorem ext_addN {F : Fo} {x : Node} {l : Nat} (h : CopOk F x) : Ext F (addN F x l) := by
  have ne : ∀ i, i ∈ F.ids → i ≠ F.last + 1 := fun i hi e => h.fresh (by rw [← e]; exact hi)
  exact ⟨fun i hi => addN_mem.2 (.inl hi), fun i hi => (addN_old (ne i hi)).1, fun i hi => (addN_old (ne i hi)).2.1, fun i hi => (addN_old (ne i hi)).2.2.1, fun i hi => by rw [addN_lev]; exact if_neg (ne i hi)⟩
/-- a node comes in -/
theorem Inv.addN (h : Inv F pend pendS exc) (hs : Small F pend pendS) {l : Nat} (hl : l ≤ 2) {x : Node} (hx : NodeOk F l x) (hE : emptyB x = false) (h0 : x.refs = 0) (hp : pend (F.last + 1) = 0) (he : exc = 0 ∨ ∃ q, q < 16 ∧ x.kids q = exc) :
    Inv (R.addN F x l) pend pendS (F.last + 1) := by
  have hc := h.copOk hs hx
  have ext := ext_addN (l := l) hc
  have ne : ∀ i, i ∈ F.ids → i ≠ F.last + 1 := fun i hi e => hc.fresh (by rw [← e]; exact hi)
  have hnew := addN_new (l := l) hc
  have hlev : (R.addN F x l).lev (F.last + 1) = l := by rw [addN_lev]; exact if_pos rfl
  have hh0 : cnt F.held ((F.last + 1 : Nat) : Int) = 0 := by
    rcases Nat.eq_zero_or_pos (cnt F.held ((F.last + 1 : Nat) : Int)) with h' | h'
    · exact h'
    · obtain ⟨n, e, hn, _⟩ := h.held _ h'
      exact absurd (show F.last + 1 ∈ F.ids by rw [show F.last + 1 = n by omega]; exact hn) hc.fresh
  have hr0 : refc F (F.last + 1) = 0 := refc_zero fun m hm q hq e => by
    rcases (h.ok m hm).kid q hq with h' | ⟨h', _⟩
    · omega
    · rw [e] at h'; exact hc.fresh h'
  have hx0 : hits x.kids 16 (F.last + 1) = 0 := hits_zero fun q hq e => by
    rcases hx.kid q hq with h' | ⟨h', _⟩
    · omega
    · rw [e] at h'; exact hc.fresh h'
  refine ⟨?_, fun i hi => ?_, fun i hi => ?_, fun i hi => ?_, fun i hi => ?_, fun i hi => ?_, fun r hr => ?_, fun s => ?_, fun i hi => ?_⟩
  · rw [addN_ids, List.nodup_append]
    exact ⟨h.nd, by simp, fun a ha b hb e => by simp at hb; subst hb; subst e; exact hc.fresh ha⟩
  · rw [addN_last]
    rcases addN_mem.1 hi with hi | rfl
    · have := h.pos i hi; omega
    · omega
  · rcases addN_mem.1 hi with hi | rfl
    · rw [ext.lev i hi]; exact h.lev i hi
    · rw [hlev]; exact hl
  · rcases addN_mem.1 hi with hi | rfl
    · rw [ext.lev i hi]; exact ((h.ok i hi).ext ext).same (ext.kids i hi) (ext.ents i hi) (ext.bits i hi)
    · rw [hlev, hnew]; exact hx.ext ext
  · rcases addN_mem.1 hi with hi | rfl
    · rw [emptyB_same (ext.kids i hi) (ext.bits i hi)]; exact h.full i hi
    · rw [hnew]; exact hE
  · rw [addN_refc hc, addN_held]
    rcases addN_mem.1 hi with hi | rfl
    · rw [(addN_old (ne i hi)).2.2.2, h.refs i hi, if_pos (by have := (h.pos i hi).1; omega)]; omega
    · rw [hnew, h0, hr0, hx0, hh0, hp]
  · rw [addN_held] at hr
    obtain ⟨n, e, hn, h0⟩ := h.held r hr
    exact ⟨n, e, ext.mem n hn, by rw [ext.lev n hn]; exact h0⟩
  · rw [addN_sl, addN_slc hc, h.sls s]; omega
  · rcases addN_mem.1 hi with hi | rfl
    · left
      rw [(addN_old (ne i hi)).2.2.2, if_pos (by have := (h.pos i hi).1; omega)]
      rcases h.live i hi with h' | rfl
      · omega
      · rcases he with rfl | ⟨q, hq, e⟩
        · have := (h.pos 0 hi).1; omega
        · have := hits_pos hq e; omega
    · exact .inr rfl
end Go.Proofs.Ytmpbhoijkcanmaa.R
