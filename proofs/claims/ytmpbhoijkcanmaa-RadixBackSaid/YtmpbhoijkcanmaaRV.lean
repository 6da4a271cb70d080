/- Radix: Drop, Slots: the plain law. -/
import Derived.Test.YtmpbhoijkcanmaaRU
namespace Go.Proofs.Ytmpbhoijkcanmaa.R
open Go.ChangeShapes Go.WideShapes Go.ChangeAt Go.RowKit Go.Maps Go.Proofs.Ytmpbhoijkcanmaa.G
set_option linter.unusedVariables false
set_option linter.unusedSimpArgs false
set_option linter.unnecessarySimpa false

variable {F G : Fo} {pend : Nat → Nat} {pendS : Slot → Nat} {exc : Nat} {w w' : World} {p : Pf} {L : Nat}
theorem nodup_sub {α : Type} [DecidableEq α] : ∀ (l l' : List α), l.Nodup → (∀ x ∈ l, x ∈ l') → l.length ≤ l'.length
  | [], l', _, _ => Nat.zero_le _
  | a :: l, l', hnd, h => by
    rw [List.nodup_cons] at hnd
    have ha := h a List.mem_cons_self
    have ih := nodup_sub l (l'.erase a) hnd.2 (fun x hx => (List.mem_erase_of_ne (fun (e : x = a) => hnd.1 (e ▸ hx))).2 (h x (List.mem_cons_of_mem _ hx)))
    have hl := List.length_erase_of_mem ha
    have := List.length_pos_of_mem ha
    simp only [List.length_cons]; omega
/-- the slots of all nodes' entries -/
def slotsL (F : Fo) : List Slot := F.ids.flatMap fun m => (List.range 16).map fun q => ((F.nd m).ents q).s
theorem slotsL_len (F : Fo) : (slotsL F).length = 16 * F.ids.length := by
  unfold slotsL
  induction F.ids with
  | nil => rfl
  | cons a l ih => rw [List.flatMap_cons, List.length_append, ih, List.length_map, List.length_range, List.length_cons]; omega
theorem slHits_some {x : Node} {j : Nat} {s : Slot} (h : 0 < slHits x j s) : ∃ q, q < j ∧ x.bits.testBit q = true ∧ (x.ents q).s = s := by
  unfold slHits at h
  rw [List.countP_pos_iff] at h
  obtain ⟨q, hq, h⟩ := h
  simp only [Bool.and_eq_true, decide_eq_true_eq] at h
  exact ⟨q, List.mem_range.1 hq, h.1, h.2⟩
theorem slc_some {s : Slot} (h : 0 < slc F s) : ∃ m, m ∈ F.ids ∧ ∃ q, q < 16 ∧ (F.nd m).bits.testBit q = true ∧ ((F.nd m).ents q).s = s := by
  unfold slc at h
  have : ∀ l : List Nat, 0 < (l.map fun m => slHits (F.nd m) 16 s).sum → ∃ m, m ∈ l ∧ 0 < slHits (F.nd m) 16 s := by
    intro l
    induction l with
    | nil => intro h; simp at h
    | cons a l ih =>
      intro h
      rw [List.map_cons, List.sum_cons] at h
      by_cases h0 : 0 < slHits (F.nd a) 16 s
      · exact ⟨a, List.mem_cons_self, h0⟩
      · obtain ⟨m, hm, hp⟩ := ih (by omega)
        exact ⟨m, List.mem_cons_of_mem _ hm, hp⟩
  obtain ⟨m, hm, hp⟩ := this _ h
  exact ⟨m, hm, slHits_some hp⟩
theorem slc_pos {s : Slot} {m q : Nat} (hm : m ∈ F.ids) (hq : q < 16) (hb : (F.nd m).bits.testBit q = true) (hs : ((F.nd m).ents q).s = s) : 0 < slc F s := by
  unfold slc
  have h1 : 0 < slHits (F.nd m) 16 s := by
    unfold slHits
    rw [List.countP_pos_iff]
    exact ⟨q, List.mem_range.2 hq, by simp [hb, hs]⟩
  have : ∀ l : List Nat, m ∈ l → 0 < (l.map fun m => slHits (F.nd m) 16 s).sum := by
    intro l
    induction l with
    | nil => intro h; cases h
    | cons a l ih =>
      intro hl
      rw [List.map_cons, List.sum_cons]
      rcases List.mem_cons.1 hl with e | hl
      · subst e; omega
      · have := ih hl; omega
  exact this _ hm
theorem mem_slotsL {s : Slot} (h : 0 < slc F s) : s ∈ slotsL F := by
  obtain ⟨m, hm, q, hq, _, hs⟩ := slc_some h
  unfold slotsL
  rw [List.mem_flatMap]
  exact ⟨m, hm, List.mem_map.2 ⟨q, List.mem_range.2 hq, hs⟩⟩
theorem mem_keys {l : List (Slot × Value)} {s : Slot} : s ∈ l.map (·.1) ↔ (mget l s).isSome = true := by
  constructor
  · intro h
    cases e : mget l s with
    | some v => rfl
    | none =>
      have := look_none.1 e
      obtain ⟨p, hp, rfl⟩ := List.mem_map.1 h
      exact absurd rfl (this p hp)
  · intro h
    rcases Classical.em (s ∈ l.map (·.1)) with h' | h'
    · exact h'
    · rw [look_none.2 (fun p hp e => h' (List.mem_map.2 ⟨p, hp, e⟩))] at h; cases h
theorem Ok.len (h : Ok F L) : F.ids.length ≤ L + 1 := Nat.le_trans h.inv.len (by have := h.last; omega)
/-- which slots there are -/
def HasS (F : Fo) (s : Slot) : Prop := 0 < cnt F.sl s
theorem HasS.ent (h : Ok F L) {s : Slot} (hs : HasS F s) : ∃ m, m ∈ F.ids ∧ ∃ q, q < 16 ∧ (F.nd m).bits.testBit q = true ∧ ((F.nd m).ents q).s = s := slc_some (by have := h.inv.sls s; unfold HasS at hs; omega)
theorem HasS.of (h : Ok F L) {m q : Nat} (hm : m ∈ F.ids) (hq : q < 16) (hb : (F.nd m).bits.testBit q = true) : HasS F ((F.nd m).ents q).s := by
  have := slc_pos (F := F) hm hq hb rfl
  have := h.inv.sls ((F.nd m).ents q).s
  unfold HasS; omega
theorem HasS.ok (h : Ok F L) {s : Slot} (hs : HasS F s) : s.ok := by
  obtain ⟨m, hm, q, hq, hb, rfl⟩ := HasS.ent h hs
  exact ((h.inv.ok m hm).ents q hq hb).1
theorem keys_le (h : Ok F L) {l : List (Slot × Value)} (hnd : (l.map (·.1)).Nodup) (hl : ∀ s, (mget l s).isSome = true → HasS F s) : l.length ≤ 16 * (L + 1) := by
  have := nodup_sub (l.map (·.1)) (slotsL F) hnd (fun s hs => mem_slotsL (by
    have h1 := hl s (mem_keys.1 hs)
    have := h.inv.sls s
    unfold HasS at h1; omega))
  rw [List.length_map, slotsL_len] at this
  have := h.len
  omega
/-- slots, in their order -/
structure SlotsIs (C : Slot → Prop) (ys : List Slot) : Prop where
  mem : ∀ s, s ∈ ys ↔ C s
  nodup : ys.Nodup
  sorted : ys.Pairwise leS
/-- a root is held once less -/
def unheldL (F : Fo) (r : Nat) : List (Int × Value) := if cnt F.held (r : Int) = 1 then mdel (mput F.held (r : Int) (.int .i64 0)) (r : Int) else mput F.held (r : Int) (.int .i64 (cnt F.held (r : Int) - 1 : Nat))
def unheld (F : Fo) (r : Nat) : Fo := { F with held := unheldL F r }
theorem unheld_cnt (F : Fo) (r : Nat) (i : Int) : cnt (unheld F r).held i = if i = r then cnt F.held i - 1 else cnt F.held i := by
  show cnt (unheldL F r) i = _
  unfold unheldL
  by_cases h1 : cnt F.held (r : Int) = 1
  · rw [if_pos h1, cnt_del]
    by_cases e : i = r
    · subst e; rw [if_pos rfl, if_pos rfl, h1]
    · rw [if_neg e, if_neg e]
      unfold cnt
      rw [look_put, if_neg e]
  · rw [if_neg h1, cnt_put]
    by_cases e : i = r
    · subst e; rw [if_pos rfl]
    · rw [if_neg e, if_neg e]
theorem unheld_ext (F : Fo) (r : Nat) : Ext F (unheld F r) ∧ Ext (unheld F r) F := ⟨⟨fun _ h => h, fun _ _ => rfl, fun _ _ => rfl, fun _ _ => rfl, fun _ _ => rfl⟩, ⟨fun _ h => h, fun _ _ => rfl, fun _ _ => rfl, fun _ _ => rfl, fun _ _ => rfl⟩⟩
theorem Inv.unheld (h : Inv F (fun _ => 0) (fun _ => 0) 0) {r : Nat} (hr : 0 < cnt F.held (r : Int)) : Inv (R.unheld F r) (fun i => if i = r then 1 else 0) (fun _ => 0) 0 :=
  ⟨h.nd, h.pos, h.lev, fun i hi => (h.ok i hi).ext (unheld_ext F r).1, h.full, fun i hi => by
    have := h.refs i hi
    rw [unheld_cnt]
    show (F.nd i).refs = refc F i + _ + _
    have e : ((i : Int) = r) ↔ i = r := by omega
    simp only [e]
    by_cases e : i = r
    · subst e; rw [if_pos rfl, if_pos rfl]; omega
    · rw [if_neg e, if_neg e]; omega, fun q hq => h.held q (by
      rw [unheld_cnt] at hq
      split at hq
      · omega
      · exact hq), h.sls, h.live⟩
/-- what came of Drop -/
structure DropIs (F : Fo) (L r : Nat) (G : Fo) (ys : List Slot) : Prop where
  ok : Ok G L
  ext : Ext G F
  held : ∀ i : Int, cnt G.held i = if r ≠ 0 ∧ i = r then cnt F.held i - 1 else cnt F.held i
  last : G.last = F.last
  gone : SlotsIs (fun s => HasS F s ∧ ¬ HasS G s) ys
theorem DropIs.zero (h : Ok F L) : DropIs F L 0 F [] :=
  ⟨h, Ext.refl F, fun i => by rw [if_neg (by simp)], rfl, ⟨fun s => ⟨fun h => (by cases h), fun h => absurd h.1 h.2⟩, List.nodup_nil, List.Pairwise.nil⟩⟩
theorem drop_is (h : Ok F L) {r : Nat} (h0 : r ≠ 0) (hr : 0 < cnt F.held (r : Int)) {g : List (Slot × Value)} {ys : List Slot} (hs : Sub (unheld F r) G) (hi : Inv G (dec1 (fun i => if i = r then 1 else 0) r) (fun _ => 0) 0) (hg : Gone (unheld F r) G [] g) (hgn : (g.map (·.1)).Nodup)
    (hp : ys.Perm (g.map (·.1))) (hso : ys.Pairwise leS) : DropIs F L r G ys := by
  have hi' : Inv G (fun _ => 0) (fun _ => 0) 0 := hi.pendEq (fun i _ => by
    unfold dec1
    by_cases e : i = r
    · rw [if_pos e]; simp [e]
    · rw [if_neg e]; simp [e]) (fun _ => rfl)
  have hh : ∀ i : Int, cnt G.held i = if r ≠ 0 ∧ i = r then cnt F.held i - 1 else cnt F.held i := fun i => by
    rw [hs.held, unheld_cnt]
    by_cases e : i = r
    · rw [if_pos e, if_pos ⟨h0, e⟩]
    · rw [if_neg e, if_neg (fun h => e h.2)]
  refine ⟨⟨hi', by rw [hs.last]; exact h.last, fun i => ?_⟩, hs.ext.trans (unheld_ext F r).2, hh, hs.last, ⟨fun s => ?_, hp.nodup_iff.2 hgn, hso⟩⟩
  · rw [hh]; have := h.held i; split <;> omega
  · rw [hp.mem_iff, mem_keys, hg s]
    unfold HasS
    constructor
    · rintro (h' | ⟨h1, h2⟩)
      · cases h'
      · exact ⟨h1, by omega⟩
    · rintro ⟨h1, h2⟩
      exact .inr ⟨h1, by omega⟩
end Go.Proofs.Ytmpbhoijkcanmaa.R
