/- Radix: a way to a node is taken away: the walk. -/
import Derived.Test.YtmpbhoijkcanmaaRM
namespace Go.Proofs.Ytmpbhoijkcanmaa.R
open Go.ChangeShapes Go.WideShapes Go.ChangeAt Go.RowKit Go.Maps Go.Proofs.Ytmpbhoijkcanmaa.G
set_option linter.unusedVariables false
set_option linter.unusedSimpArgs false
set_option linter.unnecessarySimpa false

variable {w w' : World} {p : Pf} {F F2 G : Fo} {pd : Nat → Nat} {ps : Slot → Nat}
theorem hits_succ (f : Nat → Nat) (j i : Nat) : hits f (j + 1) i = hits f j i + if f j = i then 1 else 0 := by
  unfold hits
  rw [List.range_succ, List.countP_append]
  by_cases h : f j = i
  · rw [if_pos h]; simp [h]
  · rw [if_neg h]; simp [h]
theorem hits_mono (f : Nat → Nat) (i : Nat) {j k : Nat} (h : j ≤ k) : hits f j i ≤ hits f k i := by
  induction k with
  | zero => obtain rfl : j = 0 := by omega
            exact Nat.le_refl _
  | succ k ih =>
    rw [hits_succ]
    by_cases e : j = k + 1
    · subst e; rw [hits_succ]; omega
    · have := ih (by omega); omega
theorem slHits_succ (x : Node) (j : Nat) (s : Slot) : slHits x (j + 1) s = slHits x j s + if x.bits.testBit j = true ∧ (x.ents j).s = s then 1 else 0 := by
  unfold slHits
  rw [List.range_succ, List.countP_append]
  by_cases h : x.bits.testBit j = true ∧ (x.ents j).s = s
  · rw [if_pos h]; simp [h.1, h.2]
  · rw [if_neg h]; simp; intro h1 h2; exact h ⟨h1, h2⟩
theorem slHits_mono (x : Node) (s : Slot) {j k : Nat} (h : j ≤ k) : slHits x j s ≤ slHits x k s := by
  induction k with
  | zero => obtain rfl : j = 0 := by omega
            exact Nat.le_refl _
  | succ k ih =>
    rw [slHits_succ]
    by_cases e : j = k + 1
    · subst e; rw [slHits_succ]; omega
    · have := ih (by omega); omega
def lessPost (p : Pf) (gb : Nat) (F : Fo) (pend : Nat → Nat) (pendS : Slot → Nat) (n : Nat) (g : List (Slot × Value)) (w : World) (e : Ending) (w' : World) : Prop :=
  e = .returned (.tuple #[]) ∧ ∃ G g', Sub F G ∧ Inv G (dec1 pend n) pendS 0 ∧ (∀ i, i ∈ F.ids → 0 < dec1 pend n i → i ∈ G.ids) ∧ Gone F G g g' ∧ FoAt w' p G ∧ MapIs Try.prog 31 encS w' gb g' ∧ OwnP (fun b => p.own F b ∨ b = gb) w w'
def LessC (lev : Nat) : Prop := ∀ (p : Pf) (gb : Nat) (F : Fo) (pend : Nat → Nat) (pendS : Slot → Nat) (n : Nat) (g : List (Slot × Value)) (w : World),
  Inv F pend pendS 0 → n ∈ F.ids → F.lev n = lev → 0 < pend n → F.last ≤ 2 ^ 41 → (∀ i, i ∈ F.ids → (F.nd i).refs ≤ 2 ^ 46) → FoAt w p F → MapIs Try.prog 31 encS w gb g → ¬ p.own F gb →
  Calls Try.prog 45 #[.pointer (some ⟨p.f, 0, none⟩), .int .i64 (n : Nat), .map (some gb)] w (lessPost p gb F pend pendS n g w)
/-- what stands while kids, and entries, are gone over -/
structure LesIs (w wr : World) (p : Pf) (gb B : Nat) (F F2 : Fo) (x : Node) (g : List (Slot × Value)) (pd : Nat → Nat) (ps : Slot → Nat) (G : Fo) (g' : List (Slot × Value)) : Prop where
  sub : Sub F2 G
  inv : Inv G pd ps 0
  keep : ∀ i, i ∈ F2.ids → 0 < pd i → i ∈ G.ids
  gone : Gone F2 G g g'
  fo : FoAt wr p G
  map : MapIs Try.prog 31 encS wr gb g'
  own : OwnP (fun b => p.own F b ∨ b = gb) w wr
  nd : NodeAt wr B x
def LesAt (w wr : World) (p : Pf) (gb B : Nat) (F F2 : Fo) (x : Node) (g : List (Slot × Value)) (pd : Nat → Nat) (ps : Slot → Nat) : Prop := ∃ G g', LesIs w wr p gb B F F2 x g pd ps G g'
/-- what is fixed: what is left when a node went, which one, and where the others lie -/
structure LesC (p : Pf) (gb B lev : Nat) (F F2 : Fo) (x : Node) : Prop where
  sub : Sub F F2
  pos : ∀ i, i ∈ F2.ids → 0 < i
  kid : ∀ j, j < 16 → x.kids j = 0 ∨ (x.kids j ∈ F2.ids ∧ F2.lev (x.kids j) = lev + 1)
  bits : x.bits < 2 ^ 16
  ents : ∀ j, j < 16 → x.bits.testBit j = true → (x.ents j).s.ok
  last : F.last ≤ 2 ^ 41
  refs : ∀ i, i ∈ F.ids → (F.nd i).refs ≤ 2 ^ 46
  gb : ¬ p.own F gb
  nB : ¬ p.own F2 B
  oB : p.own F B
def remK (x : Node) (pd : Nat → Nat) (j : Nat) : Nat → Nat := fun i => pd i + (hits x.kids 16 i - hits x.kids j i)
def remS (x : Node) (ps : Slot → Nat) (j : Nat) : Slot → Nat := fun s => ps s + (slHits x 16 s - slHits x j s)
theorem LesIs.pend {wr : World} {gb B : Nat} {x : Node} {g g' : List (Slot × Value)} {pd2 : Nat → Nat} {ps2 : Slot → Nat} (h : LesIs w wr p gb B F F2 x g pd ps G g') (a : ∀ i, i ∈ F2.ids → pd2 i = pd i) (b : ∀ s, ps2 s = ps s) : LesIs w wr p gb B F F2 x g pd2 ps2 G g' :=
  ⟨h.sub, h.inv.pendEq (fun i hi => a i (h.sub.ext.mem i hi)) b, fun i hi h0 => h.keep i hi (by rw [← a i hi]; exact h0), h.gone, h.fo, h.map, h.own, h.nd⟩
theorem LesIs.calm {wr wq : World} {gb B : Nat} {x : Node} {g g' : List (Slot × Value)} (h : LesIs w wr p gb B F F2 x g pd ps G g') (t : Turned [] wr wq) : LesIs w wq p gb B F F2 x g pd ps G g' :=
  ⟨h.sub, h.inv, h.keep, h.gone, h.fo.calm t, h.map.turned t (by simp), h.own.step t (by simp), h.nd.turned t (by simp)⟩
/-- a kid that is none -/
theorem LesIs.skip {wr : World} {gb B lev : Nat} {x : Node} {g g' : List (Slot × Value)} {j : Nat} (hc : LesC p gb B lev F F2 x) (h : LesIs w wr p gb B F F2 x g (remK x pd j) ps G g') (hj : x.kids j = 0) : LesIs w wr p gb B F F2 x g (remK x pd (j + 1)) ps G g' :=
  h.pend (fun i hi => by
    unfold remK
    have := hc.pos i hi
    rw [hits_succ x.kids j, if_neg (by omega), Nat.add_zero]) (fun _ => rfl)
/-- an entry that is none -/
theorem LesIs.skipE {wr : World} {gb B lev : Nat} {x : Node} {g g' : List (Slot × Value)} {j : Nat} (hc : LesC p gb B lev F F2 x) (h : LesIs w wr p gb B F F2 x g pd (remS x ps j) G g') (hj : x.bits.testBit j = false) : LesIs w wr p gb B F F2 x g pd (remS x ps (j + 1)) G g' :=
  h.pend (fun _ _ => rfl) (fun s => by
    unfold remS
    rw [slHits_succ x j, if_neg (by simp [hj]), Nat.add_zero])
theorem LesIs.call {wr wq : World} {gb B lev : Nat} {x : Node} {g g' : List (Slot × Value)} {j : Nat} {e : Ending} (hc : LesC p gb B lev F F2 x) (h : LesIs w wr p gb B F F2 x g (remK x pd j) ps G g') (hj : j < 16) (hp : lessPost p gb G (remK x pd j) ps (x.kids j) g' wr e wq) :
    e = .returned (.tuple #[]) ∧ LesAt w wq p gb B F F2 x g (remK x pd (j + 1)) ps := by
  obtain ⟨he, H, g2, h1, h2, h3, h4, h5, h6, h7⟩ := hp
  refine ⟨he, H, g2, ?_⟩
  have hm16 : hits x.kids (j + 1) (x.kids j) ≤ hits x.kids 16 (x.kids j) := hits_mono _ _ (by omega)
  have hpd : ∀ i, remK x pd (j + 1) i = dec1 (remK x pd j) (x.kids j) i := fun i => by
    unfold remK dec1
    rw [hits_succ x.kids j]
    by_cases e : i = x.kids j
    · subst e
      rw [hits_succ x.kids j, if_pos rfl] at hm16
      rw [if_pos rfl, if_pos rfl]; show _ = (pd (x.kids j) + (hits x.kids 16 (x.kids j) - hits x.kids j (x.kids j))) - 1; omega
    · rw [if_neg (fun h => e h.symm), if_neg e, Nat.add_zero]
  have hle : ∀ i, 0 < remK x pd (j + 1) i → 0 < remK x pd j i := fun i => by
    rw [hpd]; unfold dec1; split <;> omega
  have hoB : ¬ (p.own G B ∨ B = gb) := by
    rintro (h' | h')
    · exact hc.nB (h.sub.own h')
    · exact hc.gb (h' ▸ hc.oB)
  exact ⟨h.sub.trans h1, h2.pendEq (fun i _ => hpd i) (fun _ => rfl), fun i hi h0 => h3 i (h.keep i hi (hle i h0)) (by rw [← hpd]; exact h0), h.gone.trans h4 h.sub.sl h1.sl, h5, h6,
    h.own.trans h7 (fun b hb => .inr (hb.imp (fun h' => hc.sub.own (h.sub.own h')) id)), h7.nodeAt h.nd hoB⟩
/-- what is asked of a call for a kid -/
theorem LesIs.kid {wr : World} {gb B lev : Nat} {x : Node} {g g' : List (Slot × Value)} {j : Nat} (HC : LessC (lev + 1)) (hc : LesC p gb B lev F F2 x) (h : LesIs w wr p gb B F F2 x g (remK x pd j) ps G g') (hj : j < 16) (h0 : x.kids j ≠ 0) :
    Calls Try.prog 45 #[.pointer (some ⟨p.f, 0, none⟩), .int .i64 (x.kids j : Nat), .map (some gb)] wr fun e wq => e = .returned (.tuple #[]) ∧ LesAt w wq p gb B F F2 x g (remK x pd (j + 1)) ps := by
  obtain ⟨k1, k2⟩ := (hc.kid j hj).resolve_left h0
  have hm16 : hits x.kids (j + 1) (x.kids j) ≤ hits x.kids 16 (x.kids j) := hits_mono _ _ (by omega)
  have hpos : 0 < remK x pd j (x.kids j) := by
    unfold remK
    rw [hits_succ x.kids j, if_pos rfl] at hm16
    omega
  have hk := h.keep _ k1 hpos
  exact (HC p gb G _ ps _ g' wr h.inv hk ((h.sub.ext.lev _ hk).symm.trans k2) hpos (by rw [h.sub.last, hc.sub.last]; exact hc.last) (fun i hi => Nat.le_trans (h.sub.refs i hi) (Nat.le_trans (hc.sub.refs i (h.sub.ext.mem i hi)) (hc.refs i (hc.sub.ext.mem i (h.sub.ext.mem i hi))))) h.fo h.map (fun ho => hc.gb (hc.sub.own (h.sub.own ho)))).mono fun e wq hp => h.call hc hj hp
theorem NumL.put0 {α : Type} [DecidableEq α] {l : List (α × Value)} (h : NumL l) (a : α) (v : Value) : NumL (mdel (mput l a v) a) := by
  intro b u hb
  rw [look_del, look_put] at hb
  by_cases e : b = a
  · rw [if_pos e] at hb; cases hb
  · rw [if_neg e, if_neg e] at hb; exact h b u hb
end Go.Proofs.Ytmpbhoijkcanmaa.R
