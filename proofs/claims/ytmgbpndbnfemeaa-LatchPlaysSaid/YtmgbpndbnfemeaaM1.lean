/- A latch is one holder's at most: the plain part. -/
import Derived.Test.YtmgbpndbnfemeaaL7
import Derived.Deep.LoopGhost
import Derived.Deep.RegionHeld3
namespace Go.Proofs.Ytmgbpndbnfemeaa.L
open Go.ChangeShapes Go.WideShapes Go.ChangeAt Go.RowKit Go.Maps Go.Proofs.Ytmgbpndbnfemeaa.G
set_option linter.unusedVariables false
set_option linter.unusedSimpArgs false

/-- acts in memory: three cells each -/
def ActsAt (w : World) (a : Option Addr) (len : Nat) (acts : List (Bool × Int × Int)) : Prop :=
  acts.length = len ∧ (∀ x ∈ acts, I64 x.2.1 ∧ I64 x.2.2) ∧ (len = 0 ∨ ∃ b off, a = some ⟨b, off, none⟩ ∧ ∀ i (h : i < acts.length), w.cell? ⟨b, off + i * 3, none⟩ = some (.bool acts[i].1) ∧ w.cell? ⟨b, off + i * 3 + 1, none⟩ = some (.int .i64 acts[i].2.1) ∧ w.cell? ⟨b, off + i * 3 + 2, none⟩ = some (.int .i64 acts[i].2.2))
theorem ActsAt.turned {w w' : World} {a : Option Addr} {len : Nat} {acts : List (Bool × Int × Int)} (h : ActsAt w a len acts) {S : List Nat} (t : Turned S w w') (hn : ∀ x, a = some x → x.block ∉ S) : ActsAt w' a len acts := by
  refine ⟨h.1, h.2.1, ?_⟩
  rcases h.2.2 with h0 | ⟨b, off, e, hc⟩
  · exact .inl h0
  · refine .inr ⟨b, off, e, fun i hi => ?_⟩
    obtain ⟨c0, c1, c2⟩ := hc i hi
    have hb : b ∉ S := hn ⟨b, off, none⟩ e
    exact ⟨t.cell c0 hb, t.cell c1 hb, t.cell c2 hb⟩

/-- the map of holders and the row of eight say the same -/
structure Same8 (l : Holds) (H : Nat → Int) : Prop where
  keys : ∀ p ∈ l, 0 ≤ p.1 ∧ p.1 < 8 ∧ ∃ k, p.2 = iv k ∧ 0 ≤ k ∧ k < 4
  at_ : ∀ p : Nat, p < 8 → (mget l p = none ∧ H p = 0) ∨ ∃ k, mget l p = some (iv k) ∧ 0 ≤ k ∧ k < 4 ∧ H p = k + 1

theorem Same8.nums {l : Holds} {H : Nat → Int} (h : Same8 l H) : Nums l := fun p hp => let ⟨_, _, k, e, _⟩ := h.keys p hp; ⟨k, e⟩
theorem Same8.i64 {l : Holds} {H : Nat → Int} (h : Same8 l H) : ∀ p ∈ l, I64 p.1 := fun p hp => by have := h.keys p hp; unfold I64; omega
theorem same8_nil : Same8 [] (fun _ => 0) := ⟨(fun p hp => by cases hp), (fun p _ => .inl ⟨rfl, rfl⟩)⟩

theorem may8 (p w : Int) (hp : 0 ≤ p) (hp' : p < 8) (hw : 0 ≤ w) : mayE 8 p w ≠ 2 := by unfold mayE; rw [if_neg (by omega)]; decide

/-- what a take answers, by the row -/
theorem Same8.take {l : Holds} {H : Nat → Int} (h : Same8 l H) (p : Nat) (hp : p < 8) (w : Int) (hw : 0 ≤ w) (hw' : w < 4) :
    (H p = 0 ∧ takeE 8 p w l = 0 ∧ takeL 8 p w l = mput l p (iv w)) ∨ (H p = w + 1 ∧ takeE 8 p w l = 9 ∧ takeL 8 p w l = l) ∨ (H p ≠ 0 ∧ H p ≠ w + 1 ∧ takeE 8 p w l = 8 ∧ takeL 8 p w l = l) := by
  have n2 := may8 p w (by omega) (by omega) hw
  rcases h.at_ p hp with ⟨e, hH⟩ | ⟨k, e, k0, k1, hH⟩
  · have hE : takeE 8 p w l = 0 := by unfold takeE; rw [if_neg n2, e]
    exact .inl ⟨hH, hE, by unfold takeL; rw [hE]; rfl⟩
  · by_cases hk : k = w
    · have hE : takeE 8 p w l = 9 := by unfold takeE; rw [if_neg n2, e]; exact if_pos hk
      exact .inr (.inl ⟨by omega, hE, by unfold takeL; rw [hE]; rfl⟩)
    · have hE : takeE 8 p w l = 8 := by unfold takeE; rw [if_neg n2, e]; exact if_neg hk
      exact .inr (.inr ⟨by omega, by omega, hE, by unfold takeL; rw [hE]; rfl⟩)
theorem Same8.drop {l : Holds} {H : Nat → Int} (h : Same8 l H) (p : Nat) (hp : p < 8) (w : Int) (hw : 0 ≤ w) :
    (H p = w + 1 ∧ dropE 8 p w l = 0 ∧ dropL 8 p w l = mdel l p) ∨ (H p ≠ w + 1 ∧ dropE 8 p w l = 3 ∧ dropL 8 p w l = l) := by
  have n2 := may8 p w (by omega) (by omega) hw
  rcases h.at_ p hp with ⟨e, hH⟩ | ⟨k, e, k0, k1, hH⟩
  · have hE : dropE 8 p w l = 3 := by unfold dropE; rw [if_neg n2, e]
    exact .inr ⟨by omega, hE, by unfold dropL; rw [hE]; rfl⟩
  · by_cases hk : k = w
    · have hE : dropE 8 p w l = 0 := by unfold dropE; rw [if_neg n2, e]; exact if_pos hk
      exact .inl ⟨by omega, hE, by unfold dropL; rw [hE]; rfl⟩
    · have hE : dropE 8 p w l = 3 := by unfold dropE; rw [if_neg n2, e]; exact if_neg hk
      exact .inr ⟨by omega, hE, by unfold dropL; rw [hE]; rfl⟩

theorem mem_mput {l : Holds} {a : Int} {v : Value} {p : Int × Value} (h : p ∈ mput l a v) : p = (a, v) ∨ p ∈ l := by
  unfold mput at h
  split at h
  · obtain ⟨q, hq, rfl⟩ := List.mem_map.1 h
    by_cases e : q.1 = a
    · rw [if_pos e]; exact .inl rfl
    · rw [if_neg e]; exact .inr hq
  · rcases List.mem_append.1 h with h | h
    · exact .inr h
    · exact .inl (by simpa using h)

theorem Same8.put {l : Holds} {H : Nat → Int} (h : Same8 l H) (p : Nat) (hp : p < 8) (w : Int) (hw : 0 ≤ w) (hw' : w < 4) : Same8 (mput l p (iv w)) (fun i => if i = p then w + 1 else H i) := by
  refine ⟨fun q hq => ?_, fun i hi => ?_⟩
  · rcases mem_mput hq with rfl | hq
    · exact ⟨by simp only; omega, by simp only; omega, w, rfl, hw, hw'⟩
    · exact h.keys q hq
  · rw [look_put]
    by_cases e : i = p
    · subst e
      exact .inr ⟨w, by simp, hw, hw', by simp⟩
    · have e' : ¬ (i : Int) = (p : Int) := by omega
      rw [if_neg e']
      simp only [if_neg e]
      exact h.at_ i hi
theorem Same8.del {l : Holds} {H : Nat → Int} (h : Same8 l H) (p : Nat) (hp : p < 8) : Same8 (mdel l p) (fun i => if i = p then 0 else H i) := by
  refine ⟨fun q hq => h.keys q (List.mem_filter.1 hq).1, fun i hi => ?_⟩
  rw [look_del]
  by_cases e : i = p
  · subst e
    exact .inl ⟨by simp, by simp⟩
  · have e' : ¬ (i : Int) = (p : Int) := by omega
    rw [if_neg e']
    simp only [if_neg e]
    exact h.at_ i hi

/-- a page that somebody holds -/
theorem Same8.held {l : Holds} {H : Nat → Int} (h : Same8 l H) (k : Int) (x : Int) (hx : x ∈ heldL l k) : 0 ≤ x ∧ x ≤ 7 ∧ H x.toNat = k + 1 := by
  unfold heldL at hx
  obtain ⟨h1, h2⟩ := List.mem_filter.1 hx
  have hs := mem_keysL.1 h1
  cases e : mget l x with
  | none => rw [e] at hs; cases hs
  | some v =>
    obtain ⟨a, b, q, hv, _⟩ := h.keys _ (mem_of_look e)
    simp only at a b hv
    subst hv
    unfold isOf at h2
    rw [e] at h2
    have hq : q = k := by simpa [iv] using h2
    subst hq
    have ex : ((x.toNat : Nat) : Int) = x := by omega
    rcases h.at_ x.toNat (by omega) with ⟨e', _⟩ | ⟨q', e', _, _, hH⟩
    · rw [ex, e] at e'; cases e'
    · rw [ex, e] at e'
      simp only [Option.some.injEq, iv, Value.int.injEq, true_and] at e'
      exact ⟨a, by omega, by omega⟩

/-- how many are held, by all four -/
theorem Same8.sum {l : Holds} {H : Nat → Int} (h : Same8 l H) (hnd : (l.map (·.1)).Nodup) : (heldL l 0).length + (heldL l 1).length + (heldL l 2).length + (heldL l 3).length = l.length := by
  have key : ∀ xs : List Int, (∀ x ∈ xs, ∃ k, mget l x = some (iv k) ∧ 0 ≤ k ∧ k < 4) →
      (xs.filter (isOf l 0)).length + (xs.filter (isOf l 1)).length + (xs.filter (isOf l 2)).length + (xs.filter (isOf l 3)).length = xs.length := by
    intro xs
    induction xs with
    | nil => intro _; rfl
    | cons x xs ih =>
      intro hx
      have ih' := ih fun y hy => hx y (List.mem_cons_of_mem _ hy)
      obtain ⟨k, e, k0, k1⟩ := hx x List.mem_cons_self
      have hi : ∀ j, isOf l j x = (k == j) := fun j => by unfold isOf; rw [e]; rfl
      have hk : k = 0 ∨ k = 1 ∨ k = 2 ∨ k = 3 := by omega
      simp only [List.filter_cons, hi, List.length_cons]
      rcases hk with rfl | rfl | rfl | rfl <;> simp <;> omega
  have := key (keysL l) (fun x hx => by
    have hs := mem_keysL.1 hx
    cases e : mget l x with
    | none => rw [e] at hs; cases hs
    | some v =>
      obtain ⟨_, _, q, hv, q0, q1⟩ := h.keys _ (mem_of_look e)
      exact ⟨q, by rw [← hv], q0, q1⟩)
  rw [length_keysL] at this
  exact this

/-- how many the row tells -/
def many (H : Nat → Int) (k : Nat) : Nat := ((List.range k).filter fun i => decide (0 < H i)).length
theorem many_succ (H : Nat → Int) (k : Nat) : many H (k + 1) = many H k + if 0 < H k then 1 else 0 := by
  unfold many
  rw [List.range_succ, List.filter_append, List.length_append]
  by_cases e : 0 < H k <;> simp [List.filter_cons, e]
theorem Same8.many {l : Holds} {H : Nat → Int} (h : Same8 l H) (hnd : (l.map (·.1)).Nodup) : many H 8 = l.length := by
  have hp : (((List.range 8).filter fun i => decide (0 < H i)).map (fun i : Nat => (i : Int))).Perm (l.map (·.1)) := by
    refine (List.perm_ext_iff_of_nodup ?_ hnd).2 fun x => ?_
    · exact List.Pairwise.map _ (fun a b (hab : a ≠ b) e => hab (by omega)) (List.nodup_range.filter _)
    · rw [mem_keys, List.mem_map]
      constructor
      · rintro ⟨i, hi, rfl⟩
        obtain ⟨i1, i2⟩ := List.mem_filter.1 hi
        rcases h.at_ i (by simpa using i1) with ⟨_, e⟩ | ⟨k, e, _⟩
        · rw [e] at i2; simp at i2
        · rw [e]; rfl
      · intro hs
        cases e : mget l x with
        | none => rw [e] at hs; cases hs
        | some v =>
          obtain ⟨a, b, _⟩ := h.keys _ (mem_of_look e)
          simp only at a b
          refine ⟨x.toNat, List.mem_filter.2 ⟨by simp; omega, ?_⟩, by omega⟩
          rcases h.at_ x.toNat (by omega) with ⟨e', _⟩ | ⟨k, e', k0, _, hH⟩
          · rw [show ((x.toNat : Nat) : Int) = x by omega, e] at e'; cases e'
          · simp; omega
  have := hp.length_eq
  simpa [Go.Proofs.Ytmgbpndbnfemeaa.L.many] using this

end Go.Proofs.Ytmgbpndbnfemeaa.L
