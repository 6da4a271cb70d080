/- Radix: pages in any order: the plain law. -/
import Derived.Test.YtmpbhoijkcanmaaSM
namespace Go.Proofs.Ytmpbhoijkcanmaa.R
open Go.ChangeShapes Go.WideShapes Go.ChangeAt Go.RowKit Go.Maps Go.Proofs.Ytmpbhoijkcanmaa.G
set_option linter.unusedVariables false
set_option linter.unusedSimpArgs false
set_option linter.unnecessarySimpa false

variable {F G : Fo} {L a b : Nat} {ps : List Nat} {M : List (Int × Value)}
abbrev castI (q : Nat) : Int := (q : Int)
/-- what a root has, and what the map has -/
structure PlO (F : Fo) (a : Nat) (ps : List Nat) (M : List (Int × Value)) : Prop where
  root : isB F (a : Int) = true
  nodup : ps.Nodup
  lt : ∀ q, q ∈ ps → q < 4096
  keys : M.map (·.1) = ps.map castI
  get : ∀ q : Nat, q < 4096 → mget M (q : Int) = (getL 2 F a q).map encE
theorem PlO.start : PlO fo0 0 [] [] := ⟨rfl, List.nodup_nil, by simp, rfl, fun q _ => by rw [getL_zero]; rfl⟩
theorem PlO.mem (h : PlO F a ps M) {q : Nat} (hq : q < 4096) : q ∈ ps ↔ (getL 2 F a q).isSome = true := by
  have h1 : ((q : Int) ∈ M.map (·.1)) ↔ (mget M (q : Int)).isSome = true := G.mem_keys
  rw [h.keys, h.get q hq, Option.isSome_map] at h1
  rw [← h1, List.mem_map]
  constructor
  · exact fun hm => ⟨q, hm, rfl⟩
  · rintro ⟨r, hr, e⟩
    have : r = q := by have e' : (r : Int) = q := e; omega
    exact this ▸ hr
theorem root_set {x : Ent} {R : Fo × Nat} {r pg : Nat} {c : Chg} (h : SetIs F L r pg c R) : isB R.1 (R.2 : Int) = true := by
  rw [isB_iff]
  by_cases h0 : R.2 = 0
  · exact .inl h0
  · right; rw [h.held, if_pos ⟨h0, rfl⟩]; omega
theorem root_keep {R : Fo × Nat} {r pg : Nat} {c : Chg} (h : SetIs F L r pg c R) (hb : isB F (b : Int) = true) : isB R.1 (b : Int) = true := by
  rw [isB_iff] at hb ⊢
  refine hb.imp id fun hb => ?_
  rw [h.held]; omega
theorem PlO.set (h : PlO F a ps M) {R : Fo × Nat} {pg : Nat} {x : Ent} (hp : pg < 4096) (his : SetIs F L a pg (.set 0 x) R) :
    PlO R.1 R.2 (if (getL 2 F a pg).isSome then ps else ps ++ [pg]) (mput M (pg : Int) (encE x)) := by
  have hm := h.mem hp
  have hk : (mput M (pg : Int) (encE x)).map (·.1) = if (mget M (pg : Int)).isSome then M.map (·.1) else M.map (·.1) ++ [(pg : Int)] := keys_put _ _ _
  rw [h.get pg hp, Option.isSome_map, h.keys] at hk
  refine ⟨root_set (x := x) his, ?_, fun q hq => ?_, ?_, fun q hq => ?_⟩
  · split
    · exact h.nodup
    · rename_i hn
      rw [List.nodup_append]
      exact ⟨h.nodup, by simp, fun u hu v hv e => by
        simp only [List.mem_singleton] at hv; subst hv; subst e
        exact hn (hm.1 hu)⟩
  · split at hq
    · exact h.lt q hq
    · rcases List.mem_append.1 hq with hq | hq
      · exact h.lt q hq
      · simp only [List.mem_singleton] at hq; omega
  · rw [hk]
    split
    · rfl
    · rw [List.map_append]; rfl
  · rw [look_put, his.get q hq]
    by_cases e : q = pg
    · subst e; rw [if_pos rfl, if_pos rfl]; rfl
    · rw [if_neg (by omega), if_neg e]; exact h.get q hq
/-- the other root, so far -/
structure PlB (F : Fo) (a b : Nat) (rem : List Nat) : Prop where
  root : isB F (b : Int) = true
  nodup : rem.Nodup
  get : ∀ q, q < 4096 → getL 2 F b q = if q ∈ rem then none else getL 2 F a q
theorem PlB.start (h : PlO F a ps M) : PlB F a 0 ps := ⟨rfl, h.nodup, fun q hq => by
  rw [getL_zero]
  split
  · rfl
  · rename_i hn
    have : ¬ (getL 2 F a q).isSome = true := fun hs => hn ((h.mem hq).2 hs)
    symm
    simpa using this⟩
theorem mem_erase {rem : List Nat} (hn : rem.Nodup) {k p : Nat} (hk : rem[k]? = some p) (q : Nat) : q ∈ rem.eraseIdx k ↔ q ∈ rem ∧ q ≠ p := by
  obtain ⟨hkl, hkp⟩ := List.getElem?_eq_some_iff.1 hk
  rw [List.mem_eraseIdx_iff_getElem]
  constructor
  · rintro ⟨i, hi, hne, rfl⟩
    exact ⟨List.getElem_mem hi, fun e => hne ((List.getElem_inj hn).1 (by rw [e, hkp]))⟩
  · rintro ⟨hq, hne⟩
    obtain ⟨i, hi, e⟩ := List.getElem_of_mem hq
    exact ⟨i, hi, fun e' => hne (by subst e'; rw [← e, hkp]), e⟩
/-- one more page -/
theorem PlB.set {rem : List Nat} (h : PlB F a b rem) (k : Ok F L) (ha : isB F (a : Int) = true) {R : Fo × Nat} {j p : Nat} {x : Ent} (hj : rem[j]? = some p) (hx : getL 2 F a p = some x) (his : SetIs F L b p (.set 0 x) R) :
    PlB R.1 a R.2 (rem.eraseIdx j) := by
  refine ⟨root_set (x := x) his, h.nodup.sublist (List.eraseIdx_sublist _ _), fun q hq => ?_⟩
  have ea : getL 2 R.1 a q = getL 2 F a q := getL_ext k.inv his.ext 2 a q ((k.inv.root ha).imp id fun h => h.1)
  rw [his.get q hq, ea, h.get q hq]
  have hm := mem_erase h.nodup hj q
  by_cases e : q = p
  · subst e
    rw [if_pos rfl, if_neg (fun hh => (hm.1 hh).2 rfl), hx]; rfl
  · rw [if_neg e]
    by_cases hr : q ∈ rem
    · rw [if_pos hr, if_pos (hm.2 ⟨hr, e⟩)]
    · rw [if_neg hr, if_neg (fun hh => hr (hm.1 hh).1)]
theorem PlO.keep (h : PlO F a ps M) (k : Ok F L) {R : Fo × Nat} {r pg : Nat} {c : Chg} (his : SetIs F L r pg c R) : PlO R.1 a ps M :=
  ⟨root_keep his h.root, h.nodup, h.lt, h.keys, fun q hq => by rw [h.get q hq, getL_ext k.inv his.ext 2 a q ((k.inv.root h.root).imp id fun h => h.1)]⟩
theorem PlB.done (h : PlB F a b []) : mapL F b = mapL F a := allL_congr 4096 fun q hq => by rw [h.get q hq, if_neg (by simp)]
/-! ### the list of all -/
theorem allL_mem {g : Nat → Option Ent} {n q : Nat} {e : Ent} : (q, e) ∈ allL g n ↔ q < n ∧ g q = some e := by
  unfold allL
  rw [List.mem_filterMap]
  constructor
  · rintro ⟨r, hr, h⟩
    cases hg : g r with
    | none => rw [hg] at h; simp at h
    | some y =>
      rw [hg] at h
      simp only [Option.map_some, Option.some.injEq, Prod.mk.injEq] at h
      obtain ⟨rfl, rfl⟩ := h
      exact ⟨List.mem_range.1 hr, hg⟩
  · rintro ⟨h1, h2⟩
    exact ⟨q, List.mem_range.2 h1, by rw [h2]; rfl⟩
theorem allL_rises (g : Nat → Option Ent) (n : Nat) : (allL g n).Pairwise (fun x y => x.1 < y.1) := by
  induction n with
  | zero => exact List.Pairwise.nil
  | succ n ih =>
    rw [allL_succ, List.pairwise_append]
    refine ⟨ih, ?_, fun x hx y hy => ?_⟩
    · cases g n <;> simp
    · have h1 := (allL_mem (q := x.1) (e := x.2)).1 hx
      cases hg : g n with
      | none => rw [hg] at hy; simp at hy
      | some e => rw [hg] at hy; simp only [List.mem_singleton] at hy; subst hy; exact h1.1
theorem PlO.len (h : PlO F a ps M) : (mapL F a).length = M.length := by
  have h1 : ((mapL F a).map (·.1)).Perm ps := by
    refine (List.perm_ext_iff_of_nodup ?_ h.nodup).2 fun q => ?_
    · rw [List.Nodup, List.pairwise_map]
      exact (allL_rises _ _).imp fun hxy => by omega
    · rw [List.mem_map]
      constructor
      · rintro ⟨x, hx, rfl⟩
        obtain ⟨h1, h2⟩ := (allL_mem (q := x.1) (e := x.2)).1 hx
        exact (h.mem h1).2 (by rw [h2]; rfl)
      · intro hq
        have hq4 := h.lt q hq
        obtain ⟨e, he⟩ := Option.isSome_iff_exists.1 ((h.mem hq4).1 hq)
        exact ⟨(q, e), allL_mem.2 ⟨hq4, he⟩, rfl⟩
  have h2 := h1.length_eq
  have h3 := congrArg List.length h.keys
  simp only [List.length_map] at h2 h3
  omega
theorem mapL_at {F : Fo} {a i : Nat} {x : Pr} (h : (mapL F a)[i]? = some x) : x.1 < 4096 ∧ getL 2 F a x.1 = some x.2 := allL_mem.1 (show (x.1, x.2) ∈ mapL F a from List.mem_of_getElem? h)
theorem rises_of {l : List Pr} (hp : l.Pairwise fun x y => x.1 < y.1) {i : Nat} {x y : Pr} (hx : l[i]? = some x) (hy : l[i + 1]? = some y) : x.1 < y.1 := by
  rw [List.pairwise_iff_getElem] at hp
  obtain ⟨h1, e1⟩ := List.getElem?_eq_some_iff.1 hx
  obtain ⟨h2, e2⟩ := List.getElem?_eq_some_iff.1 hy
  have := hp i (i + 1) h1 h2 (Nat.lt_succ_self i)
  rw [e1, e2] at this
  exact this
theorem mapL_pairs (F : Fo) (a : Nat) : (mapL F a).Pairwise fun x y => x.1 < y.1 := allL_rises (getL 2 F a) 4096
theorem mapL_rises {F : Fo} {a i : Nat} {x y : Pr} (hx : (mapL F a)[i]? = some x) (hy : (mapL F a)[i + 1]? = some y) : x.1 < y.1 := rises_of (mapL_pairs F a) hx hy
theorem get_ok_in (h : Ok F L) {q : Nat} {x : Ent} : ∀ (m n : Nat), n = 0 ∨ n ∈ F.ids → getL m F n q = some x → x.ok
  | 0, n, hn, hx => by
    unfold getL at hx
    by_cases h0 : n = 0
    · rw [if_pos h0] at hx; cases hx
    · rw [if_neg h0] at hx
      unfold leafE at hx
      split at hx
      · rename_i hb
        simp only [Option.some.injEq] at hx
        rw [← hx]
        exact (h.inv.ok n (hn.resolve_left h0)).ents _ (partN_lt _ _) hb
      · cases hx
  | m + 1, n, hn, hx => by
    refine get_ok_in h m (kidOf F n (partN q (1 - m))) ?_ hx
    unfold kidOf
    by_cases h0 : n = 0
    · rw [if_pos h0]; exact .inl rfl
    · rw [if_neg h0]
      exact ((h.inv.ok n (hn.resolve_left h0)).kid _ (partN_lt _ _)).imp id fun h => h.1
theorem get_ok {a q : Nat} (h : Ok F L) (ha : a = 0 ∨ (a ∈ F.ids ∧ F.lev a = 0)) {x : Ent} (hx : getL 2 F a q = some x) : x.ok := get_ok_in h 2 a (ha.imp id fun h => h.1) hx
end Go.Proofs.Ytmpbhoijkcanmaa.R
