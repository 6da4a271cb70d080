/- Radix: maps from which pages are cleared: the plain law; contracts. -/
import Derived.Test.YtmpbhoijkcanmaaSN
namespace Go.Proofs.Ytmpbhoijkcanmaa.R
open Go.ChangeShapes Go.WideShapes Go.ChangeAt Go.RowKit Go.Maps Go.Proofs.Ytmpbhoijkcanmaa.G
set_option linter.unusedVariables false
set_option linter.unusedSimpArgs false
set_option linter.unnecessarySimpa false

variable {F G : Fo} {L a b : Nat} {ps : List Nat} {M : List (Int × Value)} {w ww w' : World} {f bm : Nat} {pv : Value} {ex : List (Value × List Pr)}
/-- what came of a call that makes a map -/
structure MkIs (F : Fo) (L : Nat) (R : Fo × Nat) (g : Nat → Option Ent) : Prop where
  ok : Ok R.1 (L + 3)
  ext : Ext F R.1
  held : ∀ i : Int, cnt F.held i ≤ cnt R.1.held i
  root : isB R.1 (R.2 : Int) = true
  get : ∀ q, q < 4096 → getL 2 R.1 R.2 q = g q
def setG (F : Fo) (r pg : Nat) (o : Option Ent) (q : Nat) : Option Ent := if q = pg then o else getL 2 F r q
theorem mk_set (k : Ok F L) (hL : L ≤ 2 ^ 34) {r pg : Nat} (hr : isB F (r : Int) = true) (hp : pg < 4096) {x : Ent} (hx : x.ok) : MkIs F L (setF F r pg (.set 0 x)) (setG F r pg (some x)) := by
  have his := setF_is k (by omega) (k.inv.root hr) hp (.set 0 x) hx
  exact ⟨his.ok, his.ext, fun i => by rw [his.held]; omega, root_set (x := x) his, his.get⟩
theorem mk_clear (k : Ok F L) (hL : L ≤ 2 ^ 34) {r pg : Nat} (hr : isB F (r : Int) = true) (hp : pg < 4096) : MkIs F L (clearF F r pg) (setG F r pg none) := by
  obtain ⟨h1, h2, h3, h4, h5, h6⟩ := clearF_is k (by omega) (k.inv.root hr) hp
  refine ⟨h1, h3, fun i => by rw [h4]; omega, ?_, h6⟩
  rw [isB_iff]
  by_cases h0 : (clearF F r pg).2 = 0
  · exact .inl h0
  · right; rw [h4, if_pos ⟨h0, rfl⟩]; omega
theorem StO.setM (h : StO w ww f L F pv ps bm M ex) (hL : L ≤ 2 ^ 34) {r pg : Nat} (hr : isB F (r : Int) = true) (hpg : pg < 4096) (x : Ent) (hx : x.ok) :
    Calls Try.prog 12 #[.pointer (some ⟨f, 0, none⟩), .int .i64 (r : Nat), .int .i64 (pg : Nat), encE x] ww fun e w' => ∃ (R : Fo) (r' : Nat), e = .returned (.tuple #[.int .i64 (r' : Nat), .int .i64 0]) ∧ StO w w' f (L + 3) R pv ps bm M ex ∧ MkIs F L (R, r') (setG F r pg (some x)) :=
  (h.set hL hr hpg x hx).mono fun e w' ⟨e1, e2⟩ => ⟨_, _, e1, e2, mk_set h.ok hL hr hpg hx⟩
theorem StO.clearM (h : StO w ww f L F pv ps bm M ex) (hL : L ≤ 2 ^ 34) {r pg : Nat} (hr : isB F (r : Int) = true) (hpg : pg < 4096) :
    Calls Try.prog 16 #[.pointer (some ⟨f, 0, none⟩), .int .i64 (r : Nat), .int .i64 (pg : Nat)] ww fun e w' => ∃ (R : Fo) (r' : Nat), e = .returned (.tuple #[.int .i64 (r' : Nat), .int .i64 0]) ∧ StO w w' f (L + 3) R pv ps bm M ex ∧ MkIs F L (R, r') (setG F r pg none) ∧ (getL 2 F r pg = none → r' = r) :=
  (h.clear hL hr hpg).mono fun e w' ⟨e1, e2⟩ => ⟨_, _, e1, e2, mk_clear h.ok hL hr hpg, fun hn => by unfold clearF; rw [if_neg (by rw [hn]; simp)]⟩
theorem MkIs.isB {T : Fo × Nat} {g : Nat → Option Ent} (h : MkIs F L T g) (hb : R.isB F (b : Int) = true) : R.isB T.1 (b : Int) = true := by
  rw [isB_iff] at hb ⊢
  refine hb.imp id fun hb => ?_
  have := h.held b
  omega
theorem MkIs.old {T : Fo × Nat} {g : Nat → Option Ent} (h : MkIs F L T g) (k : Ok F L) (hb : R.isB F (b : Int) = true) (q : Nat) : getL 2 T.1 b q = getL 2 F b q := getL_ext k.inv h.ext 2 b q ((k.inv.root hb).imp id fun h => h.1)
/-- a variable's block beside -/
def StV (w ww : World) (f L : Nat) (F : Fo) (pv : Value) (ps : List Nat) (bm : Nat) (M : List (Int × Value)) (ex : List (Value × List Pr)) (vb : Nat) (vo : Obj) : Prop :=
  ∃ K1 o K3, LK w ww f F L (K1 ++ [(bm, o)] ++ K3) ∧ RowO K1 w.heap.size 3 1 pv ps.length (ps.map encR) ∧ w.heap.size ≤ bm ∧ MapIs Try.prog 3 encI ww bm M ∧ (∀ x ∈ ex, RowK K3 w.heap.size 43 5 x.1 x.2.length (flatP x.2)) ∧ (vb, vo) ∈ K3
theorem StO.var (h : StO w ww f L F pv ps bm M ex) (vo : Obj) : StV w (ww.alloc vo) f L F pv ps bm M ex ww.heap.size vo := by
  obtain ⟨K1, o, K3, h1, h2, h3, h4, h5⟩ := h
  have hp := h1.1.put vo
  refine ⟨K1, o, (ww.heap.size, vo) :: K3, ⟨hp.sub fun x hx => ?_, ?_⟩, h2, h3, h4.alloc vo, fun x hx => (h5 x hx).mono fun y hy => List.mem_cons_of_mem _ hy, List.mem_cons_self⟩
  · rcases List.mem_append.1 hx with hx | hx
    · exact List.mem_cons_of_mem _ (List.mem_append.2 (.inl hx))
    · rcases List.mem_cons.1 hx with rfl | hx
      · exact List.mem_cons_self
      · exact List.mem_cons_of_mem _ (List.mem_append.2 (.inr hx))
  · have : (keysK (K1 ++ [(bm, o)] ++ ((ww.heap.size, vo) :: K3))).Perm (keysK ((ww.heap.size, vo) :: (K1 ++ [(bm, o)] ++ K3))) := (List.perm_middle (l₁ := K1 ++ [(bm, o)]) (l₂ := K3) (a := (ww.heap.size, vo))).map (·.1)
    refine this.nodup_iff.2 ?_
    unfold keysK
    rw [List.map_cons, List.nodup_cons]
    refine ⟨fun hm => ?_, h1.2⟩
    have := h1.1.lt hm
    simp at this
theorem StV.sto {vb : Nat} {vo : Obj} (h : StV w ww f L F pv ps bm M ex vb vo) : StO w ww f L F pv ps bm M ex := by
  obtain ⟨K1, o, K3, h1, h2, h3, h4, h5, h6⟩ := h
  exact ⟨K1, o, K3, h1, h2, h3, h4, h5⟩
theorem StV.clearM {vb : Nat} {vo : Obj} (h : StV w ww f L F pv ps bm M ex vb vo) (hL : L ≤ 2 ^ 34) {r pg : Nat} (hr : isB F (r : Int) = true) (hpg : pg < 4096) :
    Calls Try.prog 16 #[.pointer (some ⟨f, 0, none⟩), .int .i64 (r : Nat), .int .i64 (pg : Nat)] ww fun e w' => ∃ (R : Fo) (r' : Nat), e = .returned (.tuple #[.int .i64 (r' : Nat), .int .i64 0]) ∧ StO w w' f (L + 3) R pv ps bm M ex ∧ MkIs F L (R, r') (setG F r pg none) ∧ w'.heap[vb]? = some vo := by
  obtain ⟨K1, o, K3, h1, h2, h3, h4, h5, h6⟩ := id h
  refine (clear_lv h1.1 hL hr hpg).mono fun e w' ⟨e1, e2⟩ => ⟨_, _, e1, ⟨K1, o, K3, ⟨e2, h1.2⟩, h2, h3, h4.kept ?_, h5⟩, mk_clear h1.1.ok hL hr hpg, e2.at (x := (vb, vo)) (by simp [h6])⟩
  rw [h1.1.at (x := (bm, o)) (by simp), e2.at (x := (bm, o)) (by simp)]
/-- the pages that a map has -/
structure PlK (F : Fo) (a : Nat) (ps : List Nat) : Prop where
  root : isB F (a : Int) = true
  nodup : ps.Nodup
  lt : ∀ q, q ∈ ps → q < 4096
  mem : ∀ q, q < 4096 → (q ∈ ps ↔ (getL 2 F a q).isSome = true)
theorem PlK.start : PlK fo0 0 [] := ⟨rfl, List.nodup_nil, by simp, fun q _ => by rw [getL_zero]; simp⟩
theorem PlK.len (h : PlK F a ps) : (mapL F a).length = ps.length := by
  have h1 : ((mapL F a).map (·.1)).Perm ps := by
    refine (List.perm_ext_iff_of_nodup ?_ h.nodup).2 fun q => ?_
    · rw [List.Nodup, List.pairwise_map]
      exact (mapL_pairs F a).imp fun hxy => by omega
    · rw [List.mem_map]
      constructor
      · rintro ⟨x, hx, rfl⟩
        obtain ⟨h1, h2⟩ := (allL_mem (q := x.1) (e := x.2)).1 hx
        exact (h.mem _ h1).2 (by rw [h2]; rfl)
      · intro hq
        have hq4 := h.lt q hq
        obtain ⟨e, he⟩ := Option.isSome_iff_exists.1 ((h.mem _ hq4).1 hq)
        exact ⟨(q, e), allL_mem.2 ⟨hq4, he⟩, rfl⟩
  have h2 := h1.length_eq
  simpa using h2
theorem PlK.zero (h : PlK F a ps) (k : Ok F L) : a = 0 ↔ ps.length = 0 := by
  rw [root_some k (k.inv.root h.root), List.length_eq_zero_iff]
  constructor
  · intro hn
    rcases hp : ps with _ | ⟨q, l⟩
    · rfl
    · have hq : q ∈ ps := by rw [hp]; exact List.mem_cons_self
      have := (h.mem q (h.lt q hq)).1 hq
      rw [hn q (h.lt q hq)] at this; cases this
  · rintro rfl q hq
    have := h.mem q hq
    simpa using this
theorem PlK.set (h : PlK F a ps) {T : Fo × Nat} {pg : Nat} {x : Ent} (hp : pg < 4096) (m : MkIs F L T (setG F a pg (some x))) : PlK T.1 T.2 (if pg ∈ ps then ps else ps ++ [pg]) := by
  refine ⟨m.root, ?_, fun q hq => ?_, fun q hq => ?_⟩
  · split
    · exact h.nodup
    · rename_i hn
      rw [List.nodup_append]
      exact ⟨h.nodup, by simp, fun u hu v hv e => by
        simp only [List.mem_singleton] at hv; subst hv; subst e
        exact hn hu⟩
  · split at hq
    · exact h.lt q hq
    · rcases List.mem_append.1 hq with hq | hq
      · exact h.lt q hq
      · simp only [List.mem_singleton] at hq; omega
  · rw [m.get q hq]
    unfold setG
    by_cases e : q = pg
    · subst e
      rw [if_pos rfl]
      split
      · rename_i hm; simp [hm]
      · simp
    · rw [if_neg e, ← h.mem q hq]
      split
      · exact Iff.rfl
      · simp [e]
theorem PlK.nz (h : PlK F a ps) {T : Fo × Nat} {pg : Nat} {x : Ent} (hp : pg < 4096) (m : MkIs F L T (setG F a pg (some x))) : T.2 ≠ 0 := fun h0 => by
  have := m.get pg hp
  rw [h0, getL_zero] at this
  unfold setG at this
  rw [if_pos rfl] at this
  cases this
theorem PlK.clear (h : PlK F a ps) {T : Fo × Nat} {j p : Nat} (hj : ps[j]? = some p) (m : MkIs F L T (setG F a p none)) : PlK T.1 T.2 (ps.eraseIdx j) := by
  refine ⟨m.root, h.nodup.sublist (List.eraseIdx_sublist _ _), fun q hq => h.lt q (List.mem_of_mem_eraseIdx hq), fun q hq => ?_⟩
  rw [m.get q hq, mem_erase h.nodup hj q]
  unfold setG
  by_cases e : q = p
  · rw [if_pos e]; simp [e]
  · rw [if_neg e, ← h.mem q hq]; simp [e]
theorem PlK.keep (h : PlK F a ps) (k : Ok F L) {T : Fo × Nat} {g : Nat → Option Ent} (m : MkIs F L T g) : PlK T.1 a ps :=
  ⟨m.isB h.root, h.nodup, h.lt, fun q hq => by rw [m.old k h.root]; exact h.mem q hq⟩
/-- the map of the pages -/
structure PlM (M : List (Int × Value)) (ps : List Nat) : Prop where
  keys : M.map (·.1) = ps.map castI
  val : ∀ q : Nat, q ∈ ps → mget M (q : Int) = some (.bool true)
theorem PlM.start : PlM [] [] := ⟨rfl, by simp⟩
theorem PlM.get (h : PlM M ps) (q : Nat) : (mget M (q : Int)).getD (.bool false) = .bool (decide (q ∈ ps)) := by
  by_cases hq : q ∈ ps
  · rw [h.val q hq, decide_eq_true hq]; rfl
  · have : mget M (q : Int) = none := by
      cases e : mget M (q : Int) with
      | none => rfl
      | some v =>
        exfalso
        have h1 : (q : Int) ∈ M.map (·.1) := G.mem_keys.2 (by rw [e]; rfl)
        rw [h.keys, List.mem_map] at h1
        obtain ⟨r, hr, e⟩ := h1
        have : r = q := by have e' : (r : Int) = q := e; omega
        exact hq (this ▸ hr)
    rw [this, decide_eq_false hq]; rfl
theorem PlM.put (h : PlM M ps) (pg : Nat) : PlM (mput M (pg : Int) (.bool true)) (if pg ∈ ps then ps else ps ++ [pg]) := by
  have hk : (mput M (pg : Int) (.bool true)).map (·.1) = if (mget M (pg : Int)).isSome then M.map (·.1) else M.map (·.1) ++ [(pg : Int)] := keys_put _ _ _
  by_cases hp : pg ∈ ps
  · rw [if_pos hp]
    rw [h.val pg hp] at hk
    refine ⟨hk.trans h.keys, fun q hq => ?_⟩
    rw [look_put]; split
    · rfl
    · exact h.val q hq
  · rw [if_neg hp]
    have hn : (mget M (pg : Int)).isSome = false := by
      cases e : mget M (pg : Int) with
      | none => rfl
      | some v =>
        exfalso
        have h1 : (pg : Int) ∈ M.map (·.1) := G.mem_keys.2 (by rw [e]; rfl)
        rw [h.keys, List.mem_map] at h1
        obtain ⟨r, hr, e⟩ := h1
        have : r = pg := by have e' : (r : Int) = pg := e; omega
        exact hp (this ▸ hr)
    rw [hn] at hk
    refine ⟨hk.trans (by rw [if_neg (by simp), h.keys, List.map_append]; rfl), fun q hq => ?_⟩
    rw [look_put]
    by_cases e : q = pg
    · rw [if_pos (by omega)]
    · rw [if_neg (by omega)]
      rcases List.mem_append.1 hq with hq | hq
      · exact h.val q hq
      · simp only [List.mem_singleton] at hq; exact absurd hq e
theorem zeroB (w : World) : (zeroValue 4).run Try.prog w = .ok (.bool false) w := by kernel_rfl
theorem StO.lookB (h : StO w ww f L F pv ps bm M ex) {qs : List Nat} {p : Nat} (hp : PlM M qs) (hp4 : p < 4096) :
    (Instr.lookup 54 (.map (some bm)) (.int .i64 (p : Nat)) false).run Try.prog ww = .ok (.bool (decide (p ∈ qs))) ww := by
  obtain ⟨k, hk⟩ := keyI (p : Nat) (by unfold I64; omega)
  have := h.map.run_look keyedI encI_inj Try.underlying54 (zeroB ww) (p : Nat) hk false
  rw [hp.get p] at this
  exact this
end Go.Proofs.Ytmpbhoijkcanmaa.R
