/- Maps of pages, and versions of them: lemmas, part 10 of 23. -/
import Derived.Lib.SmallJoins
import Derived.Test.YtmpbhoijkcanmaaGreatQ09

/- Roots: versions in memory. -/
namespace Go.Proofs.YtmpbhoijkcanmaaGreat.R
open Go.ChangeShapes Go.WideShapes Go.ChangeAt Go.RowKit Go.Maps Go.Proofs.YtmpbhoijkcanmaaGreat.G
set_option linter.unusedVariables false
set_option linter.unusedSimpArgs false
set_option linter.unnecessarySimpa false

structure Vr where
  root : Nat
  held : Nat
deriving DecidableEq, Inhabited
structure Ro where
  vs : List (Nat × Vr)
  now : Nat
def encU (n : Nat) : Value := .int .u64 (n : Nat)
theorem encU_inj (a b : Nat) (h : encU a = encU b) : a = b := by
  simp only [encU, Value.int.injEq, true_and] at h; omega
theorem keyedU : Keyed Tryz.prog 23 := int_keyed Tryz.underlying23
theorem keyU (n : Nat) (h : n < 2 ^ 64) : ∃ k, keyOf Tryz.prog 23 (encU n) = some k :=
  ⟨_, keyOf_int_mk Tryz.underlying23 (by simp [Lit.wf, IntKind.min, IntKind.max, IntKind.signed, IntKind.bits]; omega)⟩
abbrev robj (f mb now : Nat) : Obj := .cells #[.pointer (some ⟨f, 0, none⟩), .map (some mb), .int .u64 (now : Nat)] 76 (0, 0)
abbrev vobj (v : Vr) : Obj := .cells #[.int .i64 (v.root : Nat), .int .i64 (v.held : Nat)] 73 (0, 0)
def vK (blk : Nat → Nat) (vs : List (Nat × Vr)) : List (Nat × Obj) := vs.map fun x => (blk x.1, vobj x.2)
def vL (blk : Nat → Nat) (vs : List (Nat × Vr)) : List (Nat × Value) := vs.map fun x => (x.1, ptrV (blk x.1))
def vget (vs : List (Nat × Vr)) (n : Nat) : Option Vr := (vs.find? fun x => decide (x.1 = n)).map (·.2)
def keysV (vs : List (Nat × Vr)) : List Nat := vs.map (·.1)
theorem vget_some {vs : List (Nat × Vr)} {n : Nat} {v : Vr} (h : vget vs n = some v) : (n, v) ∈ vs := by
  unfold vget at h
  obtain ⟨x, hx, rfl⟩ := Option.map_eq_some_iff.1 h
  have h1 := List.find?_some hx
  simp only [decide_eq_true_eq] at h1
  subst h1
  exact List.mem_of_find?_eq_some hx
theorem vget_none {vs : List (Nat × Vr)} {n : Nat} (h : vget vs n = none) : n ∉ keysV vs := by
  unfold vget at h
  simp only [Option.map_eq_none_iff, List.find?_eq_none, decide_eq_true_eq] at h
  intro hm
  obtain ⟨x, hx, e⟩ := List.mem_map.1 hm
  exact h x hx e
theorem vget_mem {vs : List (Nat × Vr)} (hn : (keysV vs).Nodup) {n : Nat} {v : Vr} (h : (n, v) ∈ vs) : vget vs n = some v := by
  cases e : vget vs n with
  | none => exact absurd (List.mem_map.2 ⟨_, h, rfl⟩) (vget_none e)
  | some u =>
    have hu := vget_some e
    congr 1
    induction vs with
    | nil => cases h
    | cons x l ih =>
      unfold keysV at hn ih
      rw [List.map_cons, List.nodup_cons] at hn
      rcases List.mem_cons.1 h with h1 | h1
      · rcases List.mem_cons.1 hu with h2 | h2
        · rw [← h1] at h2; exact (Prod.mk.inj h2).2
        · exact absurd (List.mem_map.2 ⟨_, h2, by rw [← h1]⟩) hn.1
      · rcases List.mem_cons.1 hu with h2 | h2
        · exact absurd (List.mem_map.2 ⟨_, h1, by rw [← h2]⟩) hn.1
        · refine ih hn.2 h1 ?_ h2
          have : vget (x :: l) n = vget l n := by
            unfold vget
            rw [List.find?_cons_of_neg]
            simp only [decide_eq_true_eq]
            exact fun e => hn.1 (List.mem_map.2 ⟨_, h1, e.symm⟩)
          rw [← this]; exact e
theorem look_vL (blk : Nat → Nat) (vs : List (Nat × Vr)) (n : Nat) : mget (vL blk vs) n = (vget vs n).map fun _ => ptrV (blk n) := by
  unfold vL vget
  induction vs with
  | nil => rfl
  | cons x l ih =>
    rw [List.map_cons, look_cons, ih, List.find?_cons]
    simp only
    by_cases h : x.1 = n
    · rw [if_pos h]; simp [h]
    · rw [if_neg h]; simp [h]
variable {w ww w' : World} {rb L n : Nat} {R : Ro} {F G : Fo} {Kx : List (Nat × Obj)}
/-- the versions, in memory: f the forest's place, mb the map's, blk the versions' -/
structure RtA (w ww : World) (rb L : Nat) (R : Ro) (F : Fo) (Kx : List (Nat × Obj)) (f mb : Nat) (mo : Obj) (blk : Nat → Nat) : Prop where
  lk : LK w ww f F L ((rb, robj f mb R.now) :: (mb, mo) :: (vK blk R.vs ++ Kx))
  map : MapIs Tryz.prog 23 encU ww mb (vL blk R.vs)
  rb0 : w.heap.size ≤ rb
  mb0 : w.heap.size ≤ mb
  vb0 : ∀ x, x ∈ R.vs → w.heap.size ≤ blk x.1
def RtM (w ww : World) (rb L : Nat) (R : Ro) (F : Fo) (Kx : List (Nat × Obj)) : Prop := ∃ f mb mo blk, RtA w ww rb L R F Kx f mb mo blk
variable {f mb : Nat} {mo : Obj} {blk : Nat → Nat}
theorem RtA.rob (h : RtA w ww rb L R F Kx f mb mo blk) : ww.heap[rb]? = some (robj f mb R.now) := h.lk.1.at (x := (rb, _)) (by simp)
theorem RtA.c0 (h : RtA w ww rb L R F Kx f mb mo blk) : ww.cell? ⟨rb, 0, none⟩ = some (.pointer (some ⟨f, 0, none⟩)) := by simp [World.cell?, h.rob]
theorem RtA.c1 (h : RtA w ww rb L R F Kx f mb mo blk) : ww.cell? ⟨rb, 1, none⟩ = some (.map (some mb)) := by simp [World.cell?, h.rob]
theorem RtA.c2 (h : RtA w ww rb L R F Kx f mb mo blk) : ww.cell? ⟨rb, 2, none⟩ = some (.int .u64 (R.now : Nat)) := by simp [World.cell?, h.rob]
theorem RtA.fz (h : RtA w ww rb L R F Kx f mb mo blk) (i : Nat) : ww.frozen? ⟨rb, i, none⟩ = false := by simp [World.frozen?, h.rob]
theorem RtA.vob (h : RtA w ww rb L R F Kx f mb mo blk) {v : Vr} (hv : vget R.vs n = some v) : ww.heap[blk n]? = some (vobj v) := by
  have := vget_some hv
  exact h.lk.1.at (x := (blk n, vobj v)) (List.mem_cons_of_mem _ (List.mem_cons_of_mem _ (List.mem_append.2 (.inl (List.mem_map.2 ⟨_, this, rfl⟩)))))
theorem RtA.v0 (h : RtA w ww rb L R F Kx f mb mo blk) {v : Vr} (hv : vget R.vs n = some v) : ww.cell? ⟨blk n, 0, none⟩ = some (.int .i64 (v.root : Nat)) := by simp [World.cell?, h.vob hv]
theorem RtA.v1 (h : RtA w ww rb L R F Kx f mb mo blk) {v : Vr} (hv : vget R.vs n = some v) : ww.cell? ⟨blk n, 1, none⟩ = some (.int .i64 (v.held : Nat)) := by simp [World.cell?, h.vob hv]
theorem RtA.vfz (h : RtA w ww rb L R F Kx f mb mo blk) {v : Vr} (hv : vget R.vs n = some v) (i : Nat) : ww.frozen? ⟨blk n, i, none⟩ = false := by simp [World.frozen?, h.vob hv]
theorem zeroV (w : World) : (zeroValue 71).run Tryz.prog w = .ok (.pointer none) w := by kernel_rfl
theorem RtA.look (h : RtA w ww rb L R F Kx f mb mo blk) (hn : n < 2 ^ 64) : (Instr.lookup 74 (.map (some mb)) (.int .u64 (n : Nat)) false).run Tryz.prog ww = .ok (match vget R.vs n with | some _ => ptrV (blk n) | none => .pointer none) ww := by
  obtain ⟨k, hk⟩ := keyU n hn
  have := h.map.run_look keyedU encU_inj Tryz.underlying74 (zeroV ww) n hk false
  rw [look_vL] at this
  cases e : vget R.vs n with
  | none => rw [e] at this; exact this
  | some v => rw [e] at this; exact this
theorem RtM.calm (h : RtM w ww rb L R F Kx) (b : Below ww.heap.size ww w') : RtM w w' rb L R F Kx := by
  obtain ⟨f, mb, mo, blk, h⟩ := h
  exact ⟨f, mb, mo, blk, h.lk.calm b, h.map.turned (Turned.of_below b) (by simp), h.rb0, h.mb0, h.vb0⟩
theorem RtA.calm (h : RtA w ww rb L R F Kx f mb mo blk) (b : Below ww.heap.size ww w') : RtA w w' rb L R F Kx f mb mo blk :=
  ⟨h.lk.calm b, h.map.turned (Turned.of_below b) (by simp), h.rb0, h.mb0, h.vb0⟩
theorem RtA.drew (h : RtA w ww rb L R F Kx f mb mo blk) : RtA w ww.drew rb L R F Kx f mb mo blk := h.calm (Turned.refl [] ww).drew.below
theorem RtA.drewN (h : RtA w ww rb L R F Kx f mb mo blk) (n : Nat) : RtA w (ww.drewN n) rb L R F Kx f mb mo blk := h.calm ((Turned.refl [] ww).drewN n).below
theorem RtA.bel (h : RtA w ww rb L R F Kx f mb mo blk) : Below w.heap.size w ww := h.lk.bel
theorem RtA.ok (h : RtA w ww rb L R F Kx f mb mo blk) : Ok F L := h.lk.1.ok
theorem RtM.bel (h : RtM w ww rb L R F Kx) : Below w.heap.size w ww := by
  obtain ⟨f, mb, mo, blk, h⟩ := h
  exact h.bel
theorem RtM.ok (h : RtM w ww rb L R F Kx) : Ok F L := by
  obtain ⟨f, mb, mo, blk, h⟩ := h
  exact h.ok
theorem RtM.at (h : RtM w ww rb L R F Kx) {x : Nat × Obj} (hx : x ∈ Kx) : ww.heap[x.1]? = some x.2 := by
  obtain ⟨f, mb, mo, blk, h⟩ := h
  exact h.lk.1.at (List.mem_cons_of_mem _ (List.mem_cons_of_mem _ (List.mem_append.2 (.inr hx))))
/-- the forest changed -/
theorem RtA.fo (h : RtA w ww rb L R F Kx f mb mo blk) {L' : Nat} (hs : LV w w' f G L' ((rb, robj f mb R.now) :: (mb, mo) :: (vK blk R.vs ++ Kx))) : RtA w w' rb L' R G Kx f mb mo blk := by
  have e1 := h.lk.1.at (x := (mb, mo)) (by simp)
  have e2 := hs.at (x := (mb, mo)) (by simp)
  exact ⟨⟨hs, h.lk.2⟩, h.map.kept (by rw [e1, e2]), h.rb0, h.mb0, h.vb0⟩
end Go.Proofs.YtmpbhoijkcanmaaGreat.R

/- Roots: versions in memory: steps. -/
namespace Go.Proofs.YtmpbhoijkcanmaaGreat.R
open Go.ChangeShapes Go.WideShapes Go.ChangeAt Go.RowKit Go.Maps Go.Proofs.YtmpbhoijkcanmaaGreat.G Go.Joins
set_option linter.unusedVariables false
set_option linter.unusedSimpArgs false
set_option linter.unnecessarySimpa false

variable {w ww w' : World} {rb L n : Nat} {R : Ro} {F G : Fo} {Kx : List (Nat × Obj)} {f mb : Nat} {mo : Obj} {blk : Nat → Nat} {K : List (Nat × Obj)}
/-- a block beside a forest is another one -/
theorem LK.upd {b : Nat} {o' : Obj} (h : LK w ww f F L K) (hb : w.heap.size ≤ b) (hbk : b ∈ keysK K) (t : Turned [b] ww w') (ho : w'.heap[b]? = some o') : LK w w' f F L (K.map fun x => if x.1 = b then (b, o') else x) := by
  have hkey : ∀ x : Nat × Obj, (if x.1 = b then (b, o') else x).1 = x.1 := fun x => by split <;> simp_all
  refine ⟨h.1.turn t (fun c hc => ?_) fun y hy => ?_, ?_⟩
  · simp only [List.mem_singleton] at hc; subst hc; exact ⟨hb, hbk⟩
  · obtain ⟨x, hx, rfl⟩ := List.mem_map.1 hy
    rw [hkey]
    by_cases e : x.1 = b
    · rw [if_pos e, e]; exact ⟨ho, .inr hbk⟩
    · rw [if_neg e]
      exact ⟨t.at (h.1.at hx) (by simpa using e), .inr (List.mem_map_of_mem hx)⟩
  · have : keysK (K.map fun x => if x.1 = b then (b, o') else x) = keysK K := by
      unfold keysK
      rw [List.map_map]
      exact List.map_congr_left fun x _ => hkey x
    rw [this]; exact h.2
theorem keys_vK (blk : Nat → Nat) (vs : List (Nat × Vr)) : keysK (vK blk vs) = (keysV vs).map blk := by unfold keysK vK keysV; rw [List.map_map, List.map_map]; rfl
structure Apart (rb mb : Nat) (vs : List Nat) (xs : List Nat) : Prop where
  rm : rb ≠ mb
  rv : rb ∉ vs
  rx : rb ∉ xs
  mv : mb ∉ vs
  mx : mb ∉ xs
  vv : vs.Nodup
  xx : xs.Nodup
  vx : ∀ a, a ∈ vs → a ∉ xs
theorem apart_iff {rb mb : Nat} {vs xs : List Nat} : (rb :: mb :: (vs ++ xs)).Nodup ↔ Apart rb mb vs xs := by
  rw [List.nodup_cons, List.nodup_cons, List.nodup_append]
  simp only [List.mem_cons, List.mem_append, not_or]
  constructor
  · rintro ⟨⟨a, b, c⟩, ⟨d, e⟩, f, g, h⟩
    exact ⟨a, b, c, d, e, f, g, fun x hx hy => h x hx x hy rfl⟩
  · rintro ⟨a, b, c, d, e, f, g, h⟩
    exact ⟨⟨a, b, c⟩, ⟨d, e⟩, f, g, fun x hx y hy e => h x hx (e ▸ hy)⟩
theorem RtA.apart (h : RtA w ww rb L R F Kx f mb mo blk) : Apart rb mb ((keysV R.vs).map blk) (keysK Kx) := by
  have := h.lk.2
  unfold keysK at this
  rw [List.map_cons, List.map_cons, List.map_append] at this
  have e : (vK blk R.vs).map (·.1) = (keysV R.vs).map blk := keys_vK blk R.vs
  rw [e] at this
  exact apart_iff.1 this
theorem lk_mk (h : LV w ww f F L ((rb, robj f mb R.now) :: (mb, mo) :: (vK blk R.vs ++ Kx))) (a : Apart rb mb ((keysV R.vs).map blk) (keysK Kx)) : LK w ww f F L ((rb, robj f mb R.now) :: (mb, mo) :: (vK blk R.vs ++ Kx)) := by
  refine ⟨h, ?_⟩
  unfold keysK
  rw [List.map_cons, List.map_cons, List.map_append]
  have e : (vK blk R.vs).map (·.1) = (keysV R.vs).map blk := keys_vK blk R.vs
  rw [e]
  exact apart_iff.2 a
theorem map_other {b : Nat} {o' : Obj} {K : List (Nat × Obj)} (h : b ∉ keysK K) : (K.map fun x => if x.1 = b then (b, o') else x) = K := by
  have : (K.map fun x => if x.1 = b then (b, o') else x) = K.map id := List.map_congr_left fun x hx => by
    have hne : x.1 ≠ b := fun e => h (by rw [← e]; exact List.mem_map_of_mem hx)
    simp only [if_neg hne, id]
  rw [this, List.map_id]
/-- the newest version's number is another one -/
theorem RtA.setNow (h : RtA w ww rb L R F Kx f mb mo blk) (k : Nat) : RtA w (ww.setCell ⟨rb, 2, none⟩ (.int .u64 (k : Nat))) rb L ⟨R.vs, k⟩ F Kx f mb mo blk := by
  have a := h.apart
  have t := (Turned.refl [rb] ww).setCell (p := ⟨rb, 2, none⟩) (.inl (by simp)) (.int .u64 (k : Nat))
  have hb : (ww.setCell ⟨rb, 2, none⟩ (.int .u64 (k : Nat))).heap[rb]? = some (robj f mb k) := block_setCell h.rob _
  have := h.lk.upd h.rb0 (by simp [keysK]) t hb
  rw [List.map_cons, List.map_cons, List.map_append, if_pos rfl, if_neg (fun e => a.rm e.symm), map_other (by rw [keys_vK]; exact a.rv), map_other a.rx] at this
  exact ⟨this, h.map.turned t (by simpa using a.rm.symm), h.rb0, h.mb0, h.vb0⟩
def vset (vs : List (Nat × Vr)) (n : Nat) (v : Vr) : List (Nat × Vr) := vs.map fun x => if x.1 = n then (n, v) else x
theorem keys_vset (vs : List (Nat × Vr)) (n : Nat) (v : Vr) : keysV (vset vs n v) = keysV vs := by
  unfold keysV vset
  rw [List.map_map]
  exact List.map_congr_left fun x _ => by simp only [Function.comp]; split <;> simp_all
theorem mem_vset {vs : List (Nat × Vr)} {n : Nat} {v : Vr} {x : Nat × Vr} : x ∈ vset vs n v ↔ (x = (n, v) ∧ n ∈ keysV vs) ∨ (x ∈ vs ∧ x.1 ≠ n) := by
  unfold vset keysV
  rw [List.mem_map]
  constructor
  · rintro ⟨y, hy, rfl⟩
    by_cases e : y.1 = n
    · rw [if_pos e]; exact .inl ⟨rfl, e ▸ List.mem_map_of_mem hy⟩
    · rw [if_neg e]; exact .inr ⟨hy, e⟩
  · rintro (⟨rfl, hn⟩ | ⟨hx, hne⟩)
    · obtain ⟨y, hy, e⟩ := List.mem_map.1 hn
      exact ⟨y, hy, if_pos e⟩
    · exact ⟨x, hx, if_neg hne⟩
theorem inj_blk {vs : List Nat} {blk : Nat → Nat} (h : (vs.map blk).Nodup) {a b : Nat} (ha : a ∈ vs) (hb : b ∈ vs) (e : blk a = blk b) : a = b := by
  induction vs with
  | nil => cases ha
  | cons c l ih =>
    rw [List.map_cons, List.nodup_cons] at h
    rcases List.mem_cons.1 ha with rfl | ha
    · rcases List.mem_cons.1 hb with rfl | hb
      · rfl
      · exact absurd (e ▸ List.mem_map_of_mem hb) h.1
    · rcases List.mem_cons.1 hb with e' | hb
      · rw [e'] at e; exact absurd (by rw [← e]; exact List.mem_map_of_mem ha) h.1
      · exact ih h.2 ha hb
/-- how often a version is held -/
theorem RtA.setHeld (h : RtA w ww rb L R F Kx f mb mo blk) {v : Vr} (hv : vget R.vs n = some v) (k : Nat) : RtA w (ww.setCell ⟨blk n, 1, none⟩ (.int .i64 (k : Nat))) rb L ⟨vset R.vs n ⟨v.root, k⟩, R.now⟩ F Kx f mb mo blk := by
  have a := h.apart
  have hm : n ∈ keysV R.vs := List.mem_map_of_mem (vget_some hv)
  have hbm : blk n ∈ (keysV R.vs).map blk := List.mem_map_of_mem hm
  have t := (Turned.refl [blk n] ww).setCell (p := ⟨blk n, 1, none⟩) (.inl (by simp)) (.int .i64 (k : Nat))
  have hb : (ww.setCell ⟨blk n, 1, none⟩ (.int .i64 (k : Nat))).heap[blk n]? = some (vobj ⟨v.root, k⟩) := block_setCell (h.vob hv) _
  have := h.lk.upd (h.vb0 _ (vget_some hv)) (by
    unfold keysK
    rw [List.map_cons, List.map_cons, List.map_append]
    refine List.mem_cons_of_mem _ (List.mem_cons_of_mem _ (List.mem_append.2 (.inl ?_)))
    have e : (vK blk R.vs).map (·.1) = (keysV R.vs).map blk := keys_vK blk R.vs
    rw [e]; exact hbm) t hb
  have e1 : ((vK blk R.vs).map fun x => if x.1 = blk n then (blk n, vobj ⟨v.root, k⟩) else x) = vK blk (vset R.vs n ⟨v.root, k⟩) := by
    unfold vK vset
    rw [List.map_map, List.map_map]
    refine List.map_congr_left fun x hx => ?_
    simp only [Function.comp]
    by_cases e : x.1 = n
    · rw [if_pos (by rw [e]), if_pos e]
    · rw [if_neg (fun e' => e (inj_blk a.vv (List.mem_map_of_mem hx) hm e')), if_neg e]
  have rn : rb ≠ blk n := fun e => a.rv (by rw [e]; exact hbm)
  have mn : mb ≠ blk n := fun e => a.mv (by rw [e]; exact hbm)
  rw [List.map_cons, List.map_cons, List.map_append, if_neg rn, if_neg mn, e1, map_other (a.vx _ hbm)] at this
  have e2 : vL blk (vset R.vs n ⟨v.root, k⟩) = vL blk R.vs := by
    unfold vL vset
    rw [List.map_map]
    exact List.map_congr_left fun x _ => by simp only [Function.comp]; split <;> simp_all
  refine ⟨this, ?_, h.rb0, h.mb0, fun x hx => ?_⟩
  · show MapIs Tryz.prog 23 encU _ mb (vL blk (vset R.vs n ⟨v.root, k⟩))
    rw [e2]
    exact h.map.turned t (by simpa using mn)
  · rcases mem_vset.1 hx with ⟨e, _⟩ | ⟨hx, _⟩
    · rw [e]; exact h.vb0 (n, v) (vget_some hv)
    · exact h.vb0 _ hx
/-- a new version -/
theorem RtA.addV (h : RtA w ww rb L R F Kx f mb mo blk) (hn : n ∉ keysV R.vs) (v : Vr) {B : Nat} (hB : ww.heap.size ≤ B) (t : Turned [mb] ww w') (hb : w'.heap[B]? = some (vobj v)) (hm : MapIs Tryz.prog 23 encU w' mb (mput (vL blk R.vs) n (ptrV B))) :
    ∃ mo', RtA w w' rb L ⟨R.vs ++ [(n, v)], R.now⟩ F Kx f mb mo' (fun i => if i = n then B else blk i) := by
  have a := h.apart
  obtain ⟨mo', hmo⟩ := at_some hm.lt
  have hk : ∀ b, b ∈ keysK ((rb, robj f mb R.now) :: (mb, mo) :: (vK blk R.vs ++ Kx)) → b < ww.heap.size := fun b hb => h.lk.1.lt hb
  have hlt : ∀ b, b ∈ (keysV R.vs).map blk → b < ww.heap.size := fun b hb => hk b (by
    unfold keysK
    rw [List.map_cons, List.map_cons, List.map_append]
    have e : (vK blk R.vs).map (·.1) = (keysV R.vs).map blk := keys_vK blk R.vs
    rw [e]; simp [hb])
  have hltx : ∀ b, b ∈ keysK Kx → b < ww.heap.size := fun b hb => hk b (by
    unfold keysK
    rw [List.map_cons, List.map_cons, List.map_append]
    simp only [List.mem_cons, List.mem_append]
    exact .inr (.inr (.inr hb)))
  have hrl : rb < ww.heap.size := hk rb (by simp [keysK])
  have hml : mb < ww.heap.size := hk mb (by simp [keysK])
  have eK : vK (fun i => if i = n then B else blk i) (R.vs ++ [(n, v)]) = vK blk R.vs ++ [(B, vobj v)] := by
    unfold vK
    rw [List.map_append]
    congr 1
    · exact List.map_congr_left fun x hx => by
        have : x.1 ≠ n := fun e => hn (e ▸ List.mem_map_of_mem hx)
        simp only [if_neg this]
    · simp
  have eM : (keysV (R.vs ++ [(n, v)])).map (fun i => if i = n then B else blk i) = (keysV R.vs).map blk ++ [B] := by
    rw [← keys_vK, eK]
    unfold keysK
    rw [List.map_append]
    have e : (vK blk R.vs).map (·.1) = (keysV R.vs).map blk := keys_vK blk R.vs
    rw [e]; rfl
  have eL : vL (fun i => if i = n then B else blk i) (R.vs ++ [(n, v)]) = mput (vL blk R.vs) n (ptrV B) := by
    unfold mput
    rw [any_iff, look_vL]
    have hv : vget R.vs n = none := by
      cases e : vget R.vs n with
      | none => rfl
      | some u => exact absurd (List.mem_map_of_mem (vget_some e)) hn
    rw [hv, if_neg (by simp)]
    unfold vL
    rw [List.map_append]
    congr 1
    · exact List.map_congr_left fun x hx => by
        have : x.1 ≠ n := fun e => hn (e ▸ List.mem_map_of_mem hx)
        simp only [if_neg this]
    · simp
  refine ⟨mo', lk_mk (R := ⟨R.vs ++ [(n, v)], R.now⟩) (h.lk.1.turn t (fun b hb => ?_) fun x hx => ?_) ?_, ?_, h.rb0, h.mb0, fun x hx => ?_⟩
  · simp only [List.mem_singleton] at hb; subst hb
    exact ⟨h.mb0, by simp [keysK]⟩
  · rw [eK] at hx
    rcases List.mem_cons.1 hx with rfl | hx
    · exact ⟨t.at h.rob (by simpa using a.rm), .inr (by simp [keysK])⟩
    rcases List.mem_cons.1 hx with rfl | hx
    · exact ⟨hmo, .inr (by simp [keysK])⟩
    rcases List.mem_append.1 hx with hx | hx
    · rcases List.mem_append.1 hx with hx | hx
      · have hxk : x.1 ∈ (keysV R.vs).map blk := by rw [← keys_vK]; exact List.mem_map_of_mem hx
        have hin : x ∈ ((rb, robj f mb R.now) :: (mb, mo) :: (vK blk R.vs ++ Kx)) := by simp [hx]
        exact ⟨t.at (h.lk.1.at hin) (by simp only [List.mem_singleton]; exact fun e => a.mv (e ▸ hxk)), .inr (List.mem_map_of_mem hin)⟩
      · simp only [List.mem_singleton] at hx; subst hx
        exact ⟨hb, .inl hB⟩
    · have hxk : x.1 ∈ keysK Kx := List.mem_map_of_mem hx
      have hin : x ∈ ((rb, robj f mb R.now) :: (mb, mo) :: (vK blk R.vs ++ Kx)) := by simp [hx]
      exact ⟨t.at (h.lk.1.at hin) (by simp only [List.mem_singleton]; exact fun e => a.mx (e ▸ hxk)), .inr (List.mem_map_of_mem hin)⟩
  · rw [eM]
    refine ⟨a.rm, ?_, a.rx, ?_, a.mx, ?_, a.xx, fun c hc => ?_⟩
    · simp only [List.mem_append, List.mem_singleton, not_or]; exact ⟨a.rv, by omega⟩
    · simp only [List.mem_append, List.mem_singleton, not_or]; exact ⟨a.mv, by omega⟩
    · rw [List.nodup_append]
      exact ⟨a.vv, by simp, fun x hx y hy e => by simp only [List.mem_singleton] at hy; have := hlt x hx; omega⟩
    · rcases List.mem_append.1 hc with hc | hc
      · exact a.vx c hc
      · simp only [List.mem_singleton] at hc; subst hc
        exact fun hx => by have := hltx _ hx; omega
  · show MapIs Tryz.prog 23 encU w' mb (vL _ (R.vs ++ [(n, v)]))
    rw [eL]; exact hm
  · rcases List.mem_append.1 hx with hx | hx
    · have : x.1 ≠ n := fun e => hn (e ▸ List.mem_map_of_mem hx)
      simp only [if_neg this]; exact h.vb0 x hx
    · simp only [List.mem_singleton] at hx; subst hx
      have := h.bel.size
      simp only [if_pos]; omega
def vdel (vs : List (Nat × Vr)) (n : Nat) : List (Nat × Vr) := vs.filter fun x => decide (x.1 ≠ n)
/-- a version goes -/
theorem RtA.delV (h : RtA w ww rb L R F Kx f mb mo blk) (t : Turned [mb] ww w') (hm : MapIs Tryz.prog 23 encU w' mb (mdel (vL blk R.vs) n)) : ∃ mo', RtA w w' rb L ⟨vdel R.vs n, R.now⟩ F Kx f mb mo' blk := by
  have a := h.apart
  obtain ⟨mo', hmo⟩ := at_some hm.lt
  have sub : ∀ x, x ∈ vdel R.vs n → x ∈ R.vs := fun x hx => (List.mem_filter.1 hx).1
  have eL : vL blk (vdel R.vs n) = mdel (vL blk R.vs) n := by
    unfold vL vdel mdel
    rw [List.filter_map]
    rfl
  have subk : ∀ b, b ∈ (keysV (vdel R.vs n)).map blk → b ∈ (keysV R.vs).map blk := fun b hb => by
    obtain ⟨k, hk, rfl⟩ := List.mem_map.1 hb
    obtain ⟨x, hx, rfl⟩ := List.mem_map.1 hk
    exact List.mem_map_of_mem (List.mem_map_of_mem (sub x hx))
  refine ⟨mo', lk_mk (R := ⟨vdel R.vs n, R.now⟩) (h.lk.1.turn t (fun b hb => ?_) fun x hx => ?_) ?_, ?_, h.rb0, h.mb0, fun x hx => h.vb0 x (sub x hx)⟩
  · simp only [List.mem_singleton] at hb; subst hb
    exact ⟨h.mb0, by simp [keysK]⟩
  · rcases List.mem_cons.1 hx with rfl | hx
    · exact ⟨t.at h.rob (by simpa using a.rm), .inr (by simp [keysK])⟩
    rcases List.mem_cons.1 hx with rfl | hx
    · exact ⟨hmo, .inr (by simp [keysK])⟩
    rcases List.mem_append.1 hx with hx | hx
    · obtain ⟨y, hy, rfl⟩ := List.mem_map.1 hx
      have hxk : blk y.1 ∈ (keysV R.vs).map blk := List.mem_map_of_mem (List.mem_map_of_mem (sub y hy))
      have hin : (blk y.1, vobj y.2) ∈ ((rb, robj f mb R.now) :: (mb, mo) :: (vK blk R.vs ++ Kx)) :=
        List.mem_cons_of_mem _ (List.mem_cons_of_mem _ (List.mem_append.2 (.inl (List.mem_map.2 ⟨y, sub y hy, rfl⟩))))
      exact ⟨t.at (h.lk.1.at hin) (by simp only [List.mem_singleton]; exact fun e => a.mv (e ▸ hxk)), .inr (List.mem_map_of_mem hin)⟩
    · have hxk : x.1 ∈ keysK Kx := List.mem_map_of_mem hx
      have hin : x ∈ ((rb, robj f mb R.now) :: (mb, mo) :: (vK blk R.vs ++ Kx)) := by simp [hx]
      exact ⟨t.at (h.lk.1.at hin) (by simp only [List.mem_singleton]; exact fun e => a.mx (e ▸ hxk)), .inr (List.mem_map_of_mem hin)⟩
  · refine ⟨a.rm, fun hx => a.rv (subk _ hx), a.rx, fun hx => a.mv (subk _ hx), a.mx, ?_, a.xx, fun c hc => a.vx c (subk c hc)⟩
    have : ((keysV (vdel R.vs n)).map blk).Sublist ((keysV R.vs).map blk) := ((List.filter_sublist (l := R.vs)).map _).map _
    exact a.vv.sublist this
  · show MapIs Tryz.prog 23 encU w' mb (vL blk (vdel R.vs n))
    rw [eL]; exact hm
end Go.Proofs.YtmpbhoijkcanmaaGreat.R

/- Roots: what holds of versions; small calls. -/
namespace Go.Proofs.YtmpbhoijkcanmaaGreat.R
open Go.ChangeShapes Go.WideShapes Go.ChangeAt Go.RowKit Go.Maps Go.Proofs.YtmpbhoijkcanmaaGreat.G Go.Joins
set_option linter.unusedVariables false
set_option linter.unusedSimpArgs false
set_option linter.unnecessarySimpa false

variable {w ww w' : World} {rb L T n : Nat} {R : Ro} {F G : Fo} {Kx : List (Nat × Obj)} {f mb : Nat} {mo : Obj} {blk : Nat → Nat}
def rootsV (vs : List (Nat × Vr)) : List Nat := vs.map (·.2.root)
structure RoOk (R : Ro) (F : Fo) (T : Nat) : Prop where
  keys : (keysV R.vs).Nodup
  le : ∀ n, n ∈ keysV R.vs → n ≤ R.now
  now : R.now ∈ keysV R.vs
  held : ∀ r : Nat, r ≠ 0 → cnt F.held (r : Int) = (rootsV R.vs).count r
  small : R.now ≤ T ∧ ∀ x, x ∈ R.vs → x.2.held ≤ T
  swept : ∀ x, x ∈ R.vs → x.1 = R.now ∨ 0 < x.2.held
theorem RoOk.root (h : RoOk R F T) {v : Vr} (hv : vget R.vs n = some v) : isB F (v.root : Int) = true := by
  rw [isB_iff]
  by_cases h0 : v.root = 0
  · exact .inl h0
  · right
    rw [h.held _ h0]
    exact List.count_pos_iff.2 (List.mem_map.2 ⟨_, vget_some hv, rfl⟩)
set_option maxRecDepth 100000 in
theorem rnone_fn (h : RtA w ww rb L R F Kx f mb mo blk) : Calls Tryz.prog 28 #[.pointer (some ⟨rb, 0, none⟩)] ww fun e w' => e = .returned (.bool false) ∧ ww = w' := by
  have c1 := h.c1
  have qT : ∀ (w : World) (r : Option Nat), (binOp .eql 74 (.map r) (.map none)).run Tryz.prog w = .ok (.bool r.isNone) w := fun w r => run_eql_map_nil w 74 23 71 r Tryz.underlying74
  clear h
  go_enter Tryz.func28, Tryz.ntmps28
  go_wp2
  go_ret
  exact ⟨rfl, rfl⟩
set_option maxRecDepth 100000 in
theorem rnone_nil (w : World) : Calls Tryz.prog 28 #[.pointer none] w fun e w' => e = .returned (.bool true) ∧ w = w' := by
  go_enter Tryz.func28, Tryz.ntmps28
  go_wp2
  go_ret
  exact ⟨rfl, rfl⟩
set_option maxRecDepth 100000 in
theorem rnow_fn (h : RtA w ww rb L R F Kx f mb mo blk) : Calls Tryz.prog 9 #[.pointer (some ⟨rb, 0, none⟩)] ww fun e w' => e = .returned (.int .u64 (R.now : Nat)) ∧ ww = w' := by
  have c2 := h.c2
  have CN := Lib.hid (rnone_fn h)
  clear h
  go_enter Tryz.func9, Tryz.ntmps9
  go_wp2_with (go_at_call 28; ((with_reducible refine CN.out.mono ?_); rintro e ww ⟨rfl, rfl⟩))
  go_ret
  exact ⟨rfl, rfl⟩
set_option maxRecDepth 100000 in
theorem rnodes_fn (h : RtA w ww rb L R F Kx f mb mo blk) : Calls Tryz.prog 23 #[.pointer (some ⟨rb, 0, none⟩)] ww fun e w' => e = .returned (.int .i64 (F.ids.length : Nat)) ∧ ww = w' := by
  have c0 := h.c0
  have CN := Lib.hid (rnone_fn h)
  have C := Lib.hid (nodes_lv h.lk.1)
  clear h
  go_enter Tryz.func23, Tryz.ntmps23
  go_wp2_with (first
    | (go_at_call 28; ((with_reducible refine CN.out.mono ?_); rintro e ww ⟨rfl, rfl⟩))
    | (go_at_call 40; ((with_reducible refine C.out.mono ?_); rintro e ww ⟨rfl, rfl⟩)))
  go_ret
  exact ⟨rfl, rfl⟩
set_option maxRecDepth 100000 in
theorem rslots_fn (h : RtA w ww rb L R F Kx f mb mo blk) (hL : L ≤ 2 ^ 34) : Calls Tryz.prog 14 #[.pointer (some ⟨rb, 0, none⟩)] ww (slotsPost (HasS F) ww) := by
  have c0 := h.c0
  have CN := Lib.hid (rnone_fn h)
  have C := Lib.hid (slots_lv h.lk.1 hL)
  clear h
  go_enter Tryz.func14, Tryz.ntmps14
  go_wp2_with (first
    | (go_at_call 28; ((with_reducible refine CN.out.mono ?_); rintro e ww ⟨rfl, rfl⟩))
    | (go_at_call 31; ((with_reducible refine C.out.mono ?_); rintro e w2 ⟨v, ys, rfl, hr⟩; have HR := Lib.hid hr; clear hr)))
  go_ret
  exact ⟨_, _, rfl, HR.out⟩
theorem cast_succ (n : Nat) : (Value.int .i64 ((n : Int) + 1)) = .int .i64 ((n + 1 : Nat) : Int) := by rw [Int.natCast_add]; rfl
set_option maxRecDepth 100000 in
theorem rhold_no (h : RtA w ww rb L R F Kx f mb mo blk) (hn : n < 2 ^ 64) (hv : vget R.vs n = none) : Calls Tryz.prog 21 #[.pointer (some ⟨rb, 0, none⟩), .int .u64 (n : Nat)] ww fun e w' => e = .returned (.int .i64 3) ∧ ww = w' := by
  have c1 := h.c1
  have hlk := h.look hn
  rw [hv] at hlk
  have CN := Lib.hid (rnone_fn h)
  clear h hv
  go_enter Tryz.func21, Tryz.ntmps21
  go_wp2_with (go_at_call 28; ((with_reducible refine CN.out.mono ?_); rintro e ww ⟨rfl, rfl⟩))
  go_ret
  exact ⟨rfl, rfl⟩
set_option maxRecDepth 100000 in
theorem rhold_yes (h : RtA w ww rb L R F Kx f mb mo blk) (hn : n < 2 ^ 64) {v : Vr} (hv : vget R.vs n = some v) (hs : v.held ≤ 2 ^ 40) : Calls Tryz.prog 21 #[.pointer (some ⟨rb, 0, none⟩), .int .u64 (n : Nat)] ww fun e w' => e = .returned (.int .i64 0) ∧ RtA w w' rb L ⟨vset R.vs n ⟨v.root, v.held + 1⟩, R.now⟩ F Kx f mb mo blk := by
  have c1 := h.c1
  have hlk := h.look hn
  rw [hv] at hlk
  have d1 := h.v1 hv
  have f1 := h.vfz hv 1
  have CN := Lib.hid (rnone_fn h)
  have HS : Hid (RtA w (ww.setCell ⟨blk n, 1, none⟩ (.int .i64 ((v.held : Int) + 1))) rb L ⟨vset R.vs n ⟨v.root, v.held + 1⟩, R.now⟩ F Kx f mb mo blk) := by
    have := h.setHeld hv (v.held + 1)
    rw [← cast_succ] at this
    exact this
  obtain ⟨bn, hbn⟩ : ∃ bn, blk n = bn := ⟨_, rfl⟩
  obtain ⟨hd, hhd⟩ : ∃ hd, v.held = hd := ⟨_, rfl⟩
  rw [hbn, hhd] at HS
  unfold ptrV at hlk
  simp only [hbn, hhd] at hlk d1 f1 hs
  have HBE := Lib.hid (And.intro hbn hhd)
  rw [hhd]
  clear h hv hbn hhd
  go_enter Tryz.func21, Tryz.ntmps21
  go_wp2_with (go_at_call 28; ((with_reducible refine CN.out.mono ?_); rintro e ww ⟨rfl, rfl⟩))
  go_ret
  exact ⟨rfl, HS.out⟩
end Go.Proofs.YtmpbhoijkcanmaaGreat.R

/- Roots: what a version has; one that goes. -/
namespace Go.Proofs.YtmpbhoijkcanmaaGreat.R
open Go.ChangeShapes Go.WideShapes Go.ChangeAt Go.RowKit Go.Maps Go.Proofs.YtmpbhoijkcanmaaGreat.G Go.Joins
set_option linter.unusedVariables false
set_option linter.unusedSimpArgs false
set_option linter.unnecessarySimpa false

variable {w ww w' : World} {rb L T n : Nat} {R : Ro} {F G : Fo} {Kx : List (Nat × Obj)} {f mb : Nat} {mo : Obj} {blk : Nat → Nat}
/-- what is read of a version -/
structure Reads (w : World) (rb f mb n bn r h : Nat) : Prop where
  c0 : w.cell? ⟨rb, 0, none⟩ = some (.pointer (some ⟨f, 0, none⟩))
  c1 : w.cell? ⟨rb, 1, none⟩ = some (.map (some mb))
  lk : (Instr.lookup 74 (.map (some mb)) (.int .u64 (n : Nat)) false).run Tryz.prog w = .ok (.pointer (some ⟨bn, 0, none⟩)) w
  d0 : w.cell? ⟨bn, 0, none⟩ = some (.int .i64 (r : Nat))
  d1 : w.cell? ⟨bn, 1, none⟩ = some (.int .i64 (h : Nat))
theorem Reads.conj {rb f mb n bn r h : Nat} (k : Reads w rb f mb n bn r h) : w.cell? ⟨rb, 0, none⟩ = some (.pointer (some ⟨f, 0, none⟩)) ∧ w.cell? ⟨rb, 1, none⟩ = some (.map (some mb)) ∧ (Instr.lookup 74 (.map (some mb)) (.int .u64 (n : Nat)) false).run Tryz.prog w = .ok (.pointer (some ⟨bn, 0, none⟩)) w ∧ w.cell? ⟨bn, 0, none⟩ = some (.int .i64 (r : Nat)) := ⟨k.c0, k.c1, k.lk, k.d0⟩
theorem RtA.reads (h : RtA w ww rb L R F Kx f mb mo blk) (hn : n < 2 ^ 64) {v : Vr} (hv : vget R.vs n = some v) : Reads ww rb f mb n (blk n) v.root v.held := by
  have := h.look hn
  rw [hv] at this
  exact ⟨h.c0, h.c1, this, h.v0 hv, h.v1 hv⟩
set_option maxRecDepth 100000 in
theorem rall_no (h : RtA w ww rb L R F Kx f mb mo blk) (hn : n < 2 ^ 64) (hv : vget R.vs n = none) : Calls Tryz.prog 18 #[.pointer (some ⟨rb, 0, none⟩), .int .u64 (n : Nat)] ww fun e w' => e = .returned (.tuple #[.slice none 0 0, .int .i64 3]) ∧ ww = w' := by
  have c1 := h.c1
  have hlk := h.look hn
  rw [hv] at hlk
  have CN := Lib.hid (rnone_fn h)
  clear h hv
  go_enter Tryz.func18, Tryz.ntmps18
  go_wp2_with (go_at_call 28; ((with_reducible refine CN.out.mono ?_); rintro e ww ⟨rfl, rfl⟩))
  go_ret2
  exact ⟨rfl, rfl⟩
def rallPost (ww : World) (c : List Pr) (e : Ending) (w' : World) : Prop := ∃ a n cap, n = c.length ∧ e = .returned (.tuple #[.slice a n cap, .int .i64 0]) ∧ w'.ownsRow ww.heap.size 88 5 (.slice a n cap) n (flatP c) ∧ Below ww.heap.size ww w'
set_option maxRecDepth 100000 in
theorem rall_yes (h : RtA w ww rb L R F Kx f mb mo blk) (hL : L ≤ 2 ^ 34) (hn : n < 2 ^ 64) {v : Vr} (hv : vget R.vs n = some v) (hr : isB F (v.root : Int) = true) : Calls Tryz.prog 18 #[.pointer (some ⟨rb, 0, none⟩), .int .u64 (n : Nat)] ww (rallPost ww (mapL F v.root)) := by
  obtain ⟨v0, hd⟩ := v
  have hd0 := h.reads hn hv
  have HA : Hid (∀ w', Below ww.heap.size ww w' → Reads w' rb f mb n (blk n) v0 hd) := fun w' hb => (h.calm hb).reads hn hv
  have HB : Hid (∀ v (w' : World) c, w'.ownsRow ww.heap.size 88 5 v c (flatP (mapL F v0)) → ∃ a n cap, v = .slice a n cap ∧ n = c) := fun v w' c h => by
    obtain ⟨a, cap, rfl⟩ := slice_of_owns h
    exact ⟨a, _, cap, rfl, rfl⟩
  have CA : Hid (Calls Tryz.prog 34 #[.pointer (some ⟨f, 0, none⟩), .int .i64 (v0 : Nat)] ww.drew fun e w' => ∃ a n cap, n = (mapL F v0).length ∧ e = .returned (.slice a n cap) ∧ w'.ownsRow ww.heap.size 88 5 (.slice a n cap) n (flatP (mapL F v0)) ∧ Below ww.heap.size ww w') :=
    (all_lv h.drew.lk.1 hL hr).mono fun e w' ⟨v, e1, e2, e3⟩ => by
      have e2 : w'.ownsRow ww.heap.size 88 5 v (mapL F v0).length (flatP (mapL F v0)) := e2
      obtain ⟨a, cap, rfl⟩ := slice_of_owns e2
      exact ⟨a, _, cap, rfl, e1, e2, (Turned.refl [] ww).drew.below.trans e3⟩
  have CN := Lib.hid (rnone_fn h)
  obtain ⟨bn, hbn⟩ : ∃ bn, blk n = bn := ⟨_, rfl⟩
  rw [hbn] at hd0 HA
  obtain ⟨c0, c1, hlk, d0, d1⟩ := hd0
  obtain ⟨c, hc⟩ : ∃ c, mapL F v0 = c := ⟨_, rfl⟩
  rw [hc] at CA
  rw [show mapL F (Vr.root ⟨v0, hd⟩) = c from hc]
  clear h hv hr hbn hc HB
  go_enter Tryz.func18, Tryz.ntmps18
  go_upto_region 5 with (go_at_call 28; ((with_reducible refine CN.out.mono ?_); rintro e ww ⟨rfl, rfl⟩))
  go_region_held3 (fun w' => w'.cell? ⟨rb, 0, none⟩ = some (.pointer (some ⟨f, 0, none⟩)) ∧ w'.cell? ⟨rb, 1, none⟩ = some (.map (some mb)) ∧ (Instr.lookup 74 (.map (some mb)) (.int .u64 (n : Nat)) false).run Tryz.prog w' = .ok (.pointer (some ⟨bn, 0, none⟩)) w' ∧ w'.cell? ⟨bn, 0, none⟩ = some (.int .i64 (v0 : Nat)))
    (first | exact K3.out | exact (HA.out _ (Turned.refl [] _).drew.below).conj | go_keep)
    (first
      | (go_at_call 34; ((with_reducible refine CA.out.mono ?_); rintro e w3 ⟨a3, n3, cap3, hn3, rfl, hs3, hb3⟩; have S3 := Lib.hid (And.intro hn3 (And.intro hs3 hb3)); have K3 := Lib.hid (HA.out _ hb3).conj; clear hs3 hb3 hn3)))
  all_goals
    go_wp2
    go_ret2
    exact ⟨_, _, _, S3.out.1, rfl, S3.out.2.1, S3.out.2.2⟩
end Go.Proofs.YtmpbhoijkcanmaaGreat.R

/- Roots: an entry of a version. -/
namespace Go.Proofs.YtmpbhoijkcanmaaGreat.R
open Go.ChangeShapes Go.WideShapes Go.ChangeAt Go.RowKit Go.Maps Go.Proofs.YtmpbhoijkcanmaaGreat.G Go.Joins
set_option linter.unusedVariables false
set_option linter.unusedSimpArgs false
set_option linter.unnecessarySimpa false

variable {w ww w' : World} {rb L T n : Nat} {R : Ro} {F G : Fo} {Kx : List (Nat × Obj)} {f mb : Nat} {mo : Obj} {blk : Nat → Nat}
def rgetPost (ww : World) (x : Ent) (is : Bool) (er : Int) (e : Ending) (w' : World) : Prop := e = .returned (.tuple #[.agg #[.int .i64 x.s.e, .int .i64 x.s.c, .int .i64 x.s.i, .int .i64 x.g], .bool is, .int .i64 er]) ∧ Below ww.heap.size ww w'
set_option maxRecDepth 100000 in
theorem rget_no (h : RtA w ww rb L R F Kx f mb mo blk) (hn : n < 2 ^ 64) (hv : vget R.vs n = none) (pg : Int) : Calls Tryz.prog 16 #[.pointer (some ⟨rb, 0, none⟩), .int .u64 (n : Nat), .int .i64 pg] ww (rgetPost ww zeroE false 3) := by
  have h1 : RtA w (ww.alloc (varE 0 0 0 0)) rb L R F Kx f mb mo blk := h.calm ((Turned.refl [] ww).alloc _).below
  have c1 := h1.c1
  have hlk := h1.look hn
  rw [hv] at hlk
  have CN := Lib.hid (rnone_fn h1)
  have hnw := ent_new ww 47 ⟨⟨0, 0, 0⟩, 0⟩
  have g0 := hnw.c0
  have g1 := hnw.c1
  have g2 := hnw.c2
  have g3 := hnw.c3
  simp only at g0 g1 g2 g3
  have HB : Hid (Below ww.heap.size ww (ww.alloc (varE 0 0 0 0))) := ((Turned.refl [] ww).alloc _).below
  clear h hv h1 hnw
  go_enter Tryz.func16, Tryz.ntmps16
  go_wp2_with (go_at_call 28; ((with_reducible refine CN.out.mono ?_); rintro e ww ⟨rfl, rfl⟩))
  exact bodyPost_ret (v := .tuple #[.agg #[.int .i64 0, .int .i64 0, .int .i64 0, .int .i64 0], .bool false, .int .i64 3]) (by simp [results, Tryz.results16, go_sem, g0, g1, g2, g3]) rfl ⟨rfl, HB.out⟩
set_option maxRecDepth 100000 in
set_option maxHeartbeats 4000000 in
theorem rget_yes (h : RtA w ww rb L R F Kx f mb mo blk) (hL : L ≤ 2 ^ 34) (hn : n < 2 ^ 64) {v : Vr} (hv : vget R.vs n = some v) (hr : isB F (v.root : Int) = true) {pg : Nat} (hpg : pg < 4096) {x : Ent} (hx : (getL 2 F v.root pg).getD zeroE = x) :
    Calls Tryz.prog 16 #[.pointer (some ⟨rb, 0, none⟩), .int .u64 (n : Nat), .int .i64 (pg : Nat)] ww (rgetPost ww x (getL 2 F v.root pg).isSome 0) := by
  obtain ⟨v0, hd⟩ := v
  obtain ⟨⟨xe, xc, xi⟩, xg⟩ := x
  have h1 : RtA w (ww.alloc (varE 0 0 0 0)) rb L R F Kx f mb mo blk := h.calm ((Turned.refl [] ww).alloc _).below
  have hd0 := h1.reads hn hv
  have hnw := ent_new ww 47 ⟨⟨0, 0, 0⟩, 0⟩
  obtain ⟨is, his⟩ : ∃ is, (getL 2 F v0 pg).isSome = is := ⟨_, rfl⟩
  have CA : Hid (Calls Tryz.prog 33 #[.pointer (some ⟨f, 0, none⟩), .int .i64 (v0 : Nat), .int .i64 (pg : Nat)] (ww.alloc (varE 0 0 0 0)).drew fun e w' => e = .returned (.tuple #[.agg #[.int .i64 xe, .int .i64 xc, .int .i64 xi, .int .i64 xg], .bool is]) ∧ Below (ww.alloc (varE 0 0 0 0)).heap.size (ww.alloc (varE 0 0 0 0)) w') :=
    (get_lv h1.drew.lk.1 hL hr hpg).mono fun e w' ⟨e1, e2⟩ => by
      rw [show (getL 2 F (Vr.root ⟨v0, hd⟩) pg).getD zeroE = ⟨⟨xe, xc, xi⟩, xg⟩ from hx, show (getL 2 F (Vr.root ⟨v0, hd⟩) pg).isSome = is from his] at e1
      exact ⟨e1, (Turned.refl [] _).drew.below.trans e2⟩
  have HA : Hid (∀ w', Below (ww.alloc (varE 0 0 0 0)).heap.size (ww.alloc (varE 0 0 0 0)) w' → Reads w' rb f mb n (blk n) v0 hd ∧ EntAt w' ww.heap.size ⟨⟨0, 0, 0⟩, 0⟩) := fun w' hb => ⟨(h1.calm hb).reads hn hv, by
    have t := Turned.of_below hb
    exact ⟨t.cell hnw.c0 (by simp), t.cell hnw.c1 (by simp), t.cell hnw.c2 (by simp), t.cell hnw.c3 (by simp)⟩⟩
  have HFz : Hid (∀ w', Below (ww.alloc (varE 0 0 0 0)).heap.size (ww.alloc (varE 0 0 0 0)) w' → ∀ j, w'.frozen? ⟨ww.heap.size, j, none⟩ = false) := fun w' hb j => by
    have hbk := (Turned.of_below hb).at (World.alloc_heap_new ww (varE 0 0 0 0)) (by simp)
    exact unfrozen_of_block hbk j
  have CN := Lib.hid (rnone_fn h1)
  have HB : Hid (Below ww.heap.size ww (ww.alloc (varE 0 0 0 0))) := ((Turned.refl [] ww).alloc _).below
  have HNe0 : Hid (rb ∉ [ww.heap.size] ∧ blk n ∉ [ww.heap.size]) := by
    have l1 := lt_of_at h.rob
    have l2 := lt_of_at (h.vob hv)
    exact Lib.hid ⟨by simp; omega, by simp; omega⟩
  obtain ⟨bn, hbn⟩ : ∃ bn, blk n = bn := ⟨_, rfl⟩
  rw [hbn] at hd0 HA HNe0
  obtain ⟨c0, c1, hlk, d0, d1⟩ := hd0
  rw [show (getL 2 F (Vr.root ⟨v0, hd⟩) pg).isSome = is from his]
  clear h hv hr hbn his hx hnw h1
  go_enter Tryz.func16, Tryz.ntmps16
  go_upto_region 6 with (go_at_call 28; ((with_reducible refine CN.out.mono ?_); rintro e ww2 ⟨rfl, rfl⟩))
  generalize ww.alloc (varE 0 0 0 0) = w1 at *
  obtain ⟨B, hB⟩ : ∃ B, ww.heap.size = B := ⟨_, rfl⟩
  rw [hB] at HA HB HFz HNe0
  rw [hB]
  have HBe := Lib.hid hB
  have HNe : Hid (rb ∉ [B] ∧ bn ∉ [B]) := HNe0.out
  have HA0 := HA.out w1 (Below.refl _ _)
  have e0 := HA0.2.c0
  have e1 := HA0.2.c1
  have e2 := HA0.2.c2
  have e3 := HA0.2.c3
  simp only at e0 e1 e2 e3
  clear HA0 hB
  go_region_held3 (fun w' => w'.cell? ⟨rb, 0, none⟩ = some (.pointer (some ⟨f, 0, none⟩)) ∧ w'.cell? ⟨bn, 0, none⟩ = some (.int .i64 (v0 : Nat)))
    (first | exact K3.out | exact ⟨((((((Turned.refl [B] w3).setCell (p := ⟨B, 0, none⟩) (.inl (List.mem_singleton.2 rfl)) _).setCell (p := ⟨B, 1, none⟩) (.inl (List.mem_singleton.2 rfl)) _).setCell (p := ⟨B, 2, none⟩) (.inl (List.mem_singleton.2 rfl)) _).setCell (p := ⟨B, 3, none⟩) (.inl (List.mem_singleton.2 rfl)) _)).cell K3.out.1 HNe.out.1, ((((((Turned.refl [B] w3).setCell (p := ⟨B, 0, none⟩) (.inl (List.mem_singleton.2 rfl)) _).setCell (p := ⟨B, 1, none⟩) (.inl (List.mem_singleton.2 rfl)) _).setCell (p := ⟨B, 2, none⟩) (.inl (List.mem_singleton.2 rfl)) _).setCell (p := ⟨B, 3, none⟩) (.inl (List.mem_singleton.2 rfl)) _)).cell K3.out.2 HNe.out.2⟩ | go_keep)
    (first
      | (go_at_call 33; ((with_reducible refine CA.out.mono ?_); rintro e w3 ⟨rfl, hb3⟩; have S3 := Lib.hid hb3; have K3 : Hid (w3.cell? ⟨rb, 0, none⟩ = some (.pointer (some ⟨f, 0, none⟩)) ∧ w3.cell? ⟨bn, 0, none⟩ = some (.int .i64 (v0 : Nat))) := ⟨(HA.out _ hb3).1.c0, (HA.out _ hb3).1.d0⟩; have HE3 := Lib.hid (HA.out _ hb3).2; obtain ⟨k0, k1, k2, k3⟩ := (HA.out _ hb3).2; simp only at k0 k1 k2 k3; have f0 := HFz.out _ hb3 0; have f1 := HFz.out _ hb3 1; have f2 := HFz.out _ hb3 2; have f3 := HFz.out _ hb3 3; clear hb3)))
  go_wp2
  have hp1 := HE3.out.put ⟨⟨xe, xc, xi⟩, xg⟩
  have hp := hp1.1.put ⟨⟨xe, xc, xi⟩, xg⟩
  have ht := hp1.2.trans hp.2
  obtain ⟨p0, p1, p2, p3⟩ := hp.1
  unfold putE at p0 p1 p2 p3 ht
  simp only at p0 p1 p2 p3 ht
  clear hp hp1
  have hbf := HB.out
  rw [← HBe.out] at hbf
  have hbl := Turned.below_of (hbf.trans (S3.out.mono hbf.size)) ht (by simp [HBe.out])
  exact bodyPost_ret (v := .tuple #[.agg #[.int .i64 xe, .int .i64 xc, .int .i64 xi, .int .i64 xg], .bool is, .int .i64 0]) (by simp [results, Tryz.results16, go_sem, p0, p1, p2, p3]) rfl ⟨rfl, hbl⟩
end Go.Proofs.YtmpbhoijkcanmaaGreat.R

/- Roots: a version that is neither held nor the newest one goes. -/
namespace Go.Proofs.YtmpbhoijkcanmaaGreat.R
open Go.ChangeShapes Go.WideShapes Go.ChangeAt Go.RowKit Go.Maps Go.Proofs.YtmpbhoijkcanmaaGreat.G Go.Joins
set_option linter.unusedVariables false
set_option linter.unusedSimpArgs false
set_option linter.unnecessarySimpa false

variable {w ww w' : World} {rb L T n : Nat} {R : Ro} {F G : Fo} {Kx : List (Nat × Obj)} {f mb : Nat} {mo : Obj} {blk : Nat → Nat}
theorem RtA.lessK {x : Nat × Obj} (h : RtA w ww rb L R F (x :: Kx) f mb mo blk) : RtA w ww rb L R F Kx f mb mo blk := by
  have a := h.apart
  refine ⟨lk_mk (h.lk.1.sub fun y hy => ?_) ?_, h.map, h.rb0, h.mb0, h.vb0⟩
  · simp only [List.mem_cons, List.mem_append] at hy ⊢
    rcases hy with h | h | h | h
    · exact .inl h
    · exact .inr (.inl h)
    · exact .inr (.inr (.inl h))
    · exact .inr (.inr (.inr (.inr h)))
  · have hx := a.xx
    have e : keysK (x :: Kx) = x.1 :: keysK Kx := rfl
    rw [e] at hx a
    exact ⟨a.rm, a.rv, fun h => a.rx (List.mem_cons_of_mem _ h), a.mv, fun h => a.mx (List.mem_cons_of_mem _ h), a.vv, (List.nodup_cons.1 hx).2, fun c hc h => a.vx c hc (List.mem_cons_of_mem _ h)⟩
theorem keys_vdel {vs : List (Nat × Vr)} {n k : Nat} : k ∈ keysV (vdel vs n) ↔ k ∈ keysV vs ∧ k ≠ n := by
  unfold keysV vdel
  rw [List.mem_map, List.mem_map]
  constructor
  · rintro ⟨x, hx, rfl⟩
    obtain ⟨h1, h2⟩ := List.mem_filter.1 hx
    exact ⟨⟨x, h1, rfl⟩, by simpa using h2⟩
  · rintro ⟨⟨x, hx, rfl⟩, h⟩
    exact ⟨x, List.mem_filter.2 ⟨hx, by simpa using h⟩, rfl⟩
theorem RtA.delV2 (h : RtA w ww rb L R F Kx f mb mo blk) {v : Vr} (hv : vget R.vs n = some v) (t : Turned [mb] ww w') (hm : MapIs Tryz.prog 23 encU w' mb (mdel (vL blk R.vs) n)) : ∃ mo', RtA w w' rb L ⟨vdel R.vs n, R.now⟩ F ((blk n, vobj v) :: Kx) f mb mo' blk := by
  have a := h.apart
  have hn : n ∈ keysV R.vs := List.mem_map_of_mem (vget_some hv)
  have hbn : blk n ∈ (keysV R.vs).map blk := List.mem_map_of_mem hn
  have hvk : (blk n, vobj v) ∈ vK blk R.vs := List.mem_map.2 ⟨_, vget_some hv, rfl⟩
  obtain ⟨mo', hmo⟩ := at_some hm.lt
  have sub : ∀ x, x ∈ vdel R.vs n → x ∈ R.vs := fun x hx => (List.mem_filter.1 hx).1
  have eL : vL blk (vdel R.vs n) = mdel (vL blk R.vs) n := by
    unfold vL vdel mdel
    rw [List.filter_map]
    rfl
  have subk : ∀ b, b ∈ (keysV (vdel R.vs n)).map blk → b ∈ (keysV R.vs).map blk := fun b hb => by
    obtain ⟨k, hk, rfl⟩ := List.mem_map.1 hb
    exact List.mem_map_of_mem (keys_vdel.1 hk).1
  have old : ∀ x, x ∈ vK blk R.vs ++ Kx → w'.heap[x.1]? = some x.2 ∧ (ww.heap.size ≤ x.1 ∨ x.1 ∈ keysK ((rb, robj f mb R.now) :: (mb, mo) :: (vK blk R.vs ++ Kx))) := fun x hx => by
    have hin : x ∈ ((rb, robj f mb R.now) :: (mb, mo) :: (vK blk R.vs ++ Kx)) := List.mem_cons_of_mem _ (List.mem_cons_of_mem _ hx)
    have hne : x.1 ≠ mb := fun e => by
      rcases List.mem_append.1 hx with hx | hx
      · exact a.mv (by rw [← e, ← keys_vK]; exact List.mem_map_of_mem hx)
      · exact a.mx (by rw [← e]; exact List.mem_map_of_mem hx)
    exact ⟨t.at (h.lk.1.at hin) (by simpa using hne), .inr (List.mem_map_of_mem hin)⟩
  refine ⟨mo', lk_mk (R := ⟨vdel R.vs n, R.now⟩) (h.lk.1.turn t (fun b hb => ?_) fun x hx => ?_) ?_, ?_, h.rb0, h.mb0, fun x hx => h.vb0 x (sub x hx)⟩
  · simp only [List.mem_singleton] at hb; subst hb
    exact ⟨h.mb0, by simp [keysK]⟩
  · rcases List.mem_cons.1 hx with rfl | hx
    · exact ⟨t.at h.rob (by simpa using a.rm), .inr (by simp [keysK])⟩
    rcases List.mem_cons.1 hx with rfl | hx
    · exact ⟨hmo, .inr (by simp [keysK])⟩
    refine old x ?_
    rcases List.mem_append.1 hx with hx | hx
    · obtain ⟨y, hy, rfl⟩ := List.mem_map.1 hx
      exact List.mem_append.2 (.inl (List.mem_map.2 ⟨y, sub y hy, rfl⟩))
    rcases List.mem_cons.1 hx with rfl | hx
    · exact List.mem_append.2 (.inl hvk)
    · exact List.mem_append.2 (.inr hx)
  · have e : keysK ((blk n, vobj v) :: Kx) = blk n :: keysK Kx := rfl
    rw [e]
    have hnot : blk n ∉ (keysV (vdel R.vs n)).map blk := fun hm => by
      obtain ⟨k, hk, e⟩ := List.mem_map.1 hm
      obtain ⟨h1, h2⟩ := keys_vdel.1 hk
      exact h2 (inj_blk a.vv h1 hn e)
    have hvv : ((keysV (vdel R.vs n)).map blk).Sublist ((keysV R.vs).map blk) := ((List.filter_sublist (l := R.vs)).map _).map _
    refine ⟨a.rm, fun hx => a.rv (subk _ hx), ?_, fun hx => a.mv (subk _ hx), ?_, a.vv.sublist hvv, List.nodup_cons.2 ⟨a.vx _ hbn, a.xx⟩, fun c hc hx => ?_⟩
    · simp only [List.mem_cons, not_or]; exact ⟨fun e => a.rv (by rw [e]; exact hbn), a.rx⟩
    · simp only [List.mem_cons, not_or]; exact ⟨fun e => a.mv (by rw [e]; exact hbn), a.mx⟩
    · rcases List.mem_cons.1 hx with rfl | hx
      · exact hnot hc
      · exact a.vx c (subk c hc) hx
  · show MapIs Tryz.prog 23 encU w' mb (vL blk (vdel R.vs n))
    rw [eL]; exact hm
/-- what came of a sweep -/
def Sw (R : Ro) (F : Fo) (L n : Nat) (v : Vr) (R' : Ro) (G : Fo) (ys : List Slot) : Prop :=
  ((n = R.now ∨ 0 < v.held) ∧ R' = R ∧ G = F ∧ ys = []) ∨ ((n ≠ R.now ∧ v.held = 0) ∧ R' = ⟨vdel R.vs n, R.now⟩ ∧ DropIs F L v.root G ys)
def sweepPost (w ww : World) (rb L : Nat) (R : Ro) (F : Fo) (Kx : List (Nat × Obj)) (f mb : Nat) (blk : Nat → Nat) (n : Nat) (v : Vr) (e : Ending) (w' : World) : Prop :=
  ∃ (a : Option Addr) (len cap : Nat) (R' : Ro) (G : Fo) (ys : List Slot) (mo' : Obj), len = ys.length ∧ e = .returned (.slice a len cap) ∧ Sw R F L n v R' G ys ∧ w'.ownsRow w.heap.size 45 3 (.slice a len cap) len (flat ys) ∧ RtA w w' rb L R' G Kx f mb mo' blk
theorem sweep_keep (h : RtA w ww rb L R F Kx f mb mo blk) {v : Vr} (hk : n = R.now ∨ 0 < v.held) : sweepPost w ww rb L R F Kx f mb blk n v (.returned (.slice none 0 0)) ww :=
  ⟨none, 0, 0, R, F, [], mo, rfl, rfl, .inl ⟨hk, rfl, rfl, rfl⟩, ⟨rfl, .inl ⟨rfl, rfl⟩⟩, h⟩
set_option maxRecDepth 100000 in
set_option maxHeartbeats 1000000 in
theorem rsweep_fn (h : RtA w ww rb L R F Kx f mb mo blk) (hL : L ≤ 2 ^ 34) (hn : n < 2 ^ 64) {v : Vr} (hv : vget R.vs n = some v) (hr : isB F (v.root : Int) = true) : Calls Tryz.prog 39 #[.pointer (some ⟨rb, 0, none⟩), .int .u64 (n : Nat)] ww (sweepPost w ww rb L R F Kx f mb blk n v) := by
  obtain ⟨v0, hd⟩ := v
  have hrd := h.reads hn hv
  have c2 := h.c2
  have HK : Hid (∀ n', n' = R.now ∨ 0 < hd → n' = n → sweepPost w ww rb L R F Kx f mb blk n ⟨v0, hd⟩ (.returned (.slice none 0 0)) ww) := fun n' hk e => sweep_keep h (e ▸ hk)
  obtain ⟨bn, hbn⟩ : ∃ bn, blk n = bn := ⟨_, rfl⟩
  rw [hbn] at hrd
  obtain ⟨c0, c1, hlk, d0, d1⟩ := hrd
  obtain ⟨nw, hnw⟩ : ∃ nw, R.now = nw := ⟨_, rfl⟩
  rw [hnw] at c2
  have HNw := Lib.hid hnw
  by_cases hen : n = nw
  · have hbq : ((n : Int) == (nw : Int)) = true := by simp [hen]
    have HP := Lib.hid (HK.out n (.inl (hen.trans hnw.symm)) rfl)
    clear h hv hr hbn hnw hen
    go_enter Tryz.func39, Tryz.ntmps39
    go_wp2
    go_ret
    exact HP.out
  have hbq : ((n : Int) == (nw : Int)) = false := by simp; omega
  by_cases hh : 0 < hd
  · have hbd : decide (0 < hd) = true := by simpa using hh
    have HP := Lib.hid (HK.out n (.inr hh) rfl)
    clear h hv hr hbn hnw hen
    go_enter Tryz.func39, Tryz.ntmps39
    go_wp2
    go_ret
    exact HP.out
  have hbd : decide (0 < hd) = false := by simpa using hh
  obtain ⟨ky, hky⟩ := keyU n hn
  have HKy := Lib.hid hky
  have HM := Lib.hid h.map
  have HD : Hid (∀ w2, MapIs Tryz.prog 23 encU w2 mb (mdel (vL blk R.vs) n) → Turned [mb] ww w2 → w2.cell? ⟨rb, 0, none⟩ = some (.pointer (some ⟨f, 0, none⟩)) ∧ w2.cell? ⟨bn, 0, none⟩ = some (.int .i64 (v0 : Nat)) ∧ ∃ mo', RtA w w2 rb L ⟨vdel R.vs n, R.now⟩ F ((bn, vobj ⟨v0, hd⟩) :: Kx) f mb mo' blk) := fun w2 hm ht => by
    obtain ⟨mo', h2⟩ := h.delV2 hv ht hm
    rw [hbn] at h2
    have hb := h2.lk.1.at (x := (bn, vobj ⟨v0, hd⟩)) (by simp)
    exact ⟨h2.c0, by simp [World.cell?, hb], mo', h2⟩
  have CD : Hid (∀ w2 mo', RtA w w2 rb L ⟨vdel R.vs n, R.now⟩ F ((bn, vobj ⟨v0, hd⟩) :: Kx) f mb mo' blk → Calls Tryz.prog 38 #[.pointer (some ⟨f, 0, none⟩), .int .i64 (v0 : Nat)] w2.drew fun e w' => ∃ a len cap, e = .returned (.tuple #[.slice a len cap, .int .i64 0]) ∧ w'.cell? ⟨rb, 0, none⟩ = some (.pointer (some ⟨f, 0, none⟩)) ∧ w'.cell? ⟨bn, 0, none⟩ = some (.int .i64 (v0 : Nat)) ∧ sweepPost w ww rb L R F Kx f mb blk n ⟨v0, hd⟩ (.returned (.slice a len cap)) w') := fun w2 mo' h2 => by
    refine (drop_lv h2.drew.lk.1 hL hr).mono fun e w' ⟨v, G, ys, e1, e2, e3, e4⟩ => ?_
    obtain ⟨a, cap, rfl⟩ := slice_of_owns e3
    have h3 := h2.drew.fo e4
    have hb := h3.lk.1.at (x := (bn, vobj ⟨v0, hd⟩)) (by simp)
    exact ⟨a, _, cap, e1, h3.c0, by simp [World.cell?, hb], a, _, cap, _, G, ys, mo', rfl, rfl, .inr ⟨⟨fun e => hen (e.trans hnw), by simp only; omega⟩, rfl, e2⟩, owns_mono e3 h2.bel.size, h3.lessK⟩
  clear h hv hr hnw hen hh hky hbn HK
  go_enter Tryz.func39, Tryz.ntmps39
  go_upto_region 5 with (at_delete; refine wp_del _ rfl _ _ 74 23 rfl keyedU encU_inj Tryz.underlying74 mb (vL blk R.vs) rfl HM.out n rfl HKy.out ?_; intro w2 hm2 ht2; obtain ⟨k0, k1, mo', hRt⟩ := HD.out w2 hm2 ht2; have HRt := Lib.hid hRt; clear hm2 ht2 hRt c0 c1 c2 d0 d1 hlk)
  go_region_held3 (fun w' => w'.cell? ⟨rb, 0, none⟩ = some (.pointer (some ⟨f, 0, none⟩)) ∧ w'.cell? ⟨bn, 0, none⟩ = some (.int .i64 (v0 : Nat))) (first | exact K3.out | go_keep)
    (first
      | (go_at_call 38; ((with_reducible refine (CD.out _ _ HRt.out).mono ?_); rintro e w3 ⟨a3, len3, cap3, rfl, h0, h1, hp⟩; have K3 := Lib.hid (And.intro h0 h1); have HP := Lib.hid hp; clear h0 h1 hp)))
  go_wp2
  go_ret
  exact HP.out
end Go.Proofs.YtmpbhoijkcanmaaGreat.R

/- Roots: a version is held once less. -/
namespace Go.Proofs.YtmpbhoijkcanmaaGreat.R
open Go.ChangeShapes Go.WideShapes Go.ChangeAt Go.RowKit Go.Maps Go.Proofs.YtmpbhoijkcanmaaGreat.G Go.Joins
set_option linter.unusedVariables false
set_option linter.unusedSimpArgs false
set_option linter.unnecessarySimpa false

variable {w ww w' : World} {rb L T n : Nat} {R : Ro} {F G : Fo} {Kx : List (Nat × Obj)} {f mb : Nat} {mo : Obj} {blk : Nat → Nat}
set_option maxRecDepth 100000 in
theorem rrel_none (h : RtA w ww rb L R F Kx f mb mo blk) (hn : n < 2 ^ 64) (hv : vget R.vs n = none) : Calls Tryz.prog 22 #[.pointer (some ⟨rb, 0, none⟩), .int .u64 (n : Nat)] ww fun e w' => e = .returned (.tuple #[.slice none 0 0, .int .i64 3]) ∧ ww = w' := by
  have c1 := h.c1
  have hlk := h.look hn
  rw [hv] at hlk
  have CN := Lib.hid (rnone_fn h)
  clear h hv
  go_enter Tryz.func22, Tryz.ntmps22
  go_wp2_with (go_at_call 28; ((with_reducible refine CN.out.mono ?_); rintro e ww ⟨rfl, rfl⟩))
  go_ret2
  exact ⟨rfl, rfl⟩
set_option maxRecDepth 100000 in
theorem rrel_zero (h : RtA w ww rb L R F Kx f mb mo blk) (hn : n < 2 ^ 64) {v : Vr} (hv : vget R.vs n = some v) (h0 : v.held = 0) : Calls Tryz.prog 22 #[.pointer (some ⟨rb, 0, none⟩), .int .u64 (n : Nat)] ww fun e w' => e = .returned (.tuple #[.slice none 0 0, .int .i64 3]) ∧ ww = w' := by
  obtain ⟨v0, hd⟩ := v
  obtain rfl : hd = 0 := h0
  obtain ⟨c0, c1, hlk, d0, d1⟩ := h.reads hn hv
  have CN := Lib.hid (rnone_fn h)
  obtain ⟨bn, hbn⟩ : ∃ bn, blk n = bn := ⟨_, rfl⟩
  rw [hbn] at hlk d0 d1
  clear h hv hbn
  go_enter Tryz.func22, Tryz.ntmps22
  go_wp2_with (go_at_call 28; ((with_reducible refine CN.out.mono ?_); rintro e ww ⟨rfl, rfl⟩))
  go_ret2
  exact ⟨rfl, rfl⟩
def relPost (w ww : World) (rb L : Nat) (R : Ro) (F : Fo) (Kx : List (Nat × Obj)) (f mb : Nat) (blk : Nat → Nat) (n : Nat) (v : Vr) (e : Ending) (w' : World) : Prop :=
  ∃ (a : Option Addr) (len cap : Nat) (R' : Ro) (G : Fo) (ys : List Slot) (mo' : Obj), len = ys.length ∧ e = .returned (.tuple #[.slice a len cap, .int .i64 0]) ∧ Sw R F L n v R' G ys ∧ w'.ownsRow w.heap.size 45 3 (.slice a len cap) len (flat ys) ∧ RtA w w' rb L R' G Kx f mb mo' blk
theorem cast_pred (n : Nat) : (Value.int .i64 (((n + 1 : Nat) : Int) - 1)) = .int .i64 (n : Nat) := by
  rw [Int.natCast_add, show ((n : Int) + ((1 : Nat) : Int) - 1) = (n : Int) by omega]
theorem vget_vset {vs : List (Nat × Vr)} (hn : (keysV vs).Nodup) {n : Nat} {v u : Vr} (hv : vget vs n = some v) : vget (vset vs n u) n = some u :=
  vget_mem (by rw [keys_vset]; exact hn) (mem_vset.2 (.inl ⟨rfl, List.mem_map_of_mem (vget_some hv)⟩))
set_option maxRecDepth 100000 in
set_option maxHeartbeats 1000000 in
theorem rrel_yes (h : RtA w ww rb L R F Kx f mb mo blk) (hL : L ≤ 2 ^ 34) (hn : n < 2 ^ 64) (hk : (keysV R.vs).Nodup) {v : Vr} (hv : vget R.vs n = some v) {hd : Nat} (hh : v.held = hd + 1) (hs : v.held ≤ 2 ^ 40) (hr : isB F (v.root : Int) = true) :
    Calls Tryz.prog 22 #[.pointer (some ⟨rb, 0, none⟩), .int .u64 (n : Nat)] ww (relPost w ww rb L ⟨vset R.vs n ⟨v.root, hd⟩, R.now⟩ F Kx f mb blk n ⟨v.root, hd⟩) := by
  obtain ⟨v0, hd'⟩ := v
  obtain rfl : hd' = hd + 1 := hh
  obtain ⟨c0, c1, hlk, d0, d1⟩ := h.reads hn hv
  have f1 := h.vfz hv 1
  have CN := Lib.hid (rnone_fn h)
  have CS : Hid (Calls Tryz.prog 39 #[.pointer (some ⟨rb, 0, none⟩), .int .u64 (n : Nat)] (ww.setCell ⟨blk n, 1, none⟩ (.int .i64 (hd : Nat))) (sweepPost w (ww.setCell ⟨blk n, 1, none⟩ (.int .i64 (hd : Nat))) rb L ⟨vset R.vs n ⟨v0, hd⟩, R.now⟩ F Kx f mb blk n ⟨v0, hd⟩)) :=
    rsweep_fn (h.setHeld hv hd) hL hn (vget_vset hk hv) hr
  obtain ⟨bn, hbn⟩ : ∃ bn, blk n = bn := ⟨_, rfl⟩
  rw [hbn] at hlk d0 d1 f1 CS
  have hbe : (((hd : Nat) : Int) + 1 == 0) = false := by simp; omega
  have hsm : hd ≤ 2 ^ 40 := by simp only at hs; omega
  rw [Int.natCast_add, show (((1 : Nat)) : Int) = 1 from rfl] at d1
  clear h hv hbn hs hk
  go_enter Tryz.func22, Tryz.ntmps22
  go_wp2_with (first
    | (go_at_call 28; ((with_reducible refine CN.out.mono ?_); rintro e ww ⟨rfl, rfl⟩))
    | (go_at_call 39; ((with_reducible refine CS.out.mono ?_); rintro e w3 ⟨a, len, cap, R', G, ys, mo', hl, rfl, h1, h2, h3⟩; have S3 := Lib.hid (And.intro hl (And.intro h1 (And.intro h2 h3))); clear hl h1 h2 h3)))
  go_ret2
  exact ⟨a, len, cap, R', G, ys, mo', S3.out.1, rfl, S3.out.2.1, S3.out.2.2.1, S3.out.2.2.2⟩
end Go.Proofs.YtmpbhoijkcanmaaGreat.R
