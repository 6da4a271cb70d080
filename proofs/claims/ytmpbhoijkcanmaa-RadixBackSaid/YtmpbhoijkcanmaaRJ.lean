/- Radix: roots that are held; Set, Get, Hold, Nodes. -/
import Derived.Test.YtmpbhoijkcanmaaRI
namespace Go.Proofs.Ytmpbhoijkcanmaa.R
open Go.ChangeShapes Go.WideShapes Go.ChangeAt Go.RowKit Go.Maps Go.Proofs.Ytmpbhoijkcanmaa.G
set_option linter.unusedVariables false
set_option linter.unusedSimpArgs false
set_option linter.unnecessarySimpa false

variable {w w' : World} {p p' : Pf} {F G : Fo} {pend : Nat → Nat} {pendS : Slot → Nat}
/-- a root is held once more -/
def madeF (F : Fo) (r : Nat) : Fo := if r = 0 then F else { setNd F r (setRefs (F.nd r) ((F.nd r).refs + 1)) with held := mput F.held (r : Int) (.int .i64 (cnt F.held (r : Int) + 1 : Nat)) }
theorem madeF_zero (F : Fo) : madeF F 0 = F := if_pos rfl
theorem madeF_pos (F : Fo) {r : Nat} (h : r ≠ 0) : madeF F r = { setNd F r (setRefs (F.nd r) ((F.nd r).refs + 1)) with held := mput F.held (r : Int) (.int .i64 (cnt F.held (r : Int) + 1 : Nat)) } := if_neg h
theorem madeF_ids (F : Fo) (r : Nat) : (madeF F r).ids = F.ids := by unfold madeF; split <;> rfl
theorem madeF_last (F : Fo) (r : Nat) : (madeF F r).last = F.last := by unfold madeF; split <;> rfl
theorem madeF_lev (F : Fo) (r : Nat) : (madeF F r).lev = F.lev := by unfold madeF; split <;> rfl
theorem madeF_sl (F : Fo) (r : Nat) : (madeF F r).sl = F.sl := by unfold madeF; split <;> rfl
theorem madeF_nd (F : Fo) (r i : Nat) : ((madeF F r).nd i).kids = (F.nd i).kids ∧ ((madeF F r).nd i).ents = (F.nd i).ents ∧ ((madeF F r).nd i).bits = (F.nd i).bits ∧ ((madeF F r).nd i).refs = (F.nd i).refs + if r ≠ 0 ∧ i = r then 1 else 0 := by
  unfold madeF
  by_cases h : r = 0
  · rw [if_pos h]; simp [h]
  · rw [if_neg h]
    show ((upN _ _ _ i).kids = _) ∧ ((upN _ _ _ i).ents = _) ∧ ((upN _ _ _ i).bits = _) ∧ ((upN _ _ _ i).refs = _)
    unfold upN
    by_cases e : i = r
    · subst e; simp [setRefs, h]
    · simp [e]
theorem madeF_held (F : Fo) (r : Nat) (i : Int) : cnt (madeF F r).held i = cnt F.held i + if r ≠ 0 ∧ i = r then 1 else 0 := by
  unfold madeF
  by_cases h : r = 0
  · rw [if_pos h]; simp [h]
  · rw [if_neg h]
    show cnt (mput F.held (r : Int) _) i = _
    rw [cnt_put]
    by_cases e : i = r
    · subst e; simp [h]
    · simp [e]
theorem madeF_ext (F : Fo) (r : Nat) : Ext F (madeF F r) :=
  ⟨fun i h => by rw [madeF_ids]; exact h, fun i _ => (madeF_nd F r i).1, fun i _ => (madeF_nd F r i).2.1, fun i _ => (madeF_nd F r i).2.2.1, fun i _ => by rw [madeF_lev]⟩
theorem refc_same {F G : Fo} (hi : G.ids = F.ids) (hk : ∀ i, i ∈ F.ids → (G.nd i).kids = (F.nd i).kids) (i : Nat) : refc G i = refc F i := by
  unfold refc
  rw [hi]
  exact sum_congr fun m hm => by rw [hk m hm]
theorem slc_same {F G : Fo} (hi : G.ids = F.ids) (hk : ∀ i, i ∈ F.ids → (G.nd i).ents = (F.nd i).ents) (hb : ∀ i, i ∈ F.ids → (G.nd i).bits = (F.nd i).bits) (s : Slot) : slc G s = slc F s := by
  unfold slc
  rw [hi]
  exact sum_congr fun m hm => by unfold slHits; rw [hk m hm, hb m hm]
theorem Inv.made {exc r : Nat} (h : Inv F pend pendS exc) (hr : r = 0 ∨ (r ∈ F.ids ∧ F.lev r = 0)) (he : exc = 0 ∨ exc = r) : Inv (madeF F r) pend pendS 0 := by
  have e := madeF_ext F r
  refine ⟨by rw [madeF_ids]; exact h.nd, fun i hi => ?_, fun i hi => ?_, fun i hi => ?_, fun i hi => ?_, fun i hi => ?_, fun q hq => ?_, fun s => ?_, fun i hi => ?_⟩
  · rw [madeF_ids] at hi; rw [madeF_last]; exact h.pos i hi
  · rw [madeF_ids] at hi; rw [madeF_lev]; exact h.lev i hi
  · rw [madeF_ids] at hi; rw [madeF_lev]
    exact ((h.ok i hi).ext e).same (e.kids i hi) (e.ents i hi) (e.bits i hi)
  · rw [madeF_ids] at hi; rw [emptyB_same (e.kids i hi) (e.bits i hi)]; exact h.full i hi
  · rw [madeF_ids] at hi
    rw [(madeF_nd F r i).2.2.2, madeF_held, refc_same (madeF_ids F r) e.kids, h.refs i hi]
    have : ((i : Int) = r) ↔ i = r := by omega
    simp only [this]
    omega
  · rw [madeF_held] at hq
    by_cases hc : r ≠ 0 ∧ q = r
    · rcases hr with h0 | ⟨h1, h2⟩
      · exact absurd h0 hc.1
      · exact ⟨r, hc.2, by rw [madeF_ids]; exact h1, by rw [madeF_lev]; exact h2⟩
    · rw [if_neg hc] at hq
      obtain ⟨n, e1, e2, e3⟩ := h.held q hq
      exact ⟨n, e1, by rw [madeF_ids]; exact e2, by rw [madeF_lev]; exact e3⟩
  · rw [madeF_sl, slc_same (madeF_ids F r) e.ents e.bits]; exact h.sls s
  · rw [madeF_ids] at hi
    left
    rw [(madeF_nd F r i).2.2.2]
    have hp := (h.pos i hi).1
    rcases h.live i hi with h' | h'
    · omega
    · rcases he with he | he
      · omega
      · rw [if_pos ⟨by omega, by omega⟩]; omega

/-- the answer of Set and Clear: a root, an error; the forest -/
def madePost (p : Pf) (F : Fo) (r : Nat) (w : World) (e : Ending) (w' : World) : Prop := e = .returned (.int .i64 (r : Nat)) ∧ FoAt w' p (madeF F r) ∧ FoOwn p F w w'
set_option maxRecDepth 100000 in
set_option maxHeartbeats 1000000 in
theorem made_fn (r : Nat) (hr : r = 0 ∨ r ∈ F.ids) (hr60 : r < 2 ^ 60) (hb : cnt F.held (r : Int) ≤ 2 ^ 45) (hb2 : r ∈ F.ids → (F.nd r).refs ≤ 2 ^ 46) (w : World) (h : FoAt w p F) :
    Calls Try.prog 40 #[.pointer (some ⟨p.f, 0, none⟩), .int .i64 (r : Nat)] w (madePost p F r w) := by
  by_cases h0 : r = 0
  · subst h0
    have HF := Lib.hid h
    clear h
    go_enter Try.func40, Try.ntmps40
    go_wp2
    go_ret
    exact ⟨rfl, by rw [madeF_zero]; exact HF.out, FoOwn.of (Turned.refl [] w)⟩
  · have hm := hr.resolve_left h0
    have hb2 := hb2 hm
    have hne : ((r : Int) != 0) = true := by simpa using h0
    have c1 := h.c1
    have hL := h.look_held r (by unfold I64; omega)
    obtain ⟨kk, hkk⟩ := keyI (r : Nat) (by unfold I64; omega)
    have HKK := Lib.hid hkk
    have HM := Lib.hid h.held
    have HS : Hid (∀ w2, MapIs Try.prog 3 encI w2 p.h (mput F.held (r : Int) (.int .i64 ((cnt F.held (r : Int) : Int) + 1))) → Turned [p.h] w w2 →
        w2.cell? ⟨p.f, 0, none⟩ = some (.map (some p.m)) ∧ (Instr.lookup 86 (.map (some p.m)) (.int .i64 (r : Nat)) false).run Try.prog w2 = .ok (.pointer (some ⟨p.blk r, 0, none⟩)) w2 ∧ w2.cell? ⟨p.blk r, 81, none⟩ = some (.int .i64 ((F.nd r).refs : Nat)) ∧ w2.frozen? ⟨p.blk r, 81, none⟩ = false ∧
        FoAt (w2.setCell ⟨p.blk r, 81, none⟩ (.int .i64 (((F.nd r).refs : Int) + 1))) p (madeF F r) ∧ FoOwn p F w (w2.setCell ⟨p.blk r, 81, none⟩ (.int .i64 (((F.nd r).refs : Int) + 1)))) := by
      intro w2 hm2 ht2
      have e1 : ((cnt F.held (r : Int) : Int) + 1) = ((cnt F.held (r : Int) + 1 : Nat) : Int) := by omega
      have e2 : (((F.nd r).refs : Int) + 1) = (((F.nd r).refs + 1 : Nat) : Int) := by omega
      rw [e1] at hm2
      have hF2 := h.setHeld hm2 (h.nh.put _ _ (by omega) (by omega)) ht2
      have hN := hF2.nd r hm
      have ht3 : Turned [p.blk r] w2 (w2.setCell ⟨p.blk r, 81, none⟩ (.int .i64 (((F.nd r).refs + 1 : Nat) : Int))) := (Turned.refl [p.blk r] w2).setCell (p := ⟨p.blk r, 81, none⟩) (.inl (by simp)) _
      rw [e2]
      refine ⟨hF2.c0, hF2.look_node r hr60 hm, hN.refs, hN.frozen 81, ?_, ((FoOwn.of (p := p) (F := F) (Turned.refl [] w)).step ht2 (fun b hb => by simp at hb; subst hb; exact .inr (.inr (.inr (.inl rfl))))).step ht3 (fun b hb => by simp at hb; subst hb; exact .inr (.inr (.inr (.inr (.inr ⟨r, hm, rfl⟩)))))⟩
      rw [madeF_pos F h0]
      exact hF2.setNd r hm _ (hN.setRefs _) ht3
    clear h h0 hkk hr hm
    obtain ⟨R, hR⟩ : ∃ R, (F.nd r).refs = R := ⟨_, rfl⟩
    rw [hR] at HS hb2
    have hb3 : (R : Int) ≤ 70368744177664 := by omega
    clear hR hb2
    generalize cnt F.held (r : Int) = C at *
    go_enter Try.func40, Try.ntmps40
    go_wp2_with (at_mapUpdate; refine wp_put _ rfl _ _ _ 87 rfl keyedI encI_inj Try.underlying87 p.h F.held rfl HM.out (r : Int) rfl _ rfl HKK.out ?_; intro w2 hm2 ht2; obtain ⟨d0, d1, d2, d3, d4, d5⟩ := HS.out w2 hm2 ht2; have HE := Lib.hid (And.intro d4 d5); clear hm2 ht2 d4 d5)
    go_ret
    exact ⟨rfl, HE.out.1, HE.out.2⟩

theorem isB_iff (F : Fo) (r : Nat) : isB F (r : Int) = true ↔ r = 0 ∨ 0 < cnt F.held (r : Int) := by
  unfold isB
  simp
theorem Inv.root {exc r : Nat} (h : Inv F pend pendS exc) (hr : isB F (r : Int) = true) : r = 0 ∨ (r ∈ F.ids ∧ F.lev r = 0) := by
  rcases (isB_iff F r).1 hr with h0 | h0
  · exact .inl h0
  · obtain ⟨n, e, h1, h2⟩ := h.held _ h0
    obtain rfl : r = n := by omega
    exact .inr ⟨h1, h2⟩
/-- a map is made, and held -/
def setF (F : Fo) (r pg : Nat) (c : Chg) : Fo × Nat := (madeF (alongF 2 F r pg c).1 (alongF 2 F r pg c).2, (alongF 2 F r pg c).2)
def ansPost (p : Pf) (F : Fo) (R : Fo × Nat) (w : World) (e : Ending) (w' : World) : Prop := e = .returned (.tuple #[.int .i64 (R.2 : Nat), .int .i64 0]) ∧ (∃ p', FoAt w' p' R.1 ∧ Moved p p' F R.1 w) ∧ FoOwn p F w w'
/-- what is known of a forest between calls; how far its numbers may have risen -/
structure Ok (F : Fo) (L : Nat) : Prop where
  inv : Inv F (fun _ => 0) (fun _ => 0) 0
  last : F.last ≤ L
  held : ∀ r, cnt F.held r ≤ L
theorem Ok.small {L : Nat} (h : Ok F L) (hL : L ≤ 2 ^ 38) : Small F (fun _ => 0) (fun _ => 0) := ⟨by have := h.last; omega, fun r => by have := h.held r; omega, fun _ => Nat.zero_le _, fun _ => Nat.zero_le _⟩
/-- what came of Set, or Clear -/
structure SetIs (F : Fo) (L r pg : Nat) (c : Chg) (R : Fo × Nat) : Prop where
  ok : Ok R.1 (L + 3)
  root : R.2 = 0 ∨ (R.2 ∈ R.1.ids ∧ R.1.lev R.2 = 0)
  new : R.2 = 0 ∨ F.last < R.2
  ext : Ext F R.1
  held : ∀ i : Int, cnt R.1.held i = cnt F.held i + if R.2 ≠ 0 ∧ i = R.2 then 1 else 0
  len : R.1.ids.length ≤ F.ids.length + 3
  get : ∀ q, q < 4096 → getL 2 R.1 R.2 q = if q = pg then c.res else getL 2 F r q
theorem setF_is {L : Nat} (h : Ok F L) (hL : L ≤ 2 ^ 38) {r pg : Nat} (hr : r = 0 ∨ (r ∈ F.ids ∧ F.lev r = 0)) (hpg : pg < 4096) (c : Chg) (hc : c.ok) : SetIs F L r pg c (setF F r pg c) := by
  have hs := h.small hL
  have his := along_is 2 (by omega) F _ _ r pg c h.inv hs (by have := h.last; omega) (fun _ _ => rfl) hr hc
  unfold setF
  obtain ⟨R, hR⟩ : ∃ R, alongF 2 F r pg c = R := ⟨_, rfl⟩
  rw [hR] at his ⊢
  have e := madeF_ext R.1 R.2
  have hroot : R.2 = 0 ∨ (R.2 ∈ R.1.ids ∧ R.1.lev R.2 = 0) := his.root
  refine ⟨⟨his.inv.made hroot (.inr rfl), ?_, fun i => ?_⟩, hroot.imp id (fun ⟨a, b⟩ => ⟨e.mem _ a, (e.lev _ a).trans b⟩), his.new, his.ext.trans e, fun i => ?_, ?_, fun q hq => ?_⟩
  · show (madeF R.1 R.2).last ≤ _
    rw [madeF_last]; have := his.last.2; have := h.last; omega
  · show cnt (madeF R.1 R.2).held i ≤ _
    rw [madeF_held, his.held]; have := h.held i; split <;> omega
  · show cnt (madeF R.1 R.2).held i = _
    rw [madeF_held, his.held]
  · show (madeF R.1 R.2).ids.length ≤ _
    rw [madeF_ids]; exact his.len
  · show getL 2 (madeF R.1 R.2) R.2 q = _
    rw [getL_ext his.inv e 2 R.2 q (hroot.imp id (fun h => h.1)), his.get q]
    have e1 : q % 16 ^ (2 + 1) = q := Nat.mod_eq_of_lt (by omega)
    have e2 : pg % 16 ^ (2 + 1) = pg := Nat.mod_eq_of_lt (by omega)
    rw [e1, e2]
/-- along, then made -/
theorem set_step {L : Nat} (h : Ok F L) (hL : L ≤ 2 ^ 38) {r pg : Nat} (hr' : r = 0 ∨ (r ∈ F.ids ∧ F.lev r = 0)) (hpg : pg < 4096) (c : Chg) (hc : c.ok) (w : World) (hF : FoAt w p F) (hcw : c.At w) :
    Calls Try.prog 41 #[.pointer (some ⟨p.f, 0, none⟩), .int .i64 (r : Nat), .int .i64 (pg : Nat), .int .i64 0, c.val] w fun e w2 => e = .returned (.int .i64 ((setF F r pg c).2 : Nat)) ∧
      Calls Try.prog 40 #[.pointer (some ⟨p.f, 0, none⟩), .int .i64 ((setF F r pg c).2 : Nat)] w2 fun e w3 => e = .returned (.int .i64 ((setF F r pg c).2 : Nat)) ∧ (∃ p', FoAt w3 p' (setF F r pg c).1 ∧ Moved p p' F (setF F r pg c).1 w) ∧ FoOwn p F w w3 := by
  have hs := h.small hL
  have his := along_is 2 (by omega) F _ _ r pg c h.inv hs (by have := h.last; omega) (fun _ _ => rfl) hr' hc
  have hC := alongS 1 (by omega) (alongS 0 (by omega) along0) p F _ _ r pg c w h.inv hs (by have := h.last; omega) (fun _ _ => rfl) hr' hc hpg hF hcw
  unfold setF
  obtain ⟨R, hR⟩ : ∃ R, alongF 2 F r pg c = R := ⟨_, rfl⟩
  rw [hR] at his hC ⊢
  refine hC.mono fun e w2 ⟨e1, ⟨p1, e2, e3⟩, e4⟩ => ⟨e1, ?_⟩
  have hs1 := hs.more (G := R.1) (by have := his.last.2; have := h.last; omega) his.held
  have hlt : R.2 < 2 ^ 60 := by
    rcases his.root with h0 | ⟨h1, _⟩
    · omega
    · have := (his.inv.pos _ h1).2; have := hs1.last; omega
  have hC2 := made_fn (p := p1) R.2 (his.root.imp id (fun h => h.1)) hlt (by rw [his.held]; have := h.held R.2; omega) (fun hm => by have := his.inv.refs_le hs1 R.2 hm; omega) w2 e2
  rw [e3.f] at hC2
  exact hC2.mono fun e w3 ⟨f1, f2, f3⟩ => ⟨f1, ⟨p1, f2, ⟨e3.f, e3.m, e3.h, e3.s, e3.old, fun i hi => e3.new i (by have hi' : i ∈ (madeF R.1 R.2).ids := hi; rw [madeF_ids] at hi'; exact hi')⟩⟩, e4.trans f3 e3⟩

set_option maxRecDepth 100000 in
set_option maxHeartbeats 1000000 in
theorem set_fn {L : Nat} (h : Ok F L) (hL : L ≤ 2 ^ 38) {r pg : Nat} (hr : isB F (r : Int) = true) (hpg : pg < 4096) (x : Ent) (hx : x.ok) (w : World) (hF : FoAt w p F) :
    Calls Try.prog 12 #[.pointer (some ⟨p.f, 0, none⟩), .int .i64 (r : Nat), .int .i64 (pg : Nat), encE x] w (ansPost p F (setF F r pg (.set w.heap.size x)) w) := by
  have hr' := h.inv.root hr
  have t1 := (Turned.refl [] w).alloc (.cells #[.int .i64 x.s.e, .int .i64 x.s.c, .int .i64 x.s.i, .int .i64 x.g] 33)
  have hAt : (Chg.set w.heap.size x).At (w.alloc (.cells #[.int .i64 x.s.e, .int .i64 x.s.c, .int .i64 x.s.i, .int .i64 x.g] 33)) := by
    have hnew := fun q u hq => cells_new w [.int .i64 x.s.e, .int .i64 x.s.c, .int .i64 x.s.i, .int .i64 x.g] 33 q u hq
    have n0 := hnew 0 _ rfl
    have n1 := hnew 1 _ rfl
    have n2 := hnew 2 _ rfl
    have n3 := hnew 3 _ rfl
    rw [Addr.add_mid, Nat.zero_add] at n0 n1 n2 n3
    exact ⟨n0, n1, n2, n3⟩
  have hC := set_step h hL hr' hpg (.set w.heap.size x) hx _ (hF.calm t1) hAt
  unfold Chg.val at hC
  have hlt : r < 2 ^ 60 := by
    rcases hr' with h0 | ⟨h1, _⟩
    · omega
    · have := (h.inv.pos _ h1).2; have := h.last; omega
  have CN := Lib.hid (none_fn _ (hF.calm t1))
  have CI := Lib.hid (is_fn (r : Int) (by unfold I64; omega) _ (hF.calm t1))
  rw [hr] at CI
  have CP : Hid (∀ w, Calls Try.prog 39 #[.int .i64 (pg : Nat)] w fun e w' => e = .returned (.bool true) ∧ w = w') := fun w => by
    have := page_fn (pg : Int) w
    rwa [show pageB (pg : Int) = true by unfold pageB; simp; omega] at this
  obtain ⟨R, hR⟩ : ∃ R, setF F r pg (.set w.heap.size x) = R := ⟨_, rfl⟩
  rw [hR] at hC ⊢
  have HE : Hid (∀ w3, (∃ p', FoAt w3 p' R.1 ∧ Moved p p' F R.1 (w.alloc (.cells #[.int .i64 x.s.e, .int .i64 x.s.c, .int .i64 x.s.i, .int .i64 x.g] 33))) ∧ FoOwn p F (w.alloc (.cells #[.int .i64 x.s.e, .int .i64 x.s.c, .int .i64 x.s.i, .int .i64 x.g] 33)) w3 → (∃ p', FoAt w3 p' R.1 ∧ Moved p p' F R.1 w) ∧ FoOwn p F w w3) := fun w3 ⟨⟨p', a, b⟩, c⟩ =>
    ⟨⟨p', a, ⟨b.f, b.m, b.h, b.s, b.old, fun i hi => (b.new i hi).imp id (fun h => Nat.le_trans t1.size h)⟩⟩, (FoOwn.of t1).trans c (Moved.refl p F w)⟩
  have HC := Lib.hid hC
  unfold encE
  obtain ⟨⟨xe, xc, xi⟩, xg⟩ := x
  simp only at HC HE CN CI
  clear h hL hr hpg hx hF hr' t1 hAt hC hR
  go_enter Try.func12, Try.ntmps12
  go_wp2_with (first
    | (go_at_call 37; ((with_reducible refine CN.out.mono ?_); rintro e ww ⟨rfl, rfl⟩))
    | (go_at_call 38; ((with_reducible refine CI.out.mono ?_); rintro e ww ⟨rfl, rfl⟩))
    | (go_at_call 39; ((with_reducible refine (CP.out _).mono ?_); rintro e ww ⟨rfl, rfl⟩))
    | (go_at_call 41; ((with_reducible refine HC.out.mono ?_); rintro e w2 ⟨rfl, hm⟩; have HM := Lib.hid hm; clear hm))
    | (go_at_call 40; ((with_reducible refine HM.out.mono ?_); rintro e w3 ⟨rfl, hr⟩; have HR := Lib.hid (HE.out w3 hr); clear hr)))
  go_ret2
  exact ⟨rfl, HR.out.1, HR.out.2⟩
end Go.Proofs.Ytmpbhoijkcanmaa.R
