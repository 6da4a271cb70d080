/- Radix: Get where nothing is; Clear, Hold, Nodes. -/
import Derived.Test.YtmpbhoijkcanmaaRK
namespace Go.Proofs.Ytmpbhoijkcanmaa.R
open Go.ChangeShapes Go.WideShapes Go.ChangeAt Go.RowKit Go.Maps Go.Proofs.Ytmpbhoijkcanmaa.G
set_option linter.unusedVariables false
set_option linter.unusedSimpArgs false
set_option linter.unnecessarySimpa false

variable {w w' : World} {p p' : Pf} {F G : Fo}
set_option maxRecDepth 100000 in
set_option maxHeartbeats 1000000 in
theorem get_out {r : Int} (hr64 : I64 r) (q : Int) (hq : isB F r = false ∨ pageB q = false) (w : World) (hF : FoAt w p F) :
    Calls Try.prog 17 #[.pointer (some ⟨p.f, 0, none⟩), .int .i64 r, .int .i64 q] w (getPost none w) := by
  have t1 := (Turned.refl [] w).alloc (.cells #[.int .i64 0, .int .i64 0, .int .i64 0, .int .i64 0] 33)
  have hF1 := hF.calm t1
  have hE := ent_new w 33 zeroE
  have c0 := hE.c0
  have c1 := hE.c1
  have c2 := hE.c2
  have c3 := hE.c3
  obtain ⟨hP, hT⟩ := hE.put zeroE
  have g0 := hP.c0
  have g1 := hP.c1
  have g2 := hP.c2
  have g3 := hP.c3
  unfold putE at g0 g1 g2 g3 hT
  simp only [zeroE] at c0 c1 c2 c3 g0 g1 g2 g3 hT
  have HB : Hid (Below w.heap.size w (w.alloc (.cells #[.int .i64 0, .int .i64 0, .int .i64 0, .int .i64 0] 33))) := t1.below
  have CN := Lib.hid (none_fn _ hF1)
  have CI := Lib.hid (is_fn r hr64 _ hF1)
  have CG : Hid (∀ w, Calls Try.prog 39 #[.int .i64 q] w fun e w' => e = .returned (.bool (pageB q)) ∧ w = w') := fun w => page_fn q w
  clear hF hF1 t1 hE hP hT g0 g1 g2 g3 c0 c1 c2 c3
  have hfin : Hid (getPost none w (.returned (.tuple #[.agg #[.int .i64 0, .int .i64 0, .int .i64 0, .int .i64 0], .bool false])) (w.alloc (.cells #[.int .i64 0, .int .i64 0, .int .i64 0, .int .i64 0] 33))) := ⟨rfl, HB.out⟩
  have hn := ent_new w 33 zeroE
  have g0 := hn.c0
  have g1 := hn.c1
  have g2 := hn.c2
  have g3 := hn.c3
  simp only [zeroE] at g0 g1 g2 g3
  clear hn
  cases hb : isB F r
  · rw [hb] at CI
    clear hq hb hr64
    go_enter Try.func17, Try.ntmps17
    go_wp2_with (first
      | (go_at_call 37; ((with_reducible refine CN.out.mono ?_); rintro e ww ⟨rfl, rfl⟩))
      | (go_at_call 38; ((with_reducible refine CI.out.mono ?_); rintro e ww ⟨rfl, rfl⟩)))
    refine bodyPost_ret (v := .tuple #[.agg #[.int .i64 0, .int .i64 0, .int .i64 0, .int .i64 0], .bool false]) (by simp [results, Try.results17, go_sem, g0, g1, g2, g3]) rfl hfin.out
  · have hp := hq.resolve_left (by rw [hb]; simp)
    rw [hb] at CI
    rw [hp] at CG
    clear hq hb hp hr64
    go_enter Try.func17, Try.ntmps17
    go_wp2_with (first
      | (go_at_call 37; ((with_reducible refine CN.out.mono ?_); rintro e ww ⟨rfl, rfl⟩))
      | (go_at_call 38; ((with_reducible refine CI.out.mono ?_); rintro e ww ⟨rfl, rfl⟩))
      | (go_at_call 39; ((with_reducible refine (CG.out _).mono ?_); rintro e ww ⟨rfl, rfl⟩)))
    refine bodyPost_ret (v := .tuple #[.agg #[.int .i64 0, .int .i64 0, .int .i64 0, .int .i64 0], .bool false]) (by simp [results, Try.results17, go_sem, g0, g1, g2, g3]) rfl hfin.out

/-- a page is cleared -/
def clearF (F : Fo) (r pg : Nat) : Fo × Nat := if (getL 2 F r pg).isSome then setF F r pg .clear else (madeF F r, r)
set_option maxRecDepth 100000 in
set_option maxHeartbeats 1000000 in
theorem clear_fn {L : Nat} (h : Ok F L) (hL : L ≤ 2 ^ 38) {r pg : Nat} (hr : isB F (r : Int) = true) (hpg : pg < 4096) (w : World) (hF : FoAt w p F) :
    Calls Try.prog 16 #[.pointer (some ⟨p.f, 0, none⟩), .int .i64 (r : Nat), .int .i64 (pg : Nat)] w (ansPost p F (clearF F r pg) w) := by
  have hr' := h.inv.root hr
  have hlt : r < 2 ^ 60 := by
    rcases hr' with h0 | ⟨h1, _⟩
    · omega
    · have := (h.inv.pos _ h1).2; have := h.last; omega
  have CN := Lib.hid (none_fn _ hF)
  have CI := Lib.hid (is_fn (r : Int) (by unfold I64; omega) _ hF)
  rw [hr] at CI
  have CP : Hid (∀ w, Calls Try.prog 39 #[.int .i64 (pg : Nat)] w fun e w' => e = .returned (.bool true) ∧ w = w') := fun w => by
    have := page_fn (pg : Int) w
    rwa [show pageB (pg : Int) = true by unfold pageB; simp; omega] at this
  have CG := Lib.hid (get_in h hL hr hpg w hF)
  obtain ⟨o, ho⟩ : ∃ o, getL 2 F r pg = o := ⟨_, rfl⟩
  rw [ho] at CG
  unfold clearF
  rw [ho]
  have hs := h.small hL
  have hzero : (Chg.clear).ok := trivial
  have HM : Hid (∀ w2, Below w.heap.size w w2 → ∀ o : Obj, Calls Try.prog 40 #[.pointer (some ⟨p.f, 0, none⟩), .int .i64 (r : Nat)] (w2.alloc o) fun e w3 => e = .returned (.int .i64 (r : Nat)) ∧ (∃ p', FoAt w3 p' (madeF F r) ∧ Moved p p' F (madeF F r) w) ∧ FoOwn p F w w3) := fun w2 hb o => by
    have t := (Turned.of_below hb).alloc o
    refine (made_fn (p := p) r (hr'.imp id (fun h => h.1)) hlt (by have := h.held r; omega) (fun hm => by have := h.inv.refs_le hs r hm; omega) _ (hF.calm t)).mono fun e w3 ⟨e1, e2, e3⟩ => ⟨e1, ⟨p, e2, ⟨rfl, rfl, rfl, rfl, fun _ _ => rfl, fun i hi => .inl (by rw [madeF_ids] at hi; exact hi)⟩⟩, (FoOwn.of t).trans e3 (Moved.refl p F w)⟩
  have HA : Hid (∀ w2, Below w.heap.size w w2 → ∀ o : Obj, Calls Try.prog 41 #[.pointer (some ⟨p.f, 0, none⟩), .int .i64 (r : Nat), .int .i64 (pg : Nat), .int .i64 0, .func (.func 43) #[] #[]] (w2.alloc o) fun e w3 => e = .returned (.int .i64 ((setF F r pg .clear).2 : Nat)) ∧
      Calls Try.prog 40 #[.pointer (some ⟨p.f, 0, none⟩), .int .i64 ((setF F r pg .clear).2 : Nat)] w3 fun e w4 => e = .returned (.int .i64 ((setF F r pg .clear).2 : Nat)) ∧ (∃ p', FoAt w4 p' (setF F r pg .clear).1 ∧ Moved p p' F (setF F r pg .clear).1 w) ∧ FoOwn p F w w4) := fun w2 hb o => by
    have t := (Turned.of_below hb).alloc o
    refine (set_step h hL hr' hpg .clear hzero (w2.alloc o) (hF.calm t) trivial).mono fun e w3 ⟨e1, e2⟩ => ⟨e1, e2.mono fun e w4 ⟨f1, ⟨p', f2, f3⟩, f4⟩ => ⟨f1, ⟨p', f2, ⟨f3.f, f3.m, f3.h, f3.s, f3.old, fun i hi => (f3.new i hi).imp id (fun h => Nat.le_trans t.size h)⟩⟩, (FoOwn.of t).trans f4 (Moved.refl p F w)⟩⟩
  obtain ⟨y, hy⟩ : ∃ y, o.getD zeroE = y := ⟨_, rfl⟩
  obtain ⟨⟨ye, yc, yi⟩, yg⟩ := y
  have CG2 : Hid (Calls Try.prog 17 #[.pointer (some ⟨p.f, 0, none⟩), .int .i64 (r : Nat), .int .i64 (pg : Nat)] w fun e w' => e = .returned (.tuple #[.agg #[.int .i64 ye, .int .i64 yc, .int .i64 yi, .int .i64 yg], .bool o.isSome]) ∧ Below w.heap.size w w') := by
    have := CG.out
    unfold getPost at this
    rw [hy] at this
    exact this
  obtain ⟨R, hR⟩ : ∃ R, setF F r pg .clear = R := ⟨_, rfl⟩
  rw [hR] at HA ⊢
  clear h hL hr hpg hF hr' ho hs hzero hy hR CG
  cases hb : o.isSome
  · rw [hb] at CG2
    simp only [Bool.false_eq_true, if_false]
    go_enter Try.func16, Try.ntmps16
    go_wp2_with (first
      | (go_at_call 37; ((with_reducible refine CN.out.mono ?_); rintro e ww ⟨rfl, rfl⟩))
      | (go_at_call 38; ((with_reducible refine CI.out.mono ?_); rintro e ww ⟨rfl, rfl⟩))
      | (go_at_call 39; ((with_reducible refine (CP.out _).mono ?_); rintro e ww ⟨rfl, rfl⟩))
      | (go_at_call 17; ((with_reducible refine CG2.out.mono ?_); rintro e w2 ⟨rfl, hb2⟩; have HB2 := Lib.hid hb2; clear hb2))
      | (go_at_call 40; ((with_reducible refine (HM.out _ HB2.out _).mono ?_); rintro e w3 ⟨rfl, hr⟩; have HR := Lib.hid hr; clear hr)))
    go_ret2
    exact ⟨rfl, HR.out.1, HR.out.2⟩
  · rw [hb] at CG2
    simp only [if_true]
    go_enter Try.func16, Try.ntmps16
    go_wp2_with (first
      | (go_at_call 37; ((with_reducible refine CN.out.mono ?_); rintro e ww ⟨rfl, rfl⟩))
      | (go_at_call 38; ((with_reducible refine CI.out.mono ?_); rintro e ww ⟨rfl, rfl⟩))
      | (go_at_call 39; ((with_reducible refine (CP.out _).mono ?_); rintro e ww ⟨rfl, rfl⟩))
      | (go_at_call 17; ((with_reducible refine CG2.out.mono ?_); rintro e w2 ⟨rfl, hb2⟩; have HB2 := Lib.hid hb2; clear hb2))
      | (go_at_call 41; ((with_reducible refine (HA.out _ HB2.out _).mono ?_); rintro e w3 ⟨rfl, hm⟩; have HMd := Lib.hid hm; clear hm))
      | (go_at_call 40; ((with_reducible refine HMd.out.mono ?_); rintro e w4 ⟨rfl, hr⟩; have HR := Lib.hid hr; clear hr)))
    go_ret2
    exact ⟨rfl, HR.out.1, HR.out.2⟩
theorem clearF_is {L : Nat} (h : Ok F L) (hL : L ≤ 2 ^ 38) {r pg : Nat} (hr : r = 0 ∨ (r ∈ F.ids ∧ F.lev r = 0)) (hpg : pg < 4096) :
    Ok (clearF F r pg).1 (L + 3) ∧ ((clearF F r pg).2 = 0 ∨ ((clearF F r pg).2 ∈ (clearF F r pg).1.ids ∧ (clearF F r pg).1.lev (clearF F r pg).2 = 0)) ∧ Ext F (clearF F r pg).1 ∧ (∀ i : Int, cnt (clearF F r pg).1.held i = cnt F.held i + if (clearF F r pg).2 ≠ 0 ∧ i = (clearF F r pg).2 then 1 else 0) ∧ (clearF F r pg).1.ids.length ≤ F.ids.length + 3 ∧
    (∀ q, q < 4096 → getL 2 (clearF F r pg).1 (clearF F r pg).2 q = if q = pg then none else getL 2 F r q) := by
  unfold clearF
  by_cases hs : (getL 2 F r pg).isSome = true
  · rw [if_pos hs]
    have := setF_is h hL hr hpg .clear trivial
    exact ⟨this.ok, this.root, this.ext, this.held, this.len, this.get⟩
  · rw [if_neg hs]
    have hno : getL 2 F r pg = none := by simpa using hs
    have e := madeF_ext F r
    refine ⟨⟨h.inv.made hr (.inl rfl), by show (madeF F r).last ≤ _; rw [madeF_last]; have := h.last; omega, fun i => by show cnt (madeF F r).held i ≤ _; rw [madeF_held]; have := h.held i; split <;> omega⟩, hr.imp id (fun ⟨a, b⟩ => ⟨e.mem _ a, (e.lev _ a).trans b⟩), e, fun i => madeF_held F r i, by show (madeF F r).ids.length ≤ _; rw [madeF_ids]; omega, fun q hq => ?_⟩
    show getL 2 (madeF F r) r q = _
    rw [getL_ext h.inv e 2 r q (hr.imp id (fun h => h.1))]
    by_cases hqp : q = pg
    · rw [if_pos hqp, hqp, hno]
    · rw [if_neg hqp]

set_option maxRecDepth 100000 in
set_option maxHeartbeats 1000000 in
theorem hold_fn {L : Nat} (h : Ok F L) (hL : L ≤ 2 ^ 38) {r : Nat} (hr : isB F (r : Int) = true) (w : World) (hF : FoAt w p F) :
    Calls Try.prog 20 #[.pointer (some ⟨p.f, 0, none⟩), .int .i64 (r : Nat)] w fun e w' => e = .returned (.int .i64 0) ∧ FoAt w' p (madeF F r) ∧ FoOwn p F w w' := by
  have hr' := h.inv.root hr
  have hlt : r < 2 ^ 60 := by
    rcases hr' with h0 | ⟨h1, _⟩
    · omega
    · have := (h.inv.pos _ h1).2; have := h.last; omega
  have CN := Lib.hid (none_fn _ hF)
  have CI := Lib.hid (is_fn (r : Int) (by unfold I64; omega) _ hF)
  rw [hr] at CI
  have hs := h.small hL
  have CM := Lib.hid (made_fn (p := p) r (hr'.imp id (fun h => h.1)) hlt (by have := h.held r; omega) (fun hm => by have := h.inv.refs_le hs r hm; omega) w hF)
  clear h hL hr hF hr' hs
  go_enter Try.func20, Try.ntmps20
  go_wp2_with (first
    | (go_at_call 37; ((with_reducible refine CN.out.mono ?_); rintro e ww ⟨rfl, rfl⟩))
    | (go_at_call 38; ((with_reducible refine CI.out.mono ?_); rintro e ww ⟨rfl, rfl⟩))
    | (go_at_call 40; ((with_reducible refine CM.out.mono ?_); rintro e w3 ⟨rfl, h1, h2⟩; have HR := Lib.hid (And.intro h1 h2); clear h1 h2)))
  go_ret
  exact ⟨rfl, HR.out.1, HR.out.2⟩
set_option maxRecDepth 100000 in
theorem nodes_fn (w : World) (hF : FoAt w p F) : Calls Try.prog 15 #[.pointer (some ⟨p.f, 0, none⟩)] w fun e w' => e = .returned (.int .i64 (F.ids.length : Nat)) ∧ w = w' := by
  have CN := Lib.hid (none_fn _ hF)
  have HM := Lib.hid hF.nodes
  have c0 := hF.c0
  have hl : (nodesL p F).length = F.ids.length := by simp [nodesL]
  have HL := Lib.hid hl
  clear hF hl
  go_enter Try.func15, Try.ntmps15
  go_wp2_with (first
    | (go_at_call 37; ((with_reducible refine CN.out.mono ?_); rintro e ww ⟨rfl, rfl⟩))
    | (refine wp_len _ (by rfl) _ 86 (by rfl) Try.underlying86 p.m (nodesL p F) (by rfl) HM.out ?_))
  go_ret
  exact ⟨ret1 (by rw [HL.out]), rfl⟩
end Go.Proofs.Ytmpbhoijkcanmaa.R
