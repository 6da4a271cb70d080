/- Maps of pages, and versions of them: lemmas, part 23 of 23. -/
import Derived.Deep.RegionHeld3
import Derived.Deep.DeepCutAuto
import Derived.Test.YtmpbhoijkcanmaaGreatQ22

/- Versions of both kinds side by side: the law's walk, to its end. -/
namespace Go.Proofs.YtmpbhoijkcanmaaGreat.R
open Go.ChangeShapes Go.WideShapes Go.ChangeAt Go.RowKit Go.Maps Go.Proofs.YtmpbhoijkcanmaaGreat.G Go.Joins
set_option linter.unusedVariables false
set_option linter.unusedSimpArgs false
set_option linter.unnecessarySimpa false

theorem PlW.calm {w wr w' : World} {rb xb i : Nat} (h : PlW w wr rb xb i) (b : Below wr.heap.size wr w') : PlW w w' rb xb i := by
  obtain ⟨L, R, F, T, last, E, h1, h2⟩ := h
  exact ⟨L, R, F, T, last, E, h1.calm b, h2⟩
theorem same_two {C : Slot → Prop} {a a' : Option Addr} {n n' cap cap' : Nat} {ys zs : List Slot} {w2 : World} (h1 : SlotsIs C ys) (h2 : SlotsIs C zs) (h : Sl3s w2 a n ys) (h' : Sl3s w2 a' n' zs) (hn : n ≤ maxLen) (hn' : n' ≤ maxLen) :
    Calls Tryz.prog 13 #[.slice a n cap, .slice a' n' cap'] w2 fun r w' => r = .returned (.bool true) ∧ Below w2.heap.size w2 w' := by
  unfold maxLen at hn hn'
  have := same_slots ys zs a a' n n' cap cap' w2 h h' (by omega) (by omega)
  rw [decide_eq_true (h1.uniq h2 fun _ => Iff.rfl)] at this
  exact this
theorem nums_two {P : Nat → Prop} {a a' : Option Addr} {n n' cap cap' : Nat} {ys zs : List Nat} {w2 : World} (h1 : NumsIs P ys) (h2 : NumsIs P zs) (h : Nm w2 a n ys) (h' : Nm w2 a' n' zs) (hn : n ≤ maxLen) (hn' : n' ≤ maxLen) :
    Calls Tryz.prog 10 #[.slice a n cap, .slice a' n' cap'] w2 fun r w' => r = .returned (.bool true) ∧ Below w2.heap.size w2 w' := by
  have := sameNums_fn ys zs a a' n n' cap cap' w2 h h' hn hn'
  rw [decide_eq_true (h1.uniq h2 fun _ => Iff.rfl)] at this
  exact this
set_option maxRecDepth 100000 in
set_option maxHeartbeats 16000000 in
theorem rplays_law (a : Option Addr) (n cap m : Nat) (pg : Int) (l : List CallD) (w : World) (hl : CallsAt w a n l) (hlo : ∀ x, x ∈ l → x.ok w) (hn : n ≤ maxLen) (hm : m < 2 ^ 64) :
    Calls Tryz.prog 3 #[.slice a n cap, .int .u64 (m : Nat), .int .i64 pg] w fun e w' => e = .returned (.bool true) ∧ Below w.heap.size w w' := by
  have HAl := Lib.hid alive24
  have CM := Lib.hid (many_fn a n cap l hl hn fun x hx => (hlo x hx).len)
  unfold maxLen at hn
  have HL := Lib.hid (And.intro hl hlo)
  have hll := hl.1
  clear hl hlo
  have CN := Lib.hid (rnew_fn w (Below.refl w.heap.size w))
  have CX := Lib.hid (fun w1 (h : w.heap.size ≤ w1.heap.size) => xnew_fn w.heap.size w1 h)
  go_enter Tryz.func3, Tryz.ntmps3
  go_upto_if 20 with (first
    | (go_at_call 4; ((with_reducible refine CM.out.mono ?_); rintro e w1 ⟨⟨B, rfl, hB⟩, rfl⟩)))
  cases B
  rotate_left
  · clear hB
    go_wp2_with (go_at_call 5; ((with_reducible refine (HAl.out _).mono ?_); rintro e wE ⟨rfl, hb⟩))
    go_ret
    exact ⟨rfl, hb⟩
  obtain ⟨hn40, hl60⟩ := hB rfl
  have HL60 := Lib.hid hl60
  clear hB hl60 CM
  go_wp2_with (first
    | (go_at_call 6; ((with_reducible refine CN.out.mono ?_); rintro e w1 ⟨rb, rfl, hs⟩; have S0 := Lib.hid hs; clear hs CN))
    | (go_at_call 7; ((with_reducible refine (CX.out _ S0.out.bel.size).mono ?_); rintro e w2 ⟨xb, mx, b0, rfl, hX, hb2, how⟩; have X0 := Lib.hid (And.intro hX (And.intro hb2 how)); clear hX hb2 how CX)))
  have H0 : Hid (PlW w w2 rb xb 0) := PlW.start S0.out X0.out.1 X0.out.2.1 X0.out.2.2
  clear S0 X0
  go_loopw [9] (fun iv wr => ∃ i : Nat, i ≤ n ∧ iv = .int .i64 i ∧ Hid (PlW w wr rb xb i)) (fun v _ => n + 1 - (intOf v).toNat)
  case atStart => exact ⟨0, Nat.zero_le _, rfl, H0.out⟩
  case round =>
    obtain ⟨i, hi, rfl, hB⟩ := hrel
    clear H0
    by_cases hlt : i < n
    · obtain ⟨L, R, F, T, last, E, hS, hx, hL, hT, hsum⟩ := hB.out
      have hbw := hS.bel
      obtain ⟨pb, poff, x, rfl, hpb, hxg, k0, k1, k2, k3⟩ := CallsAt.cells (HL.out.1.below hbw) i hlt
      have hxo := HL.out.2 x (List.mem_of_getElem? hxg)
      have hx60 := HL60.out x (List.mem_of_getElem? hxg)
      have hfew := hx.few
      have hlen := hx.len
      have CD : Hid (Calls Tryz.prog 8 #[.pointer (some ⟨rb, 0, none⟩), .pointer (some ⟨xb, 0, none⟩), .agg #[.int .u8 (x.op : Nat), .bool x.odd, .int .u64 (x.n : Nat), .slice x.a x.len x.cap]] wr.drew fun r w' => r = .returned (.bool true) ∧ PlW w w' rb xb (i + 1) ∧ Below w.heap.size w w' ∧ ∃ nw P C, RdS w' rb xb nw P C) :=
        (does_fn (hS.calm (Turned.refl [] wr).drew.below) hx (by omega) (by omega) (by omega) x hxo hx60).mono fun r w' ⟨e1, e2⟩ => ⟨e1, PlW.next hL hT hsum e2, by
          obtain ⟨L', R', F', T', last', E', h1, h2, h3, h4, h5⟩ := e2
          exact ⟨h1.bel, last', _, _, rds (i := i + 1) (by omega) h1 h2 (by omega) (by omega)⟩⟩
      have HKc : Hid (∀ wz, Below w.heap.size w wz → wz.cell? ⟨pb, poff + i * 4, none⟩ = some (.int .u8 (x.op : Nat)) ∧ wz.cell? ⟨pb, poff + i * 4 + 1, none⟩ = some (.bool x.odd) ∧ wz.cell? ⟨pb, poff + i * 4 + 2, none⟩ = some (.int .u64 (x.n : Nat)) ∧ wz.cell? ⟨pb, poff + i * 4 + 3, none⟩ = some (.slice x.a x.len x.cap)) := fun wz hb => by
        obtain ⟨b', off', y, e, _, hy, h0, h1, h2, h3⟩ := CallsAt.cells (HL.out.1.below hb) i hlt
        simp only [Option.some.injEq, Addr.mk.injEq] at e
        rw [hxg] at hy
        obtain rfl := Option.some.inj hy
        rw [e.1, e.2.1]
        exact ⟨h0, h1, h2, h3⟩
      obtain ⟨op, odd, cn, ca, cl, cc, ch⟩ := x
      simp only at k0 k1 k2 k3 CD HKc
      have hwi : IntKind.i64.wrap ((i : Int) + 1) = (i : Int) + 1 := IntWalk.i64_in _ (by omega)
      clear hB hS hx hL hT hsum hbw hxg hxo hx60 hfew hlen hpb
      go_upto_region 9 with fail
      go_cut [64] (fun s wz => s = .bool false ∧ Hid (PlW w wz rb xb (i + 1)))
      case first =>
        go_region_with
          (first
            | (go_at_call 8; ((with_reducible refine CD.out.mono ?_); rintro r w5 ⟨rfl, hp5, hb5, nw, P, C, hr5⟩; have P5 := Lib.hid hp5; have R5 := Lib.hid hr5; have W5 := Lib.hid hb5; have K5 := Lib.hid (HKc.out _ hb5); have q5 := hr5.last _ (Below.refl _ _); clear hp5 hr5 hb5 CD))
            | (go_at_call 9; ((with_reducible refine (R5.out.now _ (Below.refl _ _)).mono ?_); rintro r w9 ⟨rfl, rfl⟩))
            | (go_at_call 11; ((with_reducible refine (R5.out.rv _ (Below.refl _ _)).mono ?_); rintro r w6 ⟨a6, n6, cap6, zs6, rfl, hn6, hm6, hl6, hb6⟩; have N6 := Lib.hid (And.intro hn6 (And.intro hm6 (And.intro hl6 hb6))); have K6 := Lib.hid (HKc.out _ (W5.out.trans (N6.out.2.2.2.mono W5.out.size))); clear hn6 hm6 hl6 hb6))
            | (go_at_call 12; ((with_reducible refine (R5.out.xv _ N6.out.2.2.2).mono ?_); rintro r w7 ⟨a7, n7, cap7, zs7, rfl, hn7, hm7, hl7, hb7⟩; have N7 := Lib.hid (And.intro hn7 (And.intro hm7 (And.intro hl7 hb7))); have B7 := Lib.hid (N6.out.2.2.2.trans (hb7.mono N6.out.2.2.2.size)); have K7 := Lib.hid (HKc.out _ (W5.out.trans (B7.out.mono W5.out.size))); clear hn7 hm7 hl7 hb7))
            | (go_at_call 10; ((with_reducible refine (nums_two N6.out.1 N7.out.1 (N6.out.2.1.below N7.out.2.2.2) N7.out.2.1 N6.out.2.2.1 N7.out.2.2.1).mono ?_); rintro r w8 ⟨rfl, hb8⟩; have B8 := Lib.hid (B7.out.trans (hb8.mono B7.out.size)); have K8 := Lib.hid (HKc.out _ (W5.out.trans (B8.out.mono W5.out.size))); clear hb8))
            | (go_at_call 14; ((with_reducible refine (R5.out.rs _ B8.out).mono ?_); rintro r w9 ⟨a9, n9, cap9, zs9, rfl, hn9, hm9, hl9, hb9⟩; have N9 := Lib.hid (And.intro hn9 (And.intro hm9 (And.intro hl9 hb9))); have B9 := Lib.hid (B8.out.trans (hb9.mono B8.out.size)); have K9 := Lib.hid (HKc.out _ (W5.out.trans (B9.out.mono W5.out.size))); clear hn9 hm9 hl9 hb9))
            | (go_at_call 15; ((with_reducible refine (R5.out.xs _ B9.out).mono ?_); rintro r w10 ⟨a10, n10, cap10, zs10, rfl, hn10, hm10, hl10, hb10⟩; have N10 := Lib.hid (And.intro hn10 (And.intro hm10 (And.intro hl10 hb10))); have B10 := Lib.hid (B9.out.trans (hb10.mono B9.out.size)); have K10 := Lib.hid (HKc.out _ (W5.out.trans (B10.out.mono W5.out.size))); clear hn10 hm10 hl10 hb10))
            | (go_at_call 13; ((with_reducible refine (same_two N9.out.1 N10.out.1 (N9.out.2.1.below N10.out.2.2.2) N10.out.2.1 N9.out.2.2.1 N10.out.2.2.1).mono ?_); rintro r w11 ⟨rfl, hb11⟩; have B11 := Lib.hid (B10.out.trans (hb11.mono B10.out.size)); have K11 := Lib.hid (HKc.out _ (W5.out.trans (B11.out.mono W5.out.size))); clear hb11)))
        all_goals
          go_wp2
          go_meet
          exact ⟨by simp, P5.out.calm B11.out⟩
      case rest =>
        obtain ⟨rfl, hP⟩ := hcut
        clear k0 k1 k2 k3 CD HKc
        go_wp2
        go_roundw
        case rel => exact ⟨i + 1, by omega, by go_num, hP.out⟩
        case measure => simp [intOf]; omega
    · obtain rfl : i = n := by omega
      obtain ⟨L, R, F, T, last, E, hS, hx, hL, hT, hsum⟩ := hB.out
      have hbw := hS.bel
      obtain ⟨mx, K, h1, h2, h3⟩ := hS
      cases hv : vget R.vs m with
      | none =>
        have hge := hx.gon hv
        have CG : Hid (Calls Tryz.prog 16 #[.pointer (some ⟨rb, 0, none⟩), .int .u64 (m : Nat), .int .i64 pg] wr (rgetPost wr ⟨⟨0, 0, 0⟩, 0⟩ false 3)) := by
          obtain ⟨f, mb, mo, blk, h4⟩ := h1
          exact rget_no h4 hm hv pg
        have CXg : Hid (∀ ww, Below wr.heap.size wr ww → Calls Tryz.prog 17 #[.pointer (some ⟨xb, 0, none⟩), .int .u64 (m : Nat), .int .i64 pg] ww (rgetPost ww ⟨⟨0, 0, 0⟩, 0⟩ false 3)) := fun ww b => xget_no (h2.calm b) hm pg hge
        have CA : Hid (∀ ww, Below wr.heap.size wr ww → Calls Tryz.prog 18 #[.pointer (some ⟨rb, 0, none⟩), .int .u64 (m : Nat)] ww fun r w' => r = .returned (.tuple #[.slice none 0 0, .int .i64 3]) ∧ Below ww.heap.size ww w') := fun ww b => by
          obtain ⟨f, mb, mo, blk, h4⟩ := h1.calm b
          exact (rall_no h4 hm hv).mono fun r w' ⟨e1, e2⟩ => ⟨e1, e2 ▸ Below.refl _ _⟩
        have HX : Hid (∀ ww, Below wr.heap.size wr ww → ww.cell? ⟨xb, 0, none⟩ = some (.map (some mx)) ∧ (Instr.lookup 35 (.map (some mx)) (.int .u64 (m : Nat)) false).run Tryz.prog ww = .ok (.pointer none) ww) := fun ww b => by
          have h4 := h2.calm b
          have hlk := h4.look hm
          rw [hge] at hlk
          exact ⟨h4.c0, hlk⟩
        have HBw := Lib.hid hbw
        clear hB hx hL hT hsum h1 h2 h3 hv hge hbw hlt
        go_upto_region 17 with (first
          | (go_at_call 16; ((with_reducible refine CG.out.mono ?_); rintro r w4 ⟨rfl, hb4⟩; have B4 := Lib.hid hb4; have M4 := Lib.hid (ent_new w4 47 ⟨⟨0, 0, 0⟩, 0⟩); clear hb4 CG))
          | (go_at_call 17; ((with_reducible refine (CXg.out _ (B4.out.trans (((Turned.refl [] w4).alloc _).below.mono B4.out.size))).mono ?_); rintro r w5 ⟨rfl, hb5⟩; have B5 := Lib.hid (B4.out.trans ((((Turned.refl [] w4).alloc _).below.mono B4.out.size).trans (hb5.mono (by have := B4.out.size; simp; omega)))); have M5 := Lib.hid (ent_new w5 47 ⟨⟨0, 0, 0⟩, 0⟩); have M45 := Lib.hid (M4.out.turned (Turned.of_below hb5) (by simp)); clear hb5 CXg))
          | (go_at_call 18; ((with_reducible refine (CA.out _ (B5.out.trans (((Turned.refl [] w5).alloc _).below.mono B5.out.size))).mono ?_); rintro r w6 ⟨rfl, hb6⟩; have B6 := Lib.hid (B5.out.trans ((((Turned.refl [] w5).alloc _).below.mono B5.out.size).trans (hb6.mono (by have := B5.out.size; simp; omega)))); have M6 := Lib.hid (And.intro ((M45.out.turned ((Turned.refl [] w5).alloc _) (by simp)).turned (Turned.of_below hb6) (by simp)) (M5.out.turned (Turned.of_below hb6) (by simp))); obtain ⟨x0, x1⟩ := HX.out _ B6.out; clear hb6 CA)))
        have m0 := M6.out.1.c0
        have m1 := M6.out.1.c1
        have m2 := M6.out.1.c2
        have m3 := M6.out.1.c3
        have r0 := M6.out.2.c0
        have r1 := M6.out.2.c1
        have r2 := M6.out.2.c2
        have r3 := M6.out.2.c3
        simp only at m0 m1 m2 m3 r0 r1 r2 r3
        have CSp := Lib.hid (same_pairs [] [] none none 0 0 0 0 w6 ⟨rfl, .inl rfl⟩ ⟨rfl, .inl rfl⟩ (by omega) (by omega))
        rw [decide_eq_true (rfl : ([] : List Pr) = [])] at CSp
        have B6w : Hid (Below w.heap.size w w6) := HBw.out.trans (B6.out.mono HBw.out.size)
        go_wp2_with (first
          | (go_at_call 19; ((with_reducible refine CSp.out.mono ?_); rintro r w7 ⟨rfl, hb7⟩; have B7 := Lib.hid (B6w.out.trans (hb7.mono B6w.out.size)); obtain ⟨z0, z1⟩ := HX.out _ (B6.out.trans (hb7.mono B6.out.size)); clear hb7))
          | (go_at_call 5; ((with_reducible refine (HAl.out _).mono ?_); rintro r w8 ⟨rfl, hb8⟩; have B8 := Lib.hid (B7.out.trans (hb8.mono B7.out.size)); clear hb8)))
        go_ret
        exact ⟨by simp, B8.out⟩
      | some v =>
        obtain ⟨e, hge, he, hen, hel, heh⟩ := hx.geto hv
        have hcl : e.l.length ≤ 4096 := by rw [hel]; exact (mapL_ok hx.fo hx.ok hv).1
        have hrg := rget_any h1 (by omega) hx.ok hm hv pg
        rw [← hel] at hrg
        obtain ⟨y, hy⟩ : ∃ y, (pget e.l pg).getD zeroE = y := ⟨_, rfl⟩
        obtain ⟨is, his⟩ : ∃ is, (pget e.l pg).isSome = is := ⟨_, rfl⟩
        rw [hy, his] at hrg
        have CG := Lib.hid hrg
        have CXg : Hid (∀ ww, Below wr.heap.size wr ww → Calls Tryz.prog 17 #[.pointer (some ⟨xb, 0, none⟩), .int .u64 (m : Nat), .int .i64 pg] ww (rgetPost ww y is 0)) := fun ww b => by
          have := xget_yes (h2.calm b) hm pg hge (by omega)
          rw [hy, his] at this
          exact this
        obtain ⟨c, hc⟩ : ∃ c, e.l = c := ⟨_, rfl⟩
        obtain ⟨cl, hcL⟩ : ∃ cl, c.length = cl := ⟨_, rfl⟩
        have hcl2 : cl ≤ 4096 := by rw [← hcL, ← hc]; exact hcl
        have CA : Hid (∀ ww, Below wr.heap.size wr ww → Calls Tryz.prog 18 #[.pointer (some ⟨rb, 0, none⟩), .int .u64 (m : Nat)] ww fun r w' => ∃ a2 cap2, r = .returned (.tuple #[.slice a2 cl cap2, .int .i64 0]) ∧ Sl5 w' a2 cl c ∧ Below ww.heap.size ww w') := fun ww b => by
          obtain ⟨f, mb, mo, blk, h4⟩ := h1.calm b
          have := rall_yes h4 (by omega) hm hv (hx.ok.root hv)
          rw [← hel, hc] at this
          refine this.mono fun r w' ⟨a2, n2, cap2, e0, e1, e2, e3⟩ => ?_
          subst e0
          obtain ⟨_, _, e14, h14, _⟩ := sl5_of_owns e2
          simp only [Value.slice.injEq] at e14
          obtain ⟨rfl, -, rfl⟩ := e14
          rw [hcL] at e1 h14
          exact ⟨_, _, e1, h14, e3⟩
        obtain ⟨a3, cap3, hsv, -, -⟩ := sl5_of_owns (h2.row e he)
        have HX : Hid (∀ ww, Below wr.heap.size wr ww → ww.cell? ⟨xb, 0, none⟩ = some (.map (some mx)) ∧ (Instr.lookup 35 (.map (some mx)) (.int .u64 (m : Nat)) false).run Tryz.prog ww = .ok (.pointer (some ⟨e.b, 0, none⟩)) ww ∧ ww.cell? ⟨e.b, 0, none⟩ = some (.slice a3 cl cap3) ∧ Sl5 ww a3 cl c) := fun ww b => by
          have h4 := h2.calm b
          have hlk := h4.look hm
          rw [hge] at hlk
          have hv0 := h4.v0 he
          obtain ⟨a4, cap4, hsv4, hs4, -⟩ := sl5_of_owns (h4.row e he)
          rw [hsv] at hsv4
          simp only [Value.slice.injEq] at hsv4
          obtain ⟨rfl, -, rfl⟩ := hsv4
          rw [hsv, hc, hcL] at hv0
          rw [hc, hcL] at hs4
          exact ⟨h4.c0, hlk, hv0, hs4⟩
        have HBw := Lib.hid hbw
        obtain ⟨⟨ye, yc, yi⟩, yg⟩ := y
        generalize e.b = bn at *
        clear hB hx hL hT hsum h1 h2 h3 hv hge he hen hel heh hrg hy his hc hsv hbw hlt
        go_upto_region 17 with (first
          | (go_at_call 16; ((with_reducible refine CG.out.mono ?_); rintro r w4 ⟨rfl, hb4⟩; have B4 := Lib.hid hb4; have M4 := Lib.hid (ent_new w4 47 ⟨⟨ye, yc, yi⟩, yg⟩); clear hb4 CG))
          | (go_at_call 17; ((with_reducible refine (CXg.out _ (B4.out.trans (((Turned.refl [] w4).alloc _).below.mono B4.out.size))).mono ?_); rintro r w5 ⟨rfl, hb5⟩; have B5 := Lib.hid (B4.out.trans ((((Turned.refl [] w4).alloc _).below.mono B4.out.size).trans (hb5.mono (by have := B4.out.size; simp; omega)))); have M5 := Lib.hid (ent_new w5 47 ⟨⟨ye, yc, yi⟩, yg⟩); have M45 := Lib.hid (M4.out.turned (Turned.of_below hb5) (by simp)); clear hb5 CXg))
          | (go_at_call 18; ((with_reducible refine (CA.out _ (B5.out.trans (((Turned.refl [] w5).alloc _).below.mono B5.out.size))).mono ?_); rintro r w6 ⟨a2, cap2, rfl, hs6, hb6⟩; have B6 := Lib.hid (B5.out.trans ((((Turned.refl [] w5).alloc _).below.mono B5.out.size).trans (hb6.mono (by have := B5.out.size; simp; omega)))); have S6 := Lib.hid hs6; have M6 := Lib.hid (And.intro ((M45.out.turned ((Turned.refl [] w5).alloc _) (by simp)).turned (Turned.of_below hb6) (by simp)) (M5.out.turned (Turned.of_below hb6) (by simp))); obtain ⟨x0, x1, x2, x3⟩ := HX.out _ B6.out; have X6 := Lib.hid x3; clear x3 hs6 hb6 CA)))
        have m0 := M6.out.1.c0
        have m1 := M6.out.1.c1
        have m2 := M6.out.1.c2
        have m3 := M6.out.1.c3
        have r0 := M6.out.2.c0
        have r1 := M6.out.2.c1
        have r2 := M6.out.2.c2
        have r3 := M6.out.2.c3
        simp only at m0 m1 m2 m3 r0 r1 r2 r3
        have CSp := Lib.hid (same_pairs c c a2 a3 cl cl cap2 cap3 w6 S6.out X6.out (by omega) (by omega))
        rw [decide_eq_true (rfl : c = c)] at CSp
        have B6w : Hid (Below w.heap.size w w6) := HBw.out.trans (B6.out.mono HBw.out.size)
        go_wp2_with (first
          | (go_at_call 19; ((with_reducible refine CSp.out.mono ?_); rintro r w7 ⟨rfl, hb7⟩; have B7 := Lib.hid (B6w.out.trans (hb7.mono B6w.out.size)); obtain ⟨z0, z1, z2, -⟩ := HX.out _ (B6.out.trans (hb7.mono B6.out.size)); clear hb7))
          | (go_at_call 5; ((with_reducible refine (HAl.out _).mono ?_); rintro r w8 ⟨rfl, hb8⟩; have B8 := Lib.hid (B7.out.trans (hb8.mono B7.out.size)); clear hb8)))
        go_ret
        exact ⟨by simp, B8.out⟩
end Go.Proofs.YtmpbhoijkcanmaaGreat.R
