/- Slots: the walk of SlotsPlays. -/
import Derived.Test.YtaikapgpkkpdjaaDoorTV
import Derived.Outline
namespace Go.Proofs.YtaikapgpkkpdjaaDoor.L
open Go.ChangeShapes Go.WideShapes Go.ChangeAt Go.RowKit Go.Maps Go.Proofs.YtaikapgpkkpdjaaDoor.G Go.Sort Go.Shelf Go.Lib Go.Deep
set_option linter.unusedVariables false
set_option linter.unusedSimpArgs false

variable {w ww w3 : World} {p : Pl} {r : Rl} {ex ex2 : Exts} {l l2 : States} {rx rx2 : Nat → RX}
/-- where a slot lies: both say the same -/
theorem at_both (hp : isPage r.pg = true) (x : Slot) (hx : I64 x.e ∧ I64 x.c ∧ I64 x.i) (hR : Rel r.n ex l rx) : ∃ A N F : Int,
    (∀ ww, Duo w ww p r ex l rx → Calls Tryd.prog 15 #[.pointer (some ⟨p.s, 0, none⟩), .agg #[.int .i64 x.e, .int .i64 x.c, .int .i64 x.i]] ww fun e w' => e = .returned (.tuple #[.int .i64 A, .int .i64 N, .int .i64 F]) ∧ Duo w w' p r ex l rx ∧ Turned [] ww w') ∧
    (∀ ww, Duo w ww p r ex l rx → Calls Tryd.prog 16 #[.pointer (some ⟨r.br, 0, none⟩), .agg #[.int .i64 x.e, .int .i64 x.c, .int .i64 x.i]] ww fun e w' => e = .returned (.tuple #[.int .i64 A, .int .i64 N, .int .i64 F]) ∧ Duo w w' p r ex l rx ∧ Turned [] ww w') := by
  have ht := hR.there_ x
  cases hb : thereB r.n ex x
  · refine ⟨0, 0, 3, fun ww h => ?_, fun ww h => ?_⟩
    · have := at_fn p.s p.e p.m r.n r.pg ex l x hx hp ww h.a.at_
      rw [hb, if_neg (by simp)] at this
      exact this.mono fun e w' ⟨h1, h2⟩ => ⟨h1, h.calm (Turned.of_below h2), Turned.of_below h2⟩
    · have := rat (br := r.br) (bL := r.bL) (n := r.n) (cap := r.cap) (pg := r.pg) (rx := rx) x hx hp ww h.b
      rw [ht, hb, if_neg (by simp)] at this
      exact this.mono fun e w' ⟨h1, h2⟩ => ⟨h1, h.calm (Turned.of_below h2), Turned.of_below h2⟩
  · have h16 : r.pg / 16 * 64 = 4 * r.pg := by
      have hpp : r.pg = 1024 ∨ r.pg = 2048 ∨ r.pg = 4096 ∨ r.pg = 8192 ∨ r.pg = 16384 := by unfold isPage at hp; simpa [or_assoc] using hp
      omega
    have e1 : x.e * (r.pg / 16) * 64 + x.i * sizeC x.c r.pg = 4 * r.pg * x.e + sizeC x.c r.pg * x.i := by
      rw [Int.mul_assoc, h16, Int.mul_comm x.e, Int.mul_comm x.i]
    refine ⟨4 * r.pg * x.e + sizeC x.c r.pg * x.i, sizeC x.c r.pg, 0, fun ww h => ?_, fun ww h => ?_⟩
    · have := at_fn p.s p.e p.m r.n r.pg ex l x hx hp ww h.a.at_
      rw [hb, if_pos rfl, e1] at this
      exact this.mono fun e w' ⟨h1, h2⟩ => ⟨h1, h.calm (Turned.of_below h2), Turned.of_below h2⟩
    · have := rat (br := r.br) (bL := r.bL) (n := r.n) (cap := r.cap) (pg := r.pg) (rx := rx) x hx hp ww h.b
      rw [ht, hb, if_pos rfl] at this
      exact this.mono fun e w' ⟨h1, h2⟩ => ⟨h1, h.calm (Turned.of_below h2), Turned.of_below h2⟩
theorem pageFew (sz pg : Int) (hp : isPage pg = true) (h0 : 0 ≤ sz) : ∃ N : Nat, sz / (4 * pg) = N := by
  have hpp : pg = 1024 ∨ pg = 2048 ∨ pg = 4096 ∨ pg = 8192 ∨ pg = 16384 := by unfold isPage at hp; simpa [or_assoc] using hp
  refine ⟨(sz / (4 * pg)).toNat, ?_⟩
  have : 0 ≤ sz / (4 * pg) := Int.ediv_nonneg h0 (by omega)
  omega

set_option maxRecDepth 100000 in
set_option maxHeartbeats 4000000 in
theorem plays_out (sz pg : Int) (a2 : Option Addr) (len cap : Nat) (y : Slot) (w : World) (hs : I64 sz) (hT : Tab w) (hg : 100 < len ∨ (131072 < sz ∧ sz ≤ 16777216)) :
    Calls Tryd.prog 3 #[.int .i64 sz, .int .i64 pg, .slice a2 len cap, encS y] w fun e w' => e = .returned (.bool true) ∧ Below w.heap.size w w' := by
  have t0 := (Turned.refl [] w).alloc (.cells #[.int .i64 y.e, .int .i64 y.c, .int .i64 y.i] 24)
  have HAl := Lib.hid (alive _ (hT.turned t0 (by simp)))
  have HB := Lib.hid t0.below
  clear hT t0
  obtain ⟨ye, yc, yi⟩ := y
  unfold encS
  simp only at *
  rcases hg with hg | ⟨hg1, hg2⟩
  · have hd : decide ((100 : Int) < len) = true := by simp; omega
    clear hs
    go_enter Tryd.func3, Tryd.ntmps3
    go_wp2_with (go_at_call 8; ((with_reducible refine HAl.out.mono ?_); rintro e wE ⟨rfl, hb⟩; have HE := Lib.hid (HB.out.trans (hb.mono HB.out.size)); clear hb))
    go_ret
    exact ⟨rfl, HE.out⟩
  · by_cases hl : 100 < len
    · have hd : decide ((100 : Int) < len) = true := by simp; omega
      clear hs
      go_enter Tryd.func3, Tryd.ntmps3
      go_wp2_with (go_at_call 8; ((with_reducible refine HAl.out.mono ?_); rintro e wE ⟨rfl, hb⟩; have HE := Lib.hid (HB.out.trans (hb.mono HB.out.size)); clear hb))
      go_ret
      exact ⟨rfl, HE.out⟩
    · have hd : decide ((100 : Int) < len) = false := by simp; omega
      clear hs
      go_enter Tryd.func3, Tryd.ntmps3
      go_wp2_with (go_at_call 8; ((with_reducible refine HAl.out.mono ?_); rintro e wE ⟨rfl, hb⟩; have HE := Lib.hid (HB.out.trans (hb.mono HB.out.size)); clear hb))
      go_ret
      exact ⟨rfl, HE.out⟩
set_option maxRecDepth 100000 in
set_option maxHeartbeats 4000000 in
theorem plays_bad (sz pg : Int) (a2 : Option Addr) (len cap : Nat) (y : Slot) (w : World) (hs : I64 sz) (hp : I64 pg) (hT : Tab w) (hl : len ≤ 100) (hz : sz ≤ 131072 ∨ 16777216 < sz) (hb : isPage pg = false ∨ sz < 0 ∨ 16777216 < sz) :
    Calls Tryd.prog 3 #[.int .i64 sz, .int .i64 pg, .slice a2 len cap, encS y] w fun e w' => e = .returned (.bool true) ∧ Below w.heap.size w w' := by
  have t0 := (Turned.refl [] w).alloc (.cells #[.int .i64 y.e, .int .i64 y.c, .int .i64 y.i] 24)
  have HAl := Lib.hid (alive _ (hT.turned t0 (by simp)))
  have HB := Lib.hid t0.below
  have C9 := Lib.hid (new_bad sz pg hb)
  have C10 := Lib.hid (rnew_bad sz pg hp hb)
  clear hT t0 hb
  obtain ⟨ye, yc, yi⟩ := y
  unfold encS
  simp only at *
  have hd : decide ((100 : Int) < len) = false := by simp; omega
  clear hl hp
  rcases hz with hz | hz
  · go_enter Tryd.func3, Tryd.ntmps3
    go_wp2_with (first
      | (go_at_call 9; ((with_reducible refine (C9.out _).mono ?_); rintro e w1 ⟨rfl, rfl⟩))
      | (go_at_call 10; ((with_reducible refine (C10.out _).mono ?_); rintro e w1 ⟨rfl, rfl⟩))
      | (go_at_call 8; ((with_reducible refine HAl.out.mono ?_); rintro e wE ⟨rfl, hb⟩; have HE := Lib.hid (HB.out.trans (hb.mono HB.out.size)); clear hb)))
    go_ret
    exact ⟨rfl, HE.out⟩
  · go_enter Tryd.func3, Tryd.ntmps3
    go_wp2_with (first
      | (go_at_call 9; ((with_reducible refine (C9.out _).mono ?_); rintro e w1 ⟨rfl, rfl⟩))
      | (go_at_call 10; ((with_reducible refine (C10.out _).mono ?_); rintro e w1 ⟨rfl, rfl⟩))
      | (go_at_call 8; ((with_reducible refine HAl.out.mono ?_); rintro e wE ⟨rfl, hb⟩; have HE := Lib.hid (HB.out.trans (hb.mono HB.out.size)); clear hb)))
    go_ret
    exact ⟨rfl, HE.out⟩

set_option maxRecDepth 100000 in
set_option maxHeartbeats 8000000 in
theorem plays_in (sz pg : Int) (a2 : Option Addr) (len cap : Nat) (cs : List CallD) (y : Slot) (hy : I64 y.e ∧ I64 y.c ∧ I64 y.i) (w : World) (hT : Tab w) (h2 : CallsAt w a2 len cs) (hl : len ≤ 100) (hz : 0 ≤ sz ∧ sz ≤ 131072) (hpg : isPage pg = true) :
    Calls Tryd.prog 3 #[.int .i64 sz, .int .i64 pg, .slice a2 len cap, encS y] w fun e w' => e = .returned (.bool true) ∧ Below w.heap.size w w' := by
  obtain ⟨N, hN⟩ := pageFew sz pg hpg hz.1
  have t0 := (Turned.refl [] w).alloc (.cells #[.int .i64 y.e, .int .i64 y.c, .int .i64 y.i] 24)
  have HAl := Lib.hid alive
  have HB := Lib.hid t0.below
  have HT := Lib.hid (hT.turned t0 (by simp))
  have HY := Lib.hid (res_new w y)
  have H2 := Lib.hid (h2.turned t0 (by simp))
  have C9 := Lib.hid (fun w hT => new_any sz pg N hpg hz.1 (by omega) hN w hT)
  have C10 := Lib.hid (rnew sz N hpg hz.1 hz.2 hN)
  have HPg := Lib.hid hpg
  have HYi := Lib.hid hy
  clear hT t0 h2 hpg hN hy
  obtain ⟨ye, yc, yi⟩ := y
  unfold encS
  simp only at *
  have hd : decide ((100 : Int) < len) = false := by simp; omega
  go_enter Tryd.func3, Tryd.ntmps3
  go_upto_region 3 with fail
  obtain ⟨W0, hW0⟩ : ∃ W0, w.alloc (.cells #[.int .i64 ye, .int .i64 yc, .int .i64 yi] 24) = W0 := ⟨_, rfl⟩
  rw [hW0] at HT H2 HB HY
  rw [hW0]
  clear hW0
  obtain ⟨B, hBe⟩ : ∃ B, w.heap.size = B := ⟨_, rfl⟩
  rw [hBe] at HY
  rw [hBe]
  have HBe := Lib.hid hBe
  clear hBe
  go_upto_region 7 with (first
    | (go_at_call 9; ((with_reducible refine (C9.out _ HT.out).mono ?_); rintro e w1 ⟨bs, be, bm, rfl, hs, hn, ht⟩; have S0 := Lib.hid (And.intro hs (And.intro hn ht)); clear hs hn ht C9))
    | (go_at_call 10; ((with_reducible refine (C10.out _).mono ?_); rintro e w2 ⟨br, bL, rcap, rfl, hr, hb1, hb2, hbel⟩; have HD : Hid (Duo W0 w2 ⟨bs, be, bm⟩ ⟨N, pg, br, bL, rcap⟩ ex0 [] (fun _ => freeX)) := ⟨S0.out.1.calm (Turned.of_below hbel), hr, S0.out.2.1, ⟨w1.heap.size, S0.out.1.lt, fun b hb => by rcases hb with rfl | ⟨rfl, _⟩ | ⟨i, hi, hK, _⟩ <;> first | exact hb1 | exact hb2 | exact absurd rfl hK⟩, S0.out.2.2.below.trans (hbel.mono S0.out.2.2.size)⟩; have kx := hr.exts; clear hr hb1 hb2 hbel S0 C10)))
  have hx2 : N ≤ 32 := HD.out.few
  generalize hA : (if N = 0 then none else some (⟨bL, 0, none⟩ : Addr)) = A at kx
  clear hA
  have HC11 : Hid (∀ nn, Calls Tryd.prog 11 #[.pointer (some ⟨bs, 0, none⟩)] (w2.drewN nn) fun e w'' => e = .returned (.int .i64 N) ∧ w'' = w2.drewN nn) := fun nn => (extents bs be bm N pg ex0 [] _ ((HD.out.calm ((Turned.refl [] _).drewN nn)).a.at_)).mono fun e w'' ⟨a, b⟩ => ⟨a, b.symm⟩
  go_quiet ((go_at_call 11; exact Calls.quiet_of_same (HC11.out _)))
  have HD3 := Lib.hid (HD.out.calm ((Turned.refl [] w2).drewN nq))
  clear kx HD HC11
  go_wp2_with fail
  clear hd
  go_loopw [12] (fun v wr => ∃ i : Nat, i ≤ len ∧ v = .int .i64 i ∧ Hid (Both W0 wr ⟨bs, be, bm⟩ ⟨N, pg, br, bL, rcap⟩)) (fun v _ => len - (intOf v).toNat)
  case atStart => exact ⟨0, Nat.zero_le _, rfl, _, _, _, HD3.out, Rel.zero N⟩
  case round =>
    obtain ⟨i, hi, rfl, hB⟩ := hrel
    by_cases hlt : i < len
    · obtain ⟨ex, l, rx, hS, hRel⟩ := hB.out
      have hi1 : i < cs.length := by rw [H2.out.1]; exact hlt
      obtain ⟨b, off, rfl, hoff, hc0, hok⟩ := H2.out.at i hi1
      have hc := hc0.turned (Turned.of_below hS.bel) (by simp)
      clear hc0
      generalize cs[i] = c at *
      obtain ⟨d, cls, wh, od, ⟨xe, xc, xi⟩, ep⟩ := c
      have C12 : Hid (Calls Tryd.prog 12 #[.pointer (some ⟨bs, 0, none⟩), .pointer (some ⟨br, 0, none⟩), .agg #[.int .u8 d, .int .i64 cls, .int .u16 wh, .bool od, .int .i64 xe, .int .i64 xc, .int .i64 xi, .int .u64 ep]] wr (doesPost W0 ⟨bs, be, bm⟩ ⟨N, pg, br, bL, rcap⟩)) := rdoes hS hRel ⟨d, cls, wh, od, ⟨xe, xc, xi⟩, ep⟩ hok
      obtain ⟨k0, k1, k2, k3, k4, k5, k6, k7⟩ := hc
      simp only at k0 k1 k2 k3 k4 k5 k6 k7
      clear hok hS hRel hB HD3 hi1
      go_wp2_with (go_at_call 12; ((with_reducible refine C12.out.mono ?_); rintro e w3 ⟨rfl, hb⟩; have S3 := Lib.hid hb; clear hb))
      go_roundw
      case rel => exact ⟨i + 1, by omega, by go_num, S3.out⟩
      case measure => simp [intOf]; omega
    · obtain ⟨ex, l, rx, hS, hRel⟩ := hB.out
      have HS := Lib.hid hS
      have HRel := Lib.hid hRel
      have hie : i = len := by omega
      subst hie
      have kx := hS.b.exts
      simp only at kx
      generalize hA : (if N = 0 then none else some (⟨bL, 0, none⟩ : Addr)) = A at kx
      clear hA hS hRel hB HD3 hlt hi
      go_wp2_with fail
      go_loopw [13] (fun v w5 => w5 = wr ∧ ∃ z : Int, -1 ≤ z ∧ z ≤ N + 1 ∧ v = .int .i64 z) (fun v _ => (N + 1 - intOf v).toNat)
      case atStart => exact ⟨rfl, -1, by omega, by omega, rfl⟩
      case round =>
        obtain ⟨rfl, z, hz1, hz2, rfl⟩ := hrel
        by_cases hzn : z ≤ N
        · have C13 : Hid (Calls Tryd.prog 13 #[.pointer (some ⟨bs, 0, none⟩), .int .i64 z] wr fun e w' => e = .returned (.int .i64 (classX N ex z)) ∧ wr = w') := class_ bs be bm N pg ex l z wr HS.out.a.at_
          have C14 : Hid (Calls Tryd.prog 14 #[.pointer (some ⟨br, 0, none⟩), .int .i64 z] wr fun e w' => e = .returned (.int .i64 (classX N ex z)) ∧ wr = w') := by
            have := rclass z wr HS.out.b
            rw [HRel.out.class_] at this
            exact this
          generalize classX N ex z = cz at *
          go_wp2_with (first
            | (go_at_call 13; ((with_reducible refine C13.out.mono ?_); rintro e w6 ⟨rfl, rfl⟩))
            | (go_at_call 14; ((with_reducible refine C14.out.mono ?_); rintro e w6 ⟨rfl, rfl⟩)))
          go_roundw
          case rel => exact ⟨trivial, z + 1, by omega, by omega, by go_num⟩
          case measure => simp [intOf]; omega
        · have hze : z = N + 1 := by omega
          obtain ⟨qa, qn, qf, ca, cb⟩ := at_both (p := ⟨bs, be, bm⟩) (r := ⟨N, pg, br, bL, rcap⟩) (w := W0) HPg.out ⟨ye, yc, yi⟩ HYi.out HRel.out
          have CA := Lib.hid ca
          have CB := Lib.hid cb
          obtain ⟨ys, hy⟩ : ∃ ys, canon liveV N ex l = ys := ⟨_, rfl⟩
          obtain ⟨zs, hz'⟩ : ∃ zs, canon waitV N ex l = zs := ⟨_, rfl⟩
          have hfy := canon_few (so := liveV) HS.out.a.inv (by simp only; omega)
          have hfz := canon_few (so := waitV) HS.out.a.inv (by simp only; omega)
          simp only at hfy hfz
          rw [hy] at hfy
          rw [hz'] at hfz
          have HFy := Lib.hid hfy
          have HFz := Lib.hid hfz
          have HRy : Hid (allR rx 1 N = ys) := (HRel.out.all1 HS.out.a.inv).trans hy
          have HRz : Hid (allR rx 2 N = zs) := (HRel.out.all2 HS.out.a.inv).trans hz'
          have HCy := Lib.hid hy
          have HCz := Lib.hid hz'
          have HSm : Hid (∀ (ys : List Slot) ww a a' cap cap' B B', RowIs ww a ys.length ys B → RowIs ww a' ys.length ys B' → Calls Tryd.prog 17 #[.slice a ys.length cap, .slice a' ys.length cap'] ww fun e w' => e = .returned (.bool true) ∧ Below ww.heap.size ww w') := by
            intro ys ww a a' cap cap' B B' h h'
            have := same ys ys a a' _ _ cap cap' ww h.1 h'.1 h.2.1 h.2.1
            rw [decide_eq_true rfl] at this
            exact this
          have hv := HY.out.turned (Turned.of_below HS.out.bel) (by simp)
          have y0 := hv.c0
          have y1 := hv.c1
          have y2 := hv.c2
          simp only at y0 y1 y2
          clear hy hz' ca cb hfy hfz hv H2
          go_wp2_with (first
            | (go_at_call 15; ((with_reducible refine (CA.out _ HS.out).mono ?_); rintro e w6 ⟨rfl, hs, ht⟩; have S6 := Lib.hid hs; have hv := HY.out.turned (Turned.of_below hs.bel) (by simp); have z0 := hv.c0; have z1 := hv.c1; have z2 := hv.c2; simp only at z0 z1 z2; clear hs ht hv HS y0 y1 y2 kx))
            | (go_at_call 16; ((with_reducible refine (CB.out _ S6.out).mono ?_); rintro e w7 ⟨rfl, hs, ht⟩; have S7 := Lib.hid hs; clear hs ht S6 z0 z1 z2))
            | (go_at_call 18; ((with_reducible refine (S7.out.liveA ys HCy.out).mono ?_); rintro e w8 ⟨d8, cap8, rfl, hrow, hs, _⟩; have S8 := Lib.hid hs; have R8 := Lib.hid hrow; clear hs hrow S7))
            | (go_at_call 19; ((with_reducible refine (S8.out.allB 1 (by omega) ys HRy.out HFy.out).mono ?_); rintro e w9 ⟨d9, cap9, rfl, hrow, hs, ht⟩; have S9 := Lib.hid hs; have R9 := Lib.hid hrow; have R8' := Lib.hid (R8.out.turned ht (by simp)); clear hs hrow ht S8))
            | (go_at_call 17; ((with_reducible refine (HSm.out _ _ _ _ _ _ _ _ R8'.out R9.out).mono ?_); rintro e wA ⟨rfl, hbA⟩; have SA := Lib.hid (S9.out.calm (Turned.of_below hbA)); clear hbA S9 R8' R9))
            | (go_at_call 20; ((with_reducible refine (SA.out.waitA zs HCz.out).mono ?_); rintro e wB ⟨dB, capB, rfl, hrow, hs, _⟩; have SB := Lib.hid hs; have RB := Lib.hid hrow; clear hs hrow SA))
            | (go_at_call 19; ((with_reducible refine (SB.out.allB 2 (by omega) zs HRz.out HFz.out).mono ?_); rintro e wC ⟨dC, capC, rfl, hrow, hs, ht⟩; have SC := Lib.hid hs; have RC := Lib.hid hrow; have RB' := Lib.hid (RB.out.turned ht (by simp)); clear hs hrow ht SB))
            | (go_at_call 17; ((with_reducible refine (HSm.out _ _ _ _ _ _ _ _ RB'.out RC.out).mono ?_); rintro e wD ⟨rfl, hbD⟩; have SD := Lib.hid (SC.out.calm (Turned.of_below hbD)); clear hbD SC RB' RC))
            | (go_at_call 8; ((with_reducible refine (HAl.out _ SD.out.a.at_.tab).mono ?_); rintro e wE ⟨rfl, hbE⟩; have HE := Lib.hid (SD.out.bel.trans (hbE.mono SD.out.bel.size)); clear hbE)))
          go_ret
          exact ⟨rfl, HB.out.trans (HE.out.mono HB.out.size)⟩

theorem plays_law (sz pg : Int) (a2 : Option Addr) (len cap : Nat) (cs : List CallD) (y : Slot) (hs : I64 sz) (hp : I64 pg) (hy : I64 y.e ∧ I64 y.c ∧ I64 y.i) (w : World) (hT : Tab w) (h2 : CallsAt w a2 len cs) :
    Calls Tryd.prog 3 #[.int .i64 sz, .int .i64 pg, .slice a2 len cap, encS y] w fun e w' => e = .returned (.bool true) ∧ Below w.heap.size w w' := by
  by_cases hg : 100 < len ∨ (131072 < sz ∧ sz ≤ 16777216)
  · exact plays_out sz pg a2 len cap y w hs hT hg
  · by_cases hb : isPage pg = false ∨ sz < 0 ∨ 16777216 < sz
    · exact plays_bad sz pg a2 len cap y w hs hp hT (by omega) (by omega) hb
    · simp only [not_or, Bool.not_eq_false] at hb
      exact plays_in sz pg a2 len cap cs y hy w hT h2 (by omega) (by omega) hb.1
end Go.Proofs.YtaikapgpkkpdjaaDoor.L
