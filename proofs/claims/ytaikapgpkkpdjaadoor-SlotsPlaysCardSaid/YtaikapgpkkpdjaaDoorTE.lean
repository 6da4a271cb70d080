/- Slots: the walk of SlotsBack. -/
import Derived.Test.YtaikapgpkkpdjaaDoorTD
import Derived.Deep.RegionHeld3
import Derived.Deep.DeepCutAuto
import Derived.Deep.CutBlock
namespace Go.Proofs.YtaikapgpkkpdjaaDoor.L
open Go.ChangeShapes Go.WideShapes Go.ChangeAt Go.RowKit Go.Maps Go.Proofs.YtaikapgpkkpdjaaDoor.G Go.Sort Go.Shelf Go.Lib Go.Deep
set_option linter.unusedVariables false
set_option linter.unusedSimpArgs false

theorem mod7 (d : Int) (h : 0 ≤ d ∧ d ≤ 255) : d % 7 = 0 ∨ d % 7 = 1 ∨ d % 7 = 2 ∨ d % 7 = 3 ∨ d % 7 = 4 ∨ d % 7 = 5 ∨ d % 7 = 6 := by omega
theorem CallCells.conj {w : World} {b o : Nat} {c : CallD} (h : CallCells w b o c) : w.cell? ⟨b, o, none⟩ = some (.int .u8 c.doo) ∧ w.cell? ⟨b, o + 1, none⟩ = some (.int .i64 c.cls) ∧ w.cell? ⟨b, o + 2, none⟩ = some (.int .u16 c.which) ∧ w.cell? ⟨b, o + 3, none⟩ = some (.bool c.odd) ∧
    w.cell? ⟨b, o + 4, none⟩ = some (.int .i64 c.x.e) ∧ w.cell? ⟨b, o + 5, none⟩ = some (.int .i64 c.x.c) ∧ w.cell? ⟨b, o + 6, none⟩ = some (.int .i64 c.x.i) ∧ w.cell? ⟨b, o + 7, none⟩ = some (.int .u64 c.ep) := ⟨h.c0, h.c1, h.c2, h.c3, h.c4, h.c5, h.c6, h.c7⟩
theorem Two.congrA {w ww : World} {p q : Pl} {ex ex2 ex' : Exts} {l l2 l' : States} (h : Two w ww p q ex l ex' l') (he : ∀ i, i < 3 → ex i = ex2 i) (hl : l = l2) : Two w ww p q ex2 l2 ex' l' := by
  subst hl
  exact ⟨h.a.congr he, h.b, h.ea, h.eb, h.newa, h.sep, h.bel⟩
theorem canon_nil (so : Value → Bool) (n : Nat) (ex : Exts) : canon so n ex [] = [] := by
  unfold canon
  rw [List.flatMap_eq_nil_iff]
  intro i _
  rw [List.map_eq_nil_iff, List.filter_eq_nil_iff]
  intro k _
  simp [G.look_nil]
/-- the second loop's: those that live are dropped one by one -/
def LoopB (w wr : World) (p q : Pl) (ex : Exts) (l : States) (ys : List Slot) (a : Option Addr) (m B j : Nat) : Prop := ∃ lj, Two w wr p q ex lj ex0 [] ∧ Dropped l ys j lj ∧ RowIs wr a m ys B
/-- the slot that is picked stands in a variable -/
def CutD (w : World) (p q : Pl) (ex : Exts) (l : States) (B : Nat) (c : CallD) (x : Slot) (v : Value) (wc : World) : Prop := ∃ b, v = .pointer (some ⟨b, 0, none⟩) ∧ Rd w wc p q ex l ex l B c [(b, x)]
def LoopC (w wr : World) (p q : Pl) : Prop := ∃ ex l, Two w wr p q ex l ex l
def LoopA (w wr : World) (p q : Pl) : Prop := ∃ ex l, Two w wr p q ex l ex0 []

set_option maxRecDepth 100000 in
set_option maxHeartbeats 8000000 in
theorem back_law (a1 a2 : Option Addr) (len1 cap1 len2 cap2 : Nat) (c1 c2 : List CallD) (w : World) (hT : Tab w) (h1 : CallsAt w a1 len1 c1) (h2 : CallsAt w a2 len2 c2) :
    Calls Tryd.prog 7 #[.slice a1 len1 cap1, .slice a2 len2 cap2] w fun e w' => e = .returned (.bool true) ∧ Below w.heap.size w w' := by
  have HAl := Lib.hid alive
  have HT := Lib.hid hT
  by_cases hb1 : 60 < len1
  · clear hT h1 h2
    go_enter Tryd.func7, Tryd.ntmps7
    go_wp2_with (go_at_call 8; ((with_reducible refine (HAl.out _ HT.out).mono ?_); rintro e wE ⟨rfl, hb⟩))
    go_ret
    exact ⟨rfl, hb⟩
  by_cases hb2 : 60 < len2
  · clear hT h1 h2
    go_enter Tryd.func7, Tryd.ntmps7
    go_wp2_with (go_at_call 8; ((with_reducible refine (HAl.out _ HT.out).mono ?_); rintro e wE ⟨rfl, hb⟩))
    go_ret
    exact ⟨rfl, hb⟩
  have C9 : Hid (∀ ww, Tab ww → Calls Tryd.prog 9 #[.int .i64 12288, .int .i64 1024] ww fun e w' => ∃ p : Pl, e = .returned (.tuple #[.pointer (some ⟨p.s, 0, none⟩), .int .i64 0]) ∧ StP w' p ex0 [] ∧ (ww.heap.size ≤ p.s ∧ ww.heap.size ≤ p.e ∧ ww.heap.size ≤ p.m) ∧ Turned [] ww w') :=
    fun ww hT => (new_any 12288 1024 3 (by decide) (by omega) (by omega) (by omega) ww hT).mono fun e w' ⟨bs, be, bm, e1, e2, e3, e4⟩ => ⟨⟨bs, be, bm⟩, e1, e2, e3, e4⟩
  have hd1 : decide ((60 : Int) < len1) = false := by simp; omega
  have hd2 : decide ((60 : Int) < len2) = false := by simp; omega
  have H1 := Lib.hid h1
  have H2 := Lib.hid h2
  clear hT h1 h2
  go_enter Tryd.func7, Tryd.ntmps7
  go_upto_block 1 with (first
    | (go_at_call 9; ((with_reducible refine (C9.out _ HT.out).mono ?_); rintro e w1 ⟨p, rfl, hs, hn, ht⟩; have S0 := Lib.hid (And.intro hs (And.intro hn ht)); clear hs hn ht HT))
    | (go_at_call 9; ((with_reducible refine (C9.out _ S0.out.1.at_.tab).mono ?_); rintro e w2 ⟨q, rfl, hs, hn, ht⟩; have S1 : Hid (Two w w2 p q ex0 [] ex0 []) := ⟨S0.out.1.calm ht, hs, EpB.nil, EpB.nil, S0.out.2.1, ⟨w1.heap.size, S0.out.1.lt, hn⟩, S0.out.2.2.below.trans (ht.below.mono S0.out.2.2.size)⟩; clear hs hn ht S0)))
  obtain ⟨ps, pe, pm⟩ := p
  obtain ⟨qs, qe, qm⟩ := q
  simp only
  clear hd1 hd2 C9
  go_loopw [9] (fun v wr => ∃ i : Nat, i ≤ len1 ∧ v = .int .i64 i ∧ Hid (LoopA w wr ⟨ps, pe, pm⟩ ⟨qs, qe, qm⟩)) (fun v _ => len1 - (intOf v).toNat)
  case atStart => exact ⟨0, Nat.zero_le _, rfl, ⟨_, _, S1.out⟩⟩
  case round =>
    obtain ⟨i, hi, rfl, hB⟩ := hrel
    by_cases hlt : i < len1
    · obtain ⟨ex, l, hS⟩ := hB.out
      have hi1 : i < c1.length := by rw [H1.out.1]; exact hlt
      obtain ⟨b, off, rfl, hoff, hc0, hok⟩ := H1.out.at i hi1
      have hc := hc0.turned (Turned.of_below hS.bel) (by simp)
      clear hc0
      generalize c1[i] = c at *
      have HC := Lib.hid hc
      have hdoo := hok.1
      have HOk := Lib.hid hok
      have HEp := Lib.hid hok.2.2.2.2
      obtain ⟨d, cls, wh, od, ⟨xe, xc, xi⟩, ep⟩ := c
      have k0 := hc.c0
      have k1 := hc.c1
      have k7 := hc.c7
      simp only at k0 k1 k7 hdoo
      have HS := Lib.hid hS
      clear hc hok hS hB S1 hi1
      rcases mod7 d hdoo with hr | hr | hr | hr | hr | hr | hr
      case inl | inr.inl | inr.inr.inl | inr.inr.inr.inl =>
        have CT := Lib.hid (HS.out.takeA cls _ rfl)
        go_wp2_with (first | (go_at_call 22; ((with_reducible refine CT.out.mono ?_); rintro e w3 ⟨rfl, hs, _⟩; have S2 := Lib.hid hs; clear hs)))
        go_roundw
        case rel => exact ⟨i + 1, by omega, by go_num, ⟨_, _, S2.out⟩⟩
        case measure => simp [intOf]; omega
      case inr.inr.inr.inr.inr.inr =>
        have CT := Lib.hid (HS.out.dueA ep _ rfl)
        go_wp2_with (first | (go_at_call 23; ((with_reducible refine CT.out.mono ?_); rintro e w3 ⟨d3, cap3, rfl, _, hs, _⟩; have S2 := Lib.hid hs; clear hs)))
        go_roundw
        case rel => exact ⟨i + 1, by omega, by go_num, ⟨_, _, S2.out⟩⟩
        case measure => simp [intOf]; omega
      all_goals
        obtain ⟨ys, hy⟩ : ∃ ys, canon liveV 3 ex l = ys := ⟨_, rfl⟩
        have HY := Lib.hid hy
        have hpi := pick_i64 (so := liveV) HS.out.a.inv (by omega) ⟨d, cls, wh, od, ⟨xe, xc, xi⟩, ep⟩ HOk.out
        rw [hy] at hpi
        obtain ⟨x, hx⟩ : ∃ x, pickS ys ⟨d, cls, wh, od, ⟨xe, xc, xi⟩, ep⟩ = x := ⟨_, rfl⟩
        rw [hx] at hpi
        have CP : Hid (∀ a n cap base w3, RowIs w3 a n ys base → Calls Tryd.prog 25 #[.slice a n cap, .agg #[.int .u8 d, .int .i64 cls, .int .u16 wh, .bool od, .int .i64 xe, .int .i64 xc, .int .i64 xi, .int .u64 ep]] w3 fun e w' => e = .returned (.agg #[.int .i64 x.e, .int .i64 x.c, .int .i64 x.i]) ∧ Below w3.heap.size w3 w') :=
          fun a n cap base w3 hr => picked_any ys ⟨d, cls, wh, od, ⟨xe, xc, xi⟩, ep⟩ HOk.out a n cap base w3 hr x hx
        have HPi := Lib.hid hpi
        have k := HC.out.conj
        obtain ⟨q0, q1, q2, q3, q4, q5, q6, q7⟩ := k
        simp only at q0 q1 q2 q3 q4 q5 q6 q7
        clear k0 k1 k7 hy hx hpi
        go_upto_region 11 with fail
        go_region_held3 (fun w' => w'.cell? ⟨b, off + i * 8, none⟩ = some (.int .u8 d) ∧ w'.cell? ⟨b, off + i * 8 + 1, none⟩ = some (.int .i64 cls) ∧ w'.cell? ⟨b, off + i * 8 + 2, none⟩ = some (.int .u16 wh) ∧ w'.cell? ⟨b, off + i * 8 + 3, none⟩ = some (.bool od) ∧ w'.cell? ⟨b, off + i * 8 + 4, none⟩ = some (.int .i64 xe) ∧ w'.cell? ⟨b, off + i * 8 + 5, none⟩ = some (.int .i64 xc) ∧ w'.cell? ⟨b, off + i * 8 + 6, none⟩ = some (.int .i64 xi) ∧ w'.cell? ⟨b, off + i * 8 + 7, none⟩ = some (.int .u64 ep)) (first | exact K5.out | exact K4.out | exact K3.out | go_keep)
          (first
            | (go_at_call 18; ((with_reducible refine ((HS.out.calm (Turned.refl [] _).drew).liveA _ HY.out).mono ?_); rintro e w3 ⟨d3, cap3, rfl, hrow, hs, ht⟩; have S3 := Lib.hid hs; have R3 := Lib.hid hrow; have K3 := Lib.hid ((HC.out.turned (Turned.refl [] _).drew (by simp)).turned ht (by simp)).conj; clear hs hrow))
            | (go_at_call 25; ((with_reducible refine (CP.out _ _ _ _ _ R3.out).mono ?_); rintro e w4 ⟨rfl, hb4⟩; have S4 := Lib.hid (S3.out.calm (Turned.of_below hb4)); have K4 := Lib.hid ((((HC.out.turned (Turned.refl [] _).drew (by simp)).turned ht (by simp)).turned (Turned.of_below hb4) (by simp)).conj)))
            | (go_at_call 24; ((with_reducible refine (S4.out.dropA x HPi.out ep HEp.out _ rfl).mono ?_); rintro e w5 ⟨rfl, hs, ht5⟩; have S5 := Lib.hid hs; have K5 := Lib.hid (((((HC.out.turned (Turned.refl [] _).drew (by simp)).turned ht (by simp)).turned (Turned.of_below hb4) (by simp)).turned ht5 (by have := hoff; have := HS.out.newa; simp at this ⊢; omega)).conj); clear hs)))
        all_goals
          go_wp2
          go_roundw
          case rel => exact ⟨i + 1, by omega, by go_num, ⟨_, _, S5.out⟩⟩
          case measure => simp [intOf]; omega
    · obtain ⟨ex, l, hS⟩ := hB.out
      obtain ⟨ys, hy⟩ : ∃ ys, canon liveV 3 ex l = ys := ⟨_, rfl⟩
      have HY := Lib.hid hy
      have HI := Lib.hid hS.a.inv
      have CL := Lib.hid (hS.liveA ys hy)
      have hlen := canon_few (so := liveV) hS.a.inv (by omega)
      rw [hy] at hlen
      have HBl := Lib.hid (And.intro hS.a.lt.1 (And.intro hS.a.lt.2.1 hS.a.lt.2.2))
      clear hB hS S1 hy
      go_upto_block 5 with (first
        | (go_at_call 18; ((with_reducible refine CL.out.mono ?_); rintro e w3 ⟨a3, cap3, rfl, hrow, hs, ht⟩; have S2 := Lib.hid (And.intro hs hrow); clear hs hrow)))
      obtain ⟨m, hm⟩ : ∃ m, ys.length = m := ⟨_, rfl⟩
      have HM := Lib.hid hm
      have LB0 : Hid (LoopB w w3 ⟨ps, pe, pm⟩ ⟨qs, qe, qm⟩ ex l ys a3 m wr.heap.size 0) := ⟨l, S2.out.1, Dropped.zero l ys, hm ▸ S2.out.2⟩
      rw [hm] at hlen
      rw [hm]
      obtain ⟨B, hBB⟩ : ∃ B, wr.heap.size = B := ⟨_, rfl⟩
      rw [hBB] at LB0 HBl
      clear hm hBB CL S2
      go_loopw [11] (fun v wr => ∃ j : Nat, j ≤ m ∧ v = .int .i64 j ∧ Hid (LoopB w wr ⟨ps, pe, pm⟩ ⟨qs, qe, qm⟩ ex l ys a3 m B j)) (fun v _ => m - (intOf v).toNat)
      case atStart => exact ⟨0, Nat.zero_le _, rfl, LB0.out⟩
      case round =>
        obtain ⟨j, hj, rfl, hLB⟩ := hrel
        obtain ⟨lj, hS, hD, hR⟩ := hLB.out
        by_cases hltj : j < m
        · have hj1 : j < ys.length := by rw [HM.out]; exact hltj
          have hj2 : j < (canon liveV 3 ex l).length := by rw [HY.out]; exact hj1
          have hD' := hD
          rw [← HY.out] at hD'
          have hst := hD'.step HI.out hj2 j
          have hpi := canon_i64 HI.out (by omega) (List.getElem_mem hj2)
          simp only [HY.out] at hst hpi
          obtain ⟨b, off, rfl, k0, k1, k2⟩ := hR.1.at j hj1
          obtain ⟨x, hx⟩ : ∃ x, ys[j] = x := ⟨_, rfl⟩
          rw [hx] at k0 k1 k2 hst hpi
          have hbB := hR.2.2 _ rfl
          have CT := Lib.hid (hS.dropA x hpi j (by omega) _ hst.1)
          have HD := Lib.hid hst.2
          have HR := Lib.hid hR
          have HbB : Hid (B ≤ b) := hbB
          clear hst hpi hx hj1 hj2 hD' hD hS hLB LB0 hR hbB
          go_wp2_with (first | (go_at_call 24; ((with_reducible refine CT.out.mono ?_); rintro e w5 ⟨rfl, hs, ht5⟩; have S5 := Lib.hid hs; have R5 := Lib.hid (HR.out.turned ht5 (by have := HBl.out; simp; omega)); clear hs)))
          go_roundw
          case rel => exact ⟨j + 1, by omega, by go_num, ⟨_, S5.out, HD.out, R5.out⟩⟩
          case measure => simp [intOf]; omega
        · have hje : j = ys.length := by rw [HM.out]; omega
          rw [hje, ← HY.out] at hD
          have hallw := hD.all HI.out
          have hdue := all_due (n := 3) ex hallw hS.ea
          obtain ⟨hgl, hge⟩ := all_gone hS.a.inv hallw
          obtain ⟨zs, hz⟩ : ∃ zs, canon waitV 3 ex lj = zs := ⟨_, rfl⟩
          rw [hz] at hdue hgl hge
          have CW := Lib.hid (hS.waitA zs hz)
          have CD : Hid (∀ ww, Two w ww ⟨ps, pe, pm⟩ ⟨qs, qe, qm⟩ ex lj ex0 [] → Calls Tryd.prog 23 #[.pointer (some ⟨ps, 0, none⟩), .int .u64 18446744073709551615] ww fun e w' => ∃ a cap, e = .returned (.slice a zs.length cap) ∧ Two w w' ⟨ps, pe, pm⟩ ⟨qs, qe, qm⟩ ex0 [] ex0 []) := by
            intro ww h
            exact (h.dueA 18446744073709551615 zs hdue).mono fun e w' ⟨a, cap, e1, _, e2, _⟩ => ⟨a, cap, e1, e2.congrA hge hgl⟩
          have CL0 : Hid (∀ ww, Two w ww ⟨ps, pe, pm⟩ ⟨qs, qe, qm⟩ ex0 [] ex0 [] → Calls Tryd.prog 18 #[.pointer (some ⟨ps, 0, none⟩)] ww fun e w' => ∃ a cap, e = .returned (.slice a 0 cap) ∧ Two w w' ⟨ps, pe, pm⟩ ⟨qs, qe, qm⟩ ex0 [] ex0 []) := by
            intro ww h
            exact (h.liveA [] (canon_nil _ _ _)).mono fun e w' ⟨a, cap, e1, _, e2, _⟩ => ⟨a, cap, e1, e2⟩
          have CW0 : Hid (∀ ww, Two w ww ⟨ps, pe, pm⟩ ⟨qs, qe, qm⟩ ex0 [] ex0 [] → Calls Tryd.prog 20 #[.pointer (some ⟨ps, 0, none⟩)] ww fun e w' => ∃ a cap, e = .returned (.slice a 0 cap) ∧ Two w w' ⟨ps, pe, pm⟩ ⟨qs, qe, qm⟩ ex0 [] ex0 []) := by
            intro ww h
            exact (h.waitA [] (canon_nil _ _ _)).mono fun e w' ⟨a, cap, e1, _, e2, _⟩ => ⟨a, cap, e1, e2⟩
          have hzl := canon_few (so := waitV) hS.a.inv (by omega)
          rw [hz] at hzl
          clear hje hD hallw hdue hgl hge hz hS hR hLB LB0
          go_upto_block 7 with (first
            | (go_at_call 20; ((with_reducible refine CW.out.mono ?_); rintro e w5 ⟨a5, cap5, rfl, _, hs, _⟩; have S5 := Lib.hid hs; clear hs CW))
            | (go_at_call 23; ((with_reducible refine (CD.out _ S5.out).mono ?_); rintro e w6 ⟨a6, cap6, rfl, hs⟩; have S6 := Lib.hid hs; clear hs S5))
            | (go_at_call 18; ((with_reducible refine (CL0.out _ S6.out).mono ?_); rintro e w7 ⟨a7, cap7, rfl, hs⟩; have S7 := Lib.hid hs; clear hs S6))
            | (go_at_call 20; ((with_reducible refine (CW0.out _ S7.out).mono ?_); rintro e w8 ⟨a8, cap8, rfl, hs⟩; have S8 := Lib.hid hs; clear hs S7)))
          clear CD CL0 CW0
          go_loopw [13] (fun v wr => ∃ i : Nat, i ≤ len2 ∧ v = .int .i64 i ∧ Hid (LoopC w wr ⟨ps, pe, pm⟩ ⟨qs, qe, qm⟩)) (fun v _ => len2 - (intOf v).toNat)
          case atStart => exact ⟨0, Nat.zero_le _, rfl, ⟨_, _, S8.out⟩⟩
          case round =>
            obtain ⟨i2, hi2, rfl, hB⟩ := hrel
            by_cases hlt2 : i2 < len2
            · obtain ⟨ex, l, hS⟩ := hB.out
              have hi1 : i2 < c2.length := by rw [H2.out.1]; exact hlt2
              obtain ⟨b, off, rfl, hoff, hc0, hok⟩ := H2.out.at i2 hi1
              have hc := hc0.turned (Turned.of_below hS.bel) (by simp)
              clear hc0
              generalize c2[i2] = c at *
              have hdoo := hok.1
              have HOk := Lib.hid hok
              have HEp := Lib.hid hok.2.2.2.2
              have HRd := Lib.hid (hS.rd c)
              obtain ⟨d, cls, wh, od, ⟨xe, xc, xi⟩, ep⟩ := c
              obtain ⟨k0, k1, k2, k3, k4, k5, k6, k7⟩ := hc
              simp only at k0 k1 k2 k3 k4 k5 k6 k7 hdoo HRd
              clear hok hS hB S8 hi1 HI HY HM hlt
              rcases mod7 d hdoo with hr | hr | hr | hr | hr | hr | hr
              case inl | inr.inl | inr.inr.inl | inr.inr.inr.inl =>
                obtain ⟨R, hR⟩ : ∃ R, takeR 3 ex l cls = R := ⟨_, rfl⟩
                obtain ⟨⟨re, rc, ri⟩, er, rex, rl⟩ := R
                have HR := Lib.hid hR
                clear hR
                go_wp2_with (first
                  | (go_at_call 22; ((with_reducible refine (HRd.out.takeA cls _ HR.out).mono ?_); rintro e w9 ⟨rfl, hs⟩; have S9 := Lib.hid (hs.var ⟨re, rc, ri⟩); have m1 := S9.out.cc.c1; simp only [Nat.zero_add] at m1; clear hs HRd k0 k1 k2 k3 k4 k5 k6 k7))
                  | (go_at_call 22; ((with_reducible refine (S9.out.takeB cls _ HR.out).mono ?_); rintro e wA ⟨rfl, hs0⟩; have hs := hs0.var ⟨re, rc, ri⟩; have v1 := (hs.vars (w9.heap.size, ⟨re, rc, ri⟩) (by simp)).1; have n0 := v1.c0; have n1 := v1.c1; have n2 := v1.c2; simp only at n0 n1 n2; have SA := Lib.hid hs.two; clear hs hs0 v1 m1 S9)))
                go_roundw
                case rel => exact ⟨i2 + 1, by omega, by go_num, ⟨_, _, SA.out⟩⟩
                case measure => simp [intOf]; omega
              case inr.inr.inr.inr.inr.inr =>
                obtain ⟨ys, hy⟩ : ∃ ys, canon (dueV ep) 3 ex l = ys := ⟨_, rfl⟩
                have HY := Lib.hid hy
                have HF := Lib.hid (canon_few (so := dueV ep) HRd.out.two.a.inv (by omega))
                clear hy
                go_upto_region 45 with fail
                have m7 := HRd.out.cc.c7
                simp only [Nat.zero_add] at m7
                have HSm : Hid (∀ ww a a' cap cap', RowIs ww a ys.length ys wr.heap.size → RowIs ww a' ys.length ys wr.heap.size → Calls Tryd.prog 17 #[.slice a ys.length cap, .slice a' ys.length cap'] ww fun e w' => e = .returned (.bool true) ∧ Below ww.heap.size ww w') := by
                  intro ww a a' cap cap' h h'
                  have := same ys ys a a' _ _ cap cap' ww h.1 h'.1 h.2.1 h.2.1
                  rw [decide_eq_true rfl] at this
                  exact this
                clear k0 k1 k2 k3 k4 k5 k6 k7
                have HS14 := Lib.hid m7
                generalize wr.alloc (.cells #[.int .u8 d, .int .i64 cls, .int .u16 wh, .bool od, .int .i64 xe, .int .i64 xc, .int .i64 xi, .int .u64 ep] 40) = wB at *
                generalize wr.heap.size = b14 at *
                go_region_held3 (fun w' => w'.cell? ⟨b14, 7, none⟩ = some (.int .u64 ep)) (first | exact K5.out | exact K4.out | exact K3.out | go_keep)
                  (first
                    | (go_at_call 23; ((with_reducible refine ((HRd.out.calm (Turned.refl [] _).drew).dueA ep ys HY.out).mono ?_); rintro e w3 ⟨d3, cap3', rfl, hrow, hs⟩; have S3 := Lib.hid hs; have R3 := Lib.hid hrow; have K3 := Lib.hid (show w3.cell? ⟨b14, 7, none⟩ = some (.int .u64 ep) from hs.cc.c7); clear hs hrow))
                    | (go_at_call 23; ((with_reducible refine (S3.out.dueB ep ys HY.out _ _ _ R3.out).mono ?_); rintro e w4 ⟨d4, cap4', rfl, hrow, hrow0, hs⟩; have S4 := Lib.hid hs; have R4 := Lib.hid (And.intro hrow0 hrow); have K4 := Lib.hid (show w4.cell? ⟨b14, 7, none⟩ = some (.int .u64 ep) from hs.cc.c7); clear hs hrow hrow0))
                    | (go_at_call 17; ((with_reducible refine (HSm.out _ _ _ _ _ R4.out.1 R4.out.2).mono ?_); rintro e w5 ⟨rfl, hb5⟩; have S5 := Lib.hid (S4.out.calm (Turned.of_below hb5)); have K5 := Lib.hid (show w5.cell? ⟨b14, 7, none⟩ = some (.int .u64 ep) from (S4.out.calm (Turned.of_below hb5)).cc.c7); clear hb5)))
                all_goals
                  go_wp2
                  go_roundw
                  case rel => exact ⟨i2 + 1, by omega, by go_num, ⟨_, _, S5.out.two⟩⟩
                  case measure => simp [intOf]; omega
              all_goals
                obtain ⟨ys, hy⟩ : ∃ ys, canon liveV 3 ex l = ys := ⟨_, rfl⟩
                have HY := Lib.hid hy
                have hpi := pick_i64 (so := liveV) HRd.out.two.a.inv (by omega) ⟨d, cls, wh, od, ⟨xe, xc, xi⟩, ep⟩ HOk.out
                rw [hy] at hpi
                obtain ⟨x, hx⟩ : ∃ x, pickS ys ⟨d, cls, wh, od, ⟨xe, xc, xi⟩, ep⟩ = x := ⟨_, rfl⟩
                rw [hx] at hpi
                obtain ⟨ze, zc, zi⟩ := x
                have CP : Hid (∀ a n cap base w3, RowIs w3 a n ys base → Calls Tryd.prog 25 #[.slice a n cap, .agg #[.int .u8 d, .int .i64 cls, .int .u16 wh, .bool od, .int .i64 xe, .int .i64 xc, .int .i64 xi, .int .u64 ep]] w3 fun e w' => e = .returned (.agg #[.int .i64 ze, .int .i64 zc, .int .i64 zi]) ∧ Below w3.heap.size w3 w') :=
                  fun a n cap base w3 hr => picked_any ys ⟨d, cls, wh, od, ⟨xe, xc, xi⟩, ep⟩ HOk.out a n cap base w3 hr _ hx
                have HPi := Lib.hid hpi
                go_upto_region 33 with fail
                obtain ⟨q0, q1, q2, q3, q4, q5, q6, q7⟩ := HRd.out.cc.conj
                simp only [Nat.zero_add] at q0 q1 q2 q3 q4 q5 q6 q7
                have hlt14 := HRd.out.lt
                clear k0 k1 k2 k3 k4 k5 k6 k7 hy hx hpi
                generalize wr.alloc (.cells #[.int .u8 d, .int .i64 cls, .int .u16 wh, .bool od, .int .i64 xe, .int .i64 xc, .int .i64 xi, .int .u64 ep] 40) = wB at *
                generalize wr.heap.size = b14 at *
                go_cut [19] from 133 to 199 (fun v wc => CutD w ⟨ps, pe, pm⟩ ⟨qs, qe, qm⟩ ex l b14 ⟨d, cls, wh, od, ⟨xe, xc, xi⟩, ep⟩ ⟨ze, zc, zi⟩ v wc)
                case first =>
                  go_region_held3 (fun w' => w'.cell? ⟨b14, 0, none⟩ = some (.int .u8 d) ∧ w'.cell? ⟨b14, 1, none⟩ = some (.int .i64 cls) ∧ w'.cell? ⟨b14, 2, none⟩ = some (.int .u16 wh) ∧ w'.cell? ⟨b14, 3, none⟩ = some (.bool od) ∧ w'.cell? ⟨b14, 4, none⟩ = some (.int .i64 xe) ∧ w'.cell? ⟨b14, 5, none⟩ = some (.int .i64 xc) ∧ w'.cell? ⟨b14, 6, none⟩ = some (.int .i64 xi) ∧ w'.cell? ⟨b14, 7, none⟩ = some (.int .u64 ep)) (first | exact (S4.out.var ⟨ze, zc, zi⟩).cc.conj | exact (S4.out.setv ⟨ze, zc, zi⟩).cc.conj | exact S4.out.cc.conj | exact S3.out.cc.conj | go_keep)
                    (first
                      | (go_at_call 18; ((with_reducible refine ((HRd.out.calm (Turned.refl [] _).drew).liveB ys HY.out).mono ?_); rintro e w3 ⟨d3, cap3', rfl, hrow, hs⟩; have S3 := Lib.hid hs; have R3 := Lib.hid hrow; clear hs hrow))
                      | (go_at_call 18; ((with_reducible refine (((HRd.out.var ⟨0, 0, 0⟩).calm (Turned.refl [] _).drew).liveB ys HY.out).mono ?_); rintro e w3 ⟨d3, cap3', rfl, hrow, hs⟩; have S3 := Lib.hid hs; have R3 := Lib.hid hrow; clear hs hrow))
                      | (go_at_call 25; ((with_reducible refine (CP.out _ _ _ _ _ R3.out).mono ?_); rintro e w4 ⟨rfl, hb4⟩; have S4 := Lib.hid (S3.out.calm (Turned.of_below hb4)); clear hb4; try (obtain ⟨hv, hb⟩ := S4.out.vars _ (List.mem_cons_self ..); have z0 := hv.c0; have z1 := hv.c1; have z2 := hv.c2; have f0 := hv.f 0; have f1 := hv.f 1; have f2 := hv.f 2; clear hv; simp only at hb z0 z1 z2)))
                      | (go_at_call 25; ((with_reducible refine (CP.out _ _ _ _ _ (R3.out.turned ((Turned.refl [] _).alloc _) (by simp))).mono ?_); rintro e w4 ⟨rfl, hb4⟩; have S4 := Lib.hid ((S3.out.var ⟨0, 0, 0⟩).calm (Turned.of_below hb4)); clear hb4; obtain ⟨hv, hb⟩ := S4.out.vars _ (List.mem_cons_self ..); have z0 := hv.c0; have z1 := hv.c1; have z2 := hv.c2; have f0 := hv.f 0; have f1 := hv.f 1; have f2 := hv.f 2; clear hv; simp only at hb z0 z1 z2)))
                  all_goals
                    go_wp2
                    go_meet
                    first
                      | exact ⟨_, rfl, S4.out.var ⟨ze, zc, zi⟩⟩
                      | exact ⟨_, rfl, S4.out.setv ⟨ze, zc, zi⟩⟩
                case rest =>
                  obtain ⟨b19, rfl, hRd⟩ := hcut
                  have v := (hRd.vars _ (List.mem_cons_self ..)).1
                  have z0 := v.c0
                  have z1 := v.c1
                  have z2 := v.c2
                  have z7 : wc.cell? ⟨b14, 7, none⟩ = some (.int .u64 ep) := hRd.cc.c7
                  simp only at z0 z1 z2
                  have HRc := Lib.hid hRd
                  obtain ⟨R, hR⟩ : ∃ R, dropR l ⟨ze, zc, zi⟩ ep = R := ⟨_, rfl⟩
                  obtain ⟨er, rl⟩ := R
                  have HR := Lib.hid hR
                  clear hR v hRd q0 q1 q2 q3 q4 q5 q6 q7 CP HRd
                  go_upto_region 34 with fail
                  go_region_held3 (fun w' => w'.cell? ⟨b19, 0, none⟩ = some (.int .i64 ze) ∧ w'.cell? ⟨b19, 1, none⟩ = some (.int .i64 zc) ∧ w'.cell? ⟨b19, 2, none⟩ = some (.int .i64 zi) ∧ w'.cell? ⟨b14, 7, none⟩ = some (.int .u64 ep)) (first | exact K6.out | exact K5.out | go_keep)
                    (first
                      | (go_at_call 24; ((with_reducible refine ((HRc.out.calm (Turned.refl [] _).drew).dropA _ HPi.out ep HEp.out _ HR.out).mono ?_); rintro e w5 ⟨rfl, hs⟩; have S5 := Lib.hid hs; have v := (hs.vars _ (List.mem_cons_self ..)).1; have K5 := Lib.hid (And.intro v.c0 (And.intro v.c1 (And.intro v.c2 (show w5.cell? ⟨b14, 7, none⟩ = some (.int .u64 ep) from hs.cc.c7)))); clear hs v))
                      | (go_at_call 24; ((with_reducible refine (S5.out.dropB _ HPi.out ep HEp.out _ HR.out).mono ?_); rintro e w6 ⟨rfl, hs⟩; have S6 := Lib.hid hs; have v := (hs.vars _ (List.mem_cons_self ..)).1; have K6 := Lib.hid (And.intro v.c0 (And.intro v.c1 (And.intro v.c2 (show w6.cell? ⟨b14, 7, none⟩ = some (.int .u64 ep) from hs.cc.c7)))); clear hs v)))
                  all_goals
                    go_wp2
                    go_roundw
                    case rel => exact ⟨i2 + 1, by omega, by go_num, ⟨_, _, S6.out.two⟩⟩
                    case measure => simp [intOf]; omega
            · obtain ⟨ex, l, hS⟩ := hB.out
              obtain ⟨ys, hy⟩ : ∃ ys, canon liveV 3 ex l = ys := ⟨_, rfl⟩
              obtain ⟨zs, hz⟩ : ∃ zs, canon waitV 3 ex l = zs := ⟨_, rfl⟩
              have HY := Lib.hid hy
              have HZ := Lib.hid hz
              have HS0 := Lib.hid hS
              have HSm : Hid (∀ (ys : List Slot) ww a a' cap cap' B B', RowIs ww a ys.length ys B → RowIs ww a' ys.length ys B' → Calls Tryd.prog 17 #[.slice a ys.length cap, .slice a' ys.length cap'] ww fun e w' => e = .returned (.bool true) ∧ Below ww.heap.size ww w') := by
                intro ys ww a a' cap cap' B B' h h'
                have := same ys ys a a' _ _ cap cap' ww h.1 h'.1 h.2.1 h.2.1
                rw [decide_eq_true rfl] at this
                exact this
              clear hB hS hy hz S8
              go_wp2_with (first
                | (go_at_call 18; ((with_reducible refine (HS0.out.liveA ys HY.out).mono ?_); rintro e w3 ⟨d3, cap3', rfl, hrow, hs, _⟩; have S3 := Lib.hid hs; have R3 := Lib.hid hrow; clear hs hrow HS0))
                | (go_at_call 18; ((with_reducible refine (S3.out.liveB ys HY.out).mono ?_); rintro e w4 ⟨d4, cap4', rfl, hrow, hs, ht⟩; have S4 := Lib.hid hs; have R4 := Lib.hid hrow; have R3' := Lib.hid (R3.out.turned ht (by simp)); clear hs hrow ht S3))
                | (go_at_call 17; ((with_reducible refine (HSm.out _ _ _ _ _ _ _ _ R3'.out R4.out).mono ?_); rintro e w5 ⟨rfl, hb5⟩; have S5 := Lib.hid (S4.out.calm (Turned.of_below hb5)); clear hb5 S4 R3' R4))
                | (go_at_call 20; ((with_reducible refine (S5.out.waitA zs HZ.out).mono ?_); rintro e w6 ⟨d6, cap6', rfl, hrow, hs, _⟩; have S6 := Lib.hid hs; have R6 := Lib.hid hrow; clear hs hrow S5))
                | (go_at_call 20; ((with_reducible refine (S6.out.waitB zs HZ.out).mono ?_); rintro e w7 ⟨d7, cap7', rfl, hrow, hs, ht⟩; have S7 := Lib.hid hs; have R7 := Lib.hid hrow; have R6' := Lib.hid (R6.out.turned ht (by simp)); clear hs hrow ht S6))
                | (go_at_call 17; ((with_reducible refine (HSm.out _ _ _ _ _ _ _ _ R6'.out R7.out).mono ?_); rintro e w8 ⟨rfl, hb8⟩; have S8 := Lib.hid (S7.out.calm (Turned.of_below hb8)); clear hb8 S7 R6' R7))
                | (go_at_call 8; ((with_reducible refine (HAl.out _ S8.out.a.at_.tab).mono ?_); rintro e w9 ⟨rfl, hb9⟩; have HE := Lib.hid (S8.out.bel.trans (hb9.mono S8.out.bel.size)); clear hb9)))
              go_ret
              exact ⟨rfl, HE.out⟩
end Go.Proofs.YtaikapgpkkpdjaaDoor.L
