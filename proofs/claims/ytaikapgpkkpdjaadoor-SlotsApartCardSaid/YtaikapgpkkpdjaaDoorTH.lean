/- Slots: the walk of SlotsApart. -/
import Derived.Test.YtaikapgpkkpdjaaDoorTG
namespace Go.Proofs.YtaikapgpkkpdjaaDoor.L
open Go.ChangeShapes Go.WideShapes Go.ChangeAt Go.RowKit Go.Maps Go.Proofs.YtaikapgpkkpdjaaDoor.G Go.Sort Go.Shelf Go.Lib Go.Deep
set_option linter.unusedVariables false
set_option linter.unusedSimpArgs false

theorem CallCells.conj8 {w : World} {b o : Nat} {c : CallD} (h : CallCells w b o c) : w.cell? ⟨b, o, none⟩ = some (.int .u8 c.doo) ∧ w.cell? ⟨b, o + 1, none⟩ = some (.int .i64 c.cls) ∧ w.cell? ⟨b, o + 2, none⟩ = some (.int .u16 c.which) ∧ w.cell? ⟨b, o + 3, none⟩ = some (.bool c.odd) ∧
    w.cell? ⟨b, o + 4, none⟩ = some (.int .i64 c.x.e) ∧ w.cell? ⟨b, o + 5, none⟩ = some (.int .i64 c.x.c) ∧ w.cell? ⟨b, o + 6, none⟩ = some (.int .i64 c.x.i) ∧ w.cell? ⟨b, o + 7, none⟩ = some (.int .u64 c.ep) := ⟨h.c0, h.c1, h.c2, h.c3, h.c4, h.c5, h.c6, h.c7⟩
theorem many_succ (all : List Slot) (j : Nat) (h : j < all.length) (k : Nat) : manyS (all.take (j + 1)) k = manyS (all.take j) k + if all[j].e = (k : Int) then 1 else 0 := by
  unfold manyS
  rw [take_snoc all j h, List.filter_append, List.length_append]
  by_cases e : all[j].e = (k : Int)
  · rw [if_pos e, List.filter_cons_of_pos (by simpa using e)]; rfl
  · rw [if_neg e, List.filter_cons_of_neg (by simpa using e)]; rfl
theorem many_le (all : List Slot) (k : Nat) : manyS all k ≤ all.length := List.length_filter_le _ _
/-- slots, a call's variable, and all that were there -/
structure Wx (w ww : World) (bs be bm n : Nat) (pg : Int) (ex : Exts) (l : States) (B : Nat) (c : CallD) (g : Option Addr) (m : Nat) : Prop where
  al : AL w ww bs be bm n pg ex l []
  cc : CallCells ww B 0 c
  far : be < B ∧ bm < B
  row : RowIs ww g m (allS n ex l) B
theorem Wx.calm {w ww w3 : World} {bs be bm n : Nat} {pg : Int} {ex : Exts} {l : States} {B : Nat} {c : CallD} {g : Option Addr} {m : Nat} (h : Wx w ww bs be bm n pg ex l B c g m) (t : Turned [] ww w3) : Wx w w3 bs be bm n pg ex l B c g m :=
  ⟨h.al.calm t, h.cc.turned t (by simp), h.far, h.row.turned t (by simp)⟩
def LoopP (w wr : World) (bs be bm n : Nat) (pg : Int) : Prop := ∃ ex l, AL w wr bs be bm n pg ex l []
theorem AL.stepP {w ww w3 : World} {bs be bm n : Nat} {pg : Int} {ex ex' : Exts} {l l' : States} (h : AL w ww bs be bm n pg ex l []) (hs : St w3 bs be bm n pg ex' l') {S : List Nat} (t : Turned S ww w3) (hS : ∀ i ∈ S, i = be ∨ i = bm) : AL w w3 bs be bm n pg ex' l' [] := h.step hs t hS
theorem mod7' (d : Int) (h : 0 ≤ d ∧ d ≤ 255) : (d % 7 = 0 ∨ d % 7 = 1 ∨ d % 7 = 2 ∨ d % 7 = 3) ∨ d % 7 = 4 ∨ d % 7 = 5 ∨ d % 7 = 6 := by omega

/-- a page's size that the law takes -/
def PgV (v : Value) : Prop := ∃ u : Int, (u = 64 ∨ u = 128) ∧ v = .int .i64 (16 * u)

set_option maxRecDepth 100000 in
set_option maxHeartbeats 8000000 in
theorem apart_law (a0 a1 : Int) (a2 : Option Addr) (len cap : Nat) (cs : List CallD) (w : World) (ha0 : 0 ≤ a0 ∧ a0 ≤ 255) (ha1 : 0 ≤ a1 ∧ a1 ≤ 255) (hT : Tab w) (h2 : CallsAt w a2 len cs) :
    Calls Tryd.prog 4 #[.int .u8 a0, .int .u8 a1, .slice a2 len cap] w fun e w' => e = .returned (.bool true) ∧ Below w.heap.size w w' := by
  have HAl := Lib.hid alive
  have HT := Lib.hid hT
  by_cases hb1 : 60 < len
  · clear hT h2
    go_enter Tryd.func4, Tryd.ntmps4
    go_wp2_with (go_at_call 8; ((with_reducible refine (HAl.out _ HT.out).mono ?_); rintro e wE ⟨rfl, hb⟩))
    go_ret
    exact ⟨rfl, hb⟩
  obtain ⟨N, hN⟩ : ∃ N : Nat, a0 % 6 = N := ⟨(a0 % 6).toNat, by omega⟩
  have hN5 : N ≤ 5 := by omega
  have H2 := Lib.hid h2
  have hd1 : decide ((60 : Int) < len) = false := by simp; omega
  have hpar : a1 % 2 = 0 ∨ a1 % 2 = 1 := by omega
  clear hT h2
  go_enter Tryd.func4, Tryd.ntmps4
  go_upto_region 3 with fail
  go_cut [7] (fun v wc => PgV v ∧ wc = w)
  case first =>
    rcases hpar with hr | hr
    · go_wp2
      go_meet
      exact ⟨⟨64, .inl rfl, rfl⟩, rfl⟩
    · go_wp2
      go_meet
      exact ⟨⟨128, .inr rfl, rfl⟩, rfl⟩
  case rest =>
    obtain ⟨⟨u, hu, rfl⟩, rfl⟩ := hcut
    obtain ⟨pg, hpg⟩ : ∃ pg : Int, 16 * u = pg := ⟨_, rfl⟩
    have hpb : 1024 ≤ pg ∧ pg ≤ 2048 := by omega
    have hip : isPage pg = true := by rcases hu with rfl | rfl <;> subst hpg <;> decide
    obtain ⟨p4, hp4⟩ : ∃ p4 : Int, 4 * pg = p4 := ⟨_, rfl⟩
    have hp4b : 4096 ≤ p4 ∧ p4 ≤ 8192 := by omega
    have hpn0 : 0 ≤ p4 * (N : Int) ∧ p4 * (N : Int) ≤ 8192 * 5 := ⟨Int.mul_nonneg (by omega) (by omega), Int.mul_le_mul (by omega) (by omega) (by omega) (by omega)⟩
    obtain ⟨pn, hpn⟩ : ∃ pn : Int, p4 * (N : Int) = pn := ⟨_, rfl⟩
    rw [hpn] at hpn0
    have hdiv : (pn + pg) / (4 * pg) = N := by
      rcases hu with rfl | rfl
      · obtain rfl : pg = 1024 := by omega
        obtain rfl : p4 = 4096 := by omega
        omega
      · obtain rfl : pg = 2048 := by omega
        obtain rfl : p4 = 8192 := by omega
        omega
    have C9 := Lib.hid (new_any (pn + pg) pg N hip (by omega) (by omega) hdiv wc HT.out)
    have CE : Hid (∀ bs be bm ex l ww, St ww bs be bm N pg ex l → Calls Tryd.prog 11 #[.pointer (some ⟨bs, 0, none⟩)] ww fun e w' => e = .returned (.int .i64 N) ∧ ww = w') := fun bs be bm ex l ww h => extents bs be bm N pg ex l ww h.at_
    have CX : Hid (∀ bs be bm ex l ww, St ww bs be bm N pg ex l → Calls Tryd.prog 26 #[.pointer (some ⟨bs, 0, none⟩), .int .i64 N, .int .i64 pg] ww fun e w' => e = .returned (.bool true) ∧ Below ww.heap.size ww w') := fun bs be bm ex l ww h => apart_fn u hu hpg.symm hN5 h
    rw [hpg]
    have hlen60 : len ≤ 60 := by omega
    clear hpar hu hpg hip hdiv hb1
    go_upto_block 1 with (first
      | (go_at_call 9; ((with_reducible refine C9.out.mono ?_); rintro e w1 ⟨bs, be, bm, rfl, hs, hn, ht⟩; have S0 : Hid (AL wc w1 bs be bm N pg ex0 [] []) := ⟨hs, hn, ht.below, by simp⟩; clear hs hn ht C9))
      | (go_at_call 11; ((with_reducible refine (CE.out _ _ _ _ _ _ S0.out.st).mono ?_); rintro e w2 ⟨rfl, rfl⟩)))
    clear hp4 hpn hd1
    go_loopw [11] (fun v wr => ∃ i : Nat, i ≤ len ∧ v = .int .i64 i ∧ Hid (LoopP wc wr bs be bm N pg)) (fun v _ => len - (intOf v).toNat)
    case atStart => exact ⟨0, Nat.zero_le _, rfl, ⟨_, _, S0.out⟩⟩
    case round =>
      obtain ⟨i, hi, rfl, hB⟩ := hrel
      by_cases hlt : i < len
      · obtain ⟨ex, l, hS⟩ := hB.out
        have hi1 : i < cs.length := by rw [H2.out.1]; exact hlt
        obtain ⟨b, off, rfl, hoff, hc0, hok⟩ := H2.out.at i hi1
        have hc := hc0.turned (Turned.of_below hS.bel) (by simp)
        clear hc0
        generalize cs[i] = c at *
        have hdoo := hok.1
        have HOk := Lib.hid hok
        have HEp := Lib.hid hok.2.2.2.2
        have hcls := hok.2.1
        have hal : AL wc (wr.alloc (.cells #[.int .u8 c.doo, .int .i64 c.cls, .int .u16 c.which, .bool c.odd, .int .i64 c.x.e, .int .i64 c.x.c, .int .i64 c.x.i, .int .u64 c.ep] 40)) bs be bm N pg ex l [] := hS.calm ((Turned.refl [] wr).alloc _)
        have hccn := callCells_new wr c
        have hfw := canon_few (so := waitV) hS.st.inv (by omega)
        have hfl := canon_few (so := liveV) hS.st.inv (by omega)
        have HFar : Hid (be < wr.heap.size ∧ bm < wr.heap.size) := ⟨hS.st.lt.2.1, hS.st.lt.2.2⟩
        have hall : (canon liveV N ex l).length + (canon waitV N ex l).length = (allS N ex l).length := by unfold allS; rw [List.length_append]
        have hlenA := allS_len hS.st.inv
        obtain ⟨d, cls, wh, od, ⟨xe, xc, xi⟩, ep⟩ := c
        obtain ⟨k0, k1, k2, k3, k4, k5, k6, k7⟩ := hc
        simp only at k0 k1 k2 k3 k4 k5 k6 k7 hdoo hal hcls hccn
        have HAl0 := Lib.hid hal
        have HCc := Lib.hid hccn
        have HFF := Lib.hid (And.intro hfl hfw)
        have HLA := Lib.hid (And.intro hall hlenA)
        clear hok hS hB S0 hi1 hal hccn hfw hfl hall hlenA
        have HBs : Hid (wr.heap.size ≤ (wr.alloc (.cells #[.int .u8 d, .int .i64 cls, .int .u16 wh, .bool od, .int .i64 xe, .int .i64 xc, .int .i64 xi, .int .u64 ep] 40)).heap.size) := by
          exact Lib.hid (by simp)
        go_upto_region 12 with fail
        generalize wr.alloc (.cells #[.int .u8 d, .int .i64 cls, .int .u16 wh, .bool od, .int .i64 xe, .int .i64 xc, .int .i64 xi, .int .u64 ep] 40) = wB at *
        obtain ⟨B, hBe⟩ : ∃ B, wr.heap.size = B := ⟨_, rfl⟩
        rw [hBe] at HCc HFar HBs
        rw [hBe]
        clear hBe k0 k1 k2 k3 k4 k5 k6 k7
        go_upto_region 13 with (first
          | (go_at_call 18; ((with_reducible refine (live_any bs be bm N pg ex l _ HAl0.out.st).mono ?_); rintro e w3 ⟨v1, rfl, ho1, hb1⟩; have S1 := Lib.hid (HAl0.out.calm (Turned.of_below hb1)); have O1 := Lib.hid (And.intro ho1 hb1); clear ho1 hb1))
          | (go_at_call 20; ((with_reducible refine (waiting_any bs be bm N pg ex l _ S1.out.st).mono ?_); rintro e w4 ⟨v2, rfl, ho2, hb2⟩; have O2 := Lib.hid (And.intro (owns_turned O1.out.1 (Turned.of_below hb2) (by simp)) (And.intro ho2 (And.intro (O1.out.2.trans (hb2.mono O1.out.2.size)) O1.out.2.size))); clear ho2 hb2))
          | (at_builtin; refine wpList_append_rows rfl _ _ rfl wB.heap.size w3.heap.size _ _ _ _ _ _ rfl O2.out.1 rfl O2.out.2.1 HFF.out.1 HFF.out.2 O2.out.2.2.1.size ?_; intro v3 w5 ho3 hg3; have O3 := Lib.hid (And.intro ho3 hg3); clear ho3 hg3))
        have ho3 := O3.out.1
        rw [HLA.out.1] at ho3
        have ho3' : w5.ownsRow wB.heap.size 24 3 v3 (allS N ex l).length (flat (allS N ex l)) := ho3
        obtain ⟨g, cap3, rfl, hs3, hb3⟩ := sl3_of_owns ho3'
        have hbel3 : Below wB.heap.size wB w5 := O2.out.2.2.1.grown O3.out.2 O2.out.2.2.1.size (fun k hk => own_above O1.out.1 k hk)
        obtain ⟨m, hm⟩ : ∃ m, (allS N ex l).length = m := ⟨_, rfl⟩
        have HM := Lib.hid hm
        have hm2 : m ≤ 320 := by have := HLA.out.2; omega
        have W0 : Hid (Wx wc w5 bs be bm N pg ex l B ⟨d, cls, wh, od, ⟨xe, xc, xi⟩, ep⟩ g m) :=
          ⟨HAl0.out.calm (Turned.of_below hbel3), HCc.out.turned (Turned.of_below hbel3) (by simp), HFar.out, ⟨hm ▸ hs3, by omega, fun x hx => by have := (hb3 x hx).1; have := HBs.out; omega⟩⟩
        rw [hm]
        clear hm hs3 hb3 hbel3 ho3 ho3' O1 O2 O3 S1 HLA HFF HAl0 HBs
        have k0 : w5.cell? ⟨B, 0, none⟩ = some (.int .u8 d) := W0.out.cc.c0
        go_upto_block 2 with fail
        clear k0
        go_cut [11, 14, 15, 16, 17, 18, 19, 20] from 72 to 154 (fun v x14 x15 x16 x17 x18 x19 x20 w9 => v = .int .i64 i ∧ LoopP wc w9 bs be bm N pg)
        case rest =>
          obtain ⟨rfl, ex', l', hS⟩ := hcut
          have HS := Lib.hid hS
          clear hS W0
          go_wp2_with (first | (go_at_call 26; ((with_reducible refine (CX.out _ _ _ _ _ _ HS.out.st).mono ?_); rintro e wE ⟨rfl, hb⟩; have HS2 := Lib.hid (HS.out.calm (Turned.of_below hb)); clear hb)))
          go_roundw
          case rel => exact ⟨i + 1, by omega, by go_num, ⟨_, _, HS2.out⟩⟩
          case measure => simp [intOf]; omega
        case first =>
          rcases mod7' d hdoo with hr | hr | hr | hr
          case inr.inr.inr =>
            have k7 : w5.cell? ⟨B, 7, none⟩ = some (.int .u64 ep) := W0.out.cc.c7
            go_wp2_with (first
              | (go_at_call 23; ((with_reducible refine (due_any bs be bm N pg ex l ep _ W0.out.al.st).mono ?_); rintro e w6 ⟨v6, rfl, _, hs, ht⟩; have S6 := Lib.hid (W0.out.al.stepP hs ht (by intro i hi; simpa using hi)); clear hs ht)))
            go_meet
            exact ⟨rfl, _, _, S6.out⟩
          case inr.inl | inr.inr.inl =>
            obtain ⟨ys, hy⟩ : ∃ ys, canon liveV N ex l = ys := ⟨_, rfl⟩
            have hpi := pick_i64 (so := liveV) W0.out.al.st.inv (by omega) ⟨d, cls, wh, od, ⟨xe, xc, xi⟩, ep⟩ HOk.out
            have hfl := canon_few (so := liveV) W0.out.al.st.inv (by omega)
            rw [hy] at hpi hfl
            obtain ⟨x, hx⟩ : ∃ x, pickS ys ⟨d, cls, wh, od, ⟨xe, xc, xi⟩, ep⟩ = x := ⟨_, rfl⟩
            rw [hx] at hpi
            obtain ⟨ze, zc, zi⟩ := x
            have CL : Hid (∀ ww, St ww bs be bm N pg ex l → Calls Tryd.prog 18 #[.pointer (some ⟨bs, 0, none⟩)] ww fun e w' => ∃ a cap, e = .returned (.slice a ys.length cap) ∧ RowIs w' a ys.length ys ww.heap.size ∧ Below ww.heap.size ww w') := by
              intro ww h
              refine (live_any bs be bm N pg ex l ww h).mono fun e w' ⟨v, h1, h2, h3⟩ => ?_
              rw [hy] at h2
              obtain ⟨a, cap, rfl, hr⟩ := rowIs_of hfl h2
              exact ⟨a, cap, by rw [h1], hr, h3⟩
            have CP : Hid (∀ a n cap base w3, RowIs w3 a n ys base → Calls Tryd.prog 25 #[.slice a n cap, .agg #[.int .u8 d, .int .i64 cls, .int .u16 wh, .bool od, .int .i64 xe, .int .i64 xc, .int .i64 xi, .int .u64 ep]] w3 fun e w' => e = .returned (.agg #[.int .i64 ze, .int .i64 zc, .int .i64 zi]) ∧ Below w3.heap.size w3 w') :=
              fun a n cap base w3 hr => picked_any ys ⟨d, cls, wh, od, ⟨xe, xc, xi⟩, ep⟩ HOk.out a n cap base w3 hr _ hx
            have CD : Hid (∀ ww, St ww bs be bm N pg ex l → Calls Tryd.prog 24 #[.pointer (some ⟨bs, 0, none⟩), .agg #[.int .i64 ze, .int .i64 zc, .int .i64 zi], .int .u64 ep] ww (dropPost bs be bm N pg ex (dropR l ⟨ze, zc, zi⟩ ep) ww)) := fun ww h => drop_any bs be bm N pg ex l ⟨ze, zc, zi⟩ ep hpi ww h
            obtain ⟨q0, q1, q2, q3, q4, q5, q6, q7⟩ := W0.out.cc.conj8
            simp only [Nat.zero_add] at q0 q1 q2 q3 q4 q5 q6 q7
            clear hy hx hpi hfl
            go_upto_region 14 with fail
            go_region_held3 (fun w' => w'.cell? ⟨B, 0, none⟩ = some (.int .u8 d) ∧ w'.cell? ⟨B, 1, none⟩ = some (.int .i64 cls) ∧ w'.cell? ⟨B, 2, none⟩ = some (.int .u16 wh) ∧ w'.cell? ⟨B, 3, none⟩ = some (.bool od) ∧ w'.cell? ⟨B, 4, none⟩ = some (.int .i64 xe) ∧ w'.cell? ⟨B, 5, none⟩ = some (.int .i64 xc) ∧ w'.cell? ⟨B, 6, none⟩ = some (.int .i64 xi) ∧ w'.cell? ⟨B, 7, none⟩ = some (.int .u64 ep)) (first | exact K8.out | exact S7.out.cc.conj8 | exact S6.out.cc.conj8 | go_keep)
              (first
                | (go_at_call 18; ((with_reducible refine (CL.out _ (W0.out.calm (Turned.refl [] _).drew).al.st).mono ?_); rintro e w6 ⟨d6, cap6, rfl, hrow, hb6⟩; have S6 := Lib.hid ((W0.out.calm (Turned.refl [] _).drew).calm (Turned.of_below hb6)); have R6 := Lib.hid hrow; clear hrow hb6))
                | (go_at_call 25; ((with_reducible refine (CP.out _ _ _ _ _ R6.out).mono ?_); rintro e w7 ⟨rfl, hb7⟩; have S7 := Lib.hid (S6.out.calm (Turned.of_below hb7)); clear hb7))
                | (go_at_call 24; ((with_reducible refine (CD.out _ S7.out.al.st).mono ?_); rintro e w8 ⟨rfl, hs, ht⟩; have S8 := Lib.hid (S7.out.al.stepP hs ht (by intro i hi; right; simpa using hi)); have K8 := Lib.hid (S7.out.cc.turned ht (by have := S7.out.far; simp; omega)).conj8; clear hs ht)))
            all_goals
              go_wp2
              go_meet
              exact ⟨rfl, _, _, S8.out⟩
          case inl =>
            have k1 : w5.cell? ⟨B, 1, none⟩ = some (.int .i64 cls) := W0.out.cc.c1
            have hcb := hcls
            unfold I64 at hcb
            have hmb : -6 < Int.tmod cls 6 ∧ Int.tmod cls 6 < 6 := by
              have h1 := Int.tmod_lt_of_pos cls (show (0 : Int) < 6 by omega)
              have h2 := Int.tmod_lt_of_pos (-cls) (show (0 : Int) < 6 by omega)
              rw [Int.neg_tmod] at h2
              omega
            obtain ⟨c1, hc1⟩ : ∃ c1, Int.tmod cls 6 = c1 := ⟨_, rfl⟩
            rw [hc1] at hmb
            obtain ⟨k, hk⟩ : ∃ k, (c1 + 6) % 6 = k := ⟨_, rfl⟩
            have hk5 : 0 ≤ k ∧ k ≤ 5 := by omega
            rcases hr with hr | hr | hr | hr
            all_goals
              go_upto_block 4 with fail
              rw [hk]
              clear k1 hc1 hmb hr
              go_loopw [15, 16] (fun r v wr => ∃ x : Nat, x ≤ N ∧ v = .int .i64 x ∧ r = .bool (roomB N ex l k x) ∧ Hid (Wx wc wr bs be bm N pg ex l B ⟨d, cls, wh, od, ⟨xe, xc, xi⟩, ep⟩ g m)) (fun _ v _ => N - (intOf v).toNat)
              case atStart => exact ⟨0, Nat.zero_le _, rfl, rfl, W0.out⟩
              case round =>
                obtain ⟨x, hx, rfl, rfl, hW⟩ := hrel
                by_cases hxn : x < N
                · go_upto_block 6 with fail
                  go_loop [17, 18] (fun many j => ∃ jj : Nat, jj ≤ m ∧ j = .int .i64 jj ∧ many = .int .i64 (manyS ((allS N ex l).take jj) x : Nat)) (fun _ j => m - (intOf j).toNat)
                  case atStart => exact ⟨0, Nat.zero_le _, rfl, rfl⟩
                  case round =>
                    obtain ⟨jj, hj, rfl, rfl⟩ := hrel
                    by_cases hjm : jj < m
                    · have hjl : jj < (allS N ex l).length := by rw [HM.out]; exact hjm
                      obtain ⟨b3, off3, rfl, q0, q1, q2⟩ := hW.out.row.1.at jj hjl
                      have hms := many_succ (allS N ex l) jj hjl x
                      have hml := many_le ((allS N ex l).take jj) x
                      rw [List.length_take] at hml
                      have hml2 : manyS ((allS N ex l).take jj) x ≤ 320 := by omega
                      generalize ((allS N ex l)[jj]).e = ye at *
                      generalize manyS ((allS N ex l).take jj) x = mm at *
                      have HMs := Lib.hid hms
                      clear hms hml q1 q2
                      by_cases hye : ye = x
                      · subst hye
                        go_wp2
                        go_round
                        case rel => exact ⟨jj + 1, by omega, by go_num, by rw [HMs.out, if_pos rfl]; go_num⟩
                        case measure => simp [intOf]; omega
                      · have hyb : (ye == (x : Int)) = false := by simpa using hye
                        have HYe := Lib.hid hye
                        clear hye
                        go_wp2
                        go_round
                        case rel => exact ⟨jj + 1, by omega, by go_num, by rw [HMs.out, if_neg HYe.out]; rfl⟩
                        case measure => simp [intOf]; omega
                    · have hall : (allS N ex l).take jj = allS N ex l := List.take_of_length_le (by rw [HM.out]; omega)
                      rw [hall]
                      have hml := many_le (allS N ex l) x
                      rw [HM.out] at hml
                      have hrs := room_succ N ex l k x
                      have CC : Hid (∀ ww, St ww bs be bm N pg ex l → Calls Tryd.prog 13 #[.pointer (some ⟨bs, 0, none⟩), .int .i64 x] ww fun e w' => e = .returned (.int .i64 ((ex x).1 - 1)) ∧ ww = w') := by
                        intro ww h
                        have := class_ bs be bm N pg ex l x ww h.at_
                        rw [show classX N ex x = (ex x).1 - 1 by unfold classX; rw [if_neg (by omega)]; simp] at this
                        exact this
                      have CS := Lib.hid (slots k)
                      have hsb := slotsC_le k
                      generalize (ex x).1 - 1 = cx at *
                      generalize manyS (allS N ex l) x = mm at *
                      generalize slotsC k = sl at *
                      generalize hrb : roomB N ex l k x = b0 at *
                      have hml3 : mm ≤ 320 := by omega
                      have HRs := Lib.hid hrs
                      have HAW := Lib.hid hW.out
                      clear hall hml hrs hrb hW hk
                      cases b0 with
                      | true =>
                        go_wp2_with (first
                          | (go_at_call 13; ((with_reducible refine (CC.out _ HAW.out.al.st).mono ?_); rintro e wa ⟨rfl, rfl⟩)))
                        go_roundw
                        case rel => exact ⟨x + 1, by omega, by go_num, by rw [HRs.out]; rfl, HAW.out⟩
                        case measure => simp [intOf]; omega
                      | false =>
                        by_cases hcx : cx < 0
                        · have hcb : decide (cx < 0) = true := by simpa using hcx
                          have HCb := Lib.hid hcb
                          clear hcx
                          go_wp2_with (first
                            | (go_at_call 13; ((with_reducible refine (CC.out _ HAW.out.al.st).mono ?_); rintro e wa ⟨rfl, rfl⟩)))
                          go_roundw
                          case rel => exact ⟨x + 1, by omega, by go_num, by rw [HRs.out, HCb.out]; rfl, HAW.out⟩
                          case measure => simp [intOf]; omega
                        · have hcb : decide (cx < 0) = false := by simpa using hcx
                          have HCb := Lib.hid hcb
                          by_cases hck : cx = k
                          · subst hck
                            obtain ⟨D, hD⟩ : ∃ D, decide ((mm : Int) < sl) = D := ⟨_, rfl⟩
                            have HD := Lib.hid hD
                            go_wp2_with (first
                              | (go_at_call 13; ((with_reducible refine (CC.out _ HAW.out.al.st).mono ?_); rintro e wa ⟨rfl, rfl⟩))
                              | (go_at_call 21; ((with_reducible refine (CS.out _).mono ?_); rintro e wb ⟨rfl, hbb⟩; have HAW2 := Lib.hid (HAW.out.calm (Turned.of_below hbb)); clear hbb)))
                            go_roundw
                            case rel => exact ⟨x + 1, by omega, by go_num, by rw [HRs.out, HCb.out, HD.out]; simp, HAW2.out⟩
                            case measure => simp [intOf]; omega
                          · have hkb : (cx == k) = false := by simpa using hck
                            have hkd : decide (cx = k) = false := by simpa using hck
                            have HKd := Lib.hid hkd
                            clear hck hkd
                            go_wp2_with (first
                              | (go_at_call 13; ((with_reducible refine (CC.out _ HAW.out.al.st).mono ?_); rintro e wa ⟨rfl, rfl⟩)))
                            go_roundw
                            case rel => exact ⟨x + 1, by omega, by go_num, by rw [HRs.out, HCb.out, HKd.out]; simp, HAW.out⟩
                            case measure => simp [intOf]; omega
                · have hxe : x = N := by omega
                  subst hxe
                  have htr := take_room hW.out.al.st.inv k hk5
                  have CT : Hid (∀ R, takeR x ex l k = R → Calls Tryd.prog 22 #[.pointer (some ⟨bs, 0, none⟩), .int .i64 k] wr fun e w' => e = .returned (.tuple #[.agg #[.int .i64 R.x.e, .int .i64 R.x.c, .int .i64 R.x.i], .int .i64 R.err]) ∧ LoopP wc w' bs be bm x pg) := by
                    intro R hR
                    refine (take_any bs be bm x pg ex l k wr hW.out.al.st).mono fun e w' ⟨h1, h2, h3⟩ => ?_
                    rw [hR] at h1 h2
                    exact ⟨h1, _, _, hW.out.al.stepP h2 h3 (by intro i hi; simpa using hi)⟩
                  obtain ⟨R, hR⟩ : ∃ R, takeR x ex l k = R := ⟨_, rfl⟩
                  rw [hR] at htr
                  have CT' := Lib.hid (CT.out R hR)
                  obtain ⟨⟨re, rc, ri⟩, er, rex, rl⟩ := R
                  generalize roomB x ex l k x = rb at *
                  simp only at htr CT'
                  clear CT hR hW hk hxn
                  rcases htr with ⟨rfl, rfl⟩ | ⟨rfl, rfl⟩
                  all_goals
                    go_wp2_with (first
                      | (go_at_call 22; ((with_reducible refine CT'.out.mono ?_); rintro e wa ⟨rfl, hs⟩; have SA := Lib.hid hs; clear hs)))
                    go_meet
                    obtain ⟨ex', l', hf⟩ := SA.out
                    exact ⟨rfl, ex', l', hf.calm ((Turned.refl [] _).alloc _)⟩
      · go_wp2_with (first | (go_at_call 8; ((with_reducible refine (HAl.out _ ?_).mono ?_); (exact (show Tab wr from by obtain ⟨_, _, h⟩ := hB.out; exact h.st.at_.tab)); rintro e wE ⟨rfl, hb⟩)))
        go_ret
        obtain ⟨_, _, h⟩ := hB.out
        exact ⟨rfl, h.bel.trans (hb.mono h.bel.size)⟩
end Go.Proofs.YtaikapgpkkpdjaaDoor.L
