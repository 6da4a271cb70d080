/- Radix: pages in any order: the walk. -/
import Derived.Test.YtmpbhoijkcanmaaSN
import Derived.Deep.DeepCutAuto
import Derived.Test.YtmpbhoijkcanmaaGAp
namespace Go.Proofs.Ytmpbhoijkcanmaa.R
open Go.ChangeShapes Go.WideShapes Go.ChangeAt Go.RowKit Go.Maps Go.Proofs.Ytmpbhoijkcanmaa.G
set_option linter.unusedVariables false
set_option linter.unusedSimpArgs false
set_option linter.unnecessarySimpa false

def So2 (w wr : World) (f bm L0 a0 : Nat) (ps : List Nat) (M : List (Int × Value)) (j : Nat) (bv pv : Value) : Prop := ∃ F b rem, bv = .int .i64 ((b : Nat) : Int) ∧ StO w wr f (L0 + 3 * j) F pv rem bm M [] ∧ PlO F a0 ps M ∧ PlB F a0 b rem ∧ rem.length + j = ps.length ∧ ∀ q, q ∈ rem → q ∈ ps
/-- behind Set, the page not yet taken away -/
def So3 (w wr : World) (f bm L a0 : Nat) (ps : List Nat) (M : List (Int × Value)) (k : Nat) (rem : List Nat) (b : Nat) (pv : Value) : Prop := ∃ F, StO w wr f L F pv rem bm M [] ∧ PlO F a0 ps M ∧ PlB F a0 b (rem.eraseIdx k)
def So1 (w wr : World) (f bm i : Nat) (av pv : Value) : Prop := ∃ F a ps M, av = .int .i64 ((a : Nat) : Int) ∧ StO w wr f (3 * i) F pv ps bm M [] ∧ PlO F a ps M ∧ ps.length ≤ i
theorem infoOrI : (Try.prog.info? 3).map (fun i => (i.zero, i.size, i.bytes)) = some (some (.int .i64 0), 1, 8) := by kernel_rfl
theorem len_gtO {n : Nat} (h : 20 < n) : decide ((20 : Int) < n) = true := by simp; omega
theorem len_leO {n : Nat} (h : ¬ 20 < n) : decide ((20 : Int) < n) = false := by simp; omega
theorem zeroEnt (w : World) : (zeroValue 33).run Try.prog w = .ok (encE zeroE) w := by kernel_rfl
theorem StO.look {w ww : World} {f L : Nat} {F : Fo} {pv : Value} {ps : List Nat} {bm : Nat} {M : List (Int × Value)} {ex : List (Value × List Pr)} (h : StO w ww f L F pv ps bm M ex) {qs : List Nat} {a p : Nat} (hp : PlO F a qs M) (hp4 : p < 4096) (c : Bool) :
    (Instr.lookup 27 (.map (some bm)) (.int .i64 (p : Nat)) c).run Try.prog ww = .ok (if c then .tuple #[encE ((getL 2 F a p).getD zeroE), .bool (getL 2 F a p).isSome] else encE ((getL 2 F a p).getD zeroE)) ww := by
  obtain ⟨k, hk⟩ := keyI (p : Nat) (by unfold I64; omega)
  have := h.map.run_look keyedI encI_inj Try.underlying27 (zeroEnt ww) (p : Nat) hk c
  rw [hp.get p hp4, Option.isSome_map] at this
  have e : ((getL 2 F a p).map encE).getD (encE zeroE) = encE ((getL 2 F a p).getD zeroE) := by cases getL 2 F a p <;> rfl
  rw [e] at this
  exact this
theorem sizeInt (w : World) : (sizeOf (Try.prog.elem 28)).run Try.prog w = .ok 1 w := by kernel_rfl
theorem addr_none (b off n : Nat) : (⟨b, off, none⟩ : Addr).add n = ⟨b, off + n, none⟩ := by
  unfold Addr.add
  split
  · next h => subst h; rfl
  · rfl
theorem le_alloc (w : World) (o : Obj) : w.heap.size ≤ (w.alloc o).heap.size := by simp
theorem owns_emptyd (w : World) (t : TypeId) (size : Nat) : (w.alloc (.cells #[] t)).drew.ownsRow w.heap.size t size (.slice (some ⟨w.heap.size, 0, none⟩) 0 0) 0 [] := owns_empty w t size
theorem le_allocd (w : World) (o : Obj) : w.heap.size ≤ (w.alloc o).drew.heap.size := by simp
theorem oneR (l : List Nat) : ∀ u, u ∈ l.map encR → u.oneCell' = true := by
  intro u hu
  obtain ⟨r, _, rfl⟩ := List.mem_map.1 hu
  rfl
theorem news_len {rem : List Nat} {rl k : Nat} (h : rem.length = rl) (hk : k < rl) : ((rem.take k).map encR).length = k * 1 ∧ ((rem.drop (k + 1)).map encR).length = (rl - (k + 1)) * 1 := by
  simp [h]; omega
theorem news_cells {w w3 : World} {f L rb roff rl rcap bm k : Nat} {F : Fo} {rem : List Nat} {M : List (Int × Value)} {ex : List (Value × List Pr)} {A2 : Addr} (h : StO w w3 f L F (.slice (some ⟨rb, roff, none⟩) rl rcap) rem bm M ex) (hl : rem.length = rl) (hA : sufA rb roff rcap (k + 1) = A2) (hk : k < rl) :
    (∀ o j u, ((rem.take k).map encR)[j]? = some u → (w3.alloc o).cell? ((⟨rb, roff, none⟩ : Addr).add j) = some u) ∧
    (∀ w4, Below w3.heap.size w3 w4 → ∀ j u, ((rem.drop (k + 1)).map encR)[j]? = some u → w4.cell? (A2.add j) = some u) := by
  have hr := h.row
  rw [hl] at hr
  have key : ∀ j u, (rem.map encR)[j]? = some u → w3.cell? ⟨rb, roff + j, none⟩ = some u := fun j u hu => cell_of_owns hr hu
  refine ⟨fun o j u hu => ?_, fun w4 hb j u hu => ?_⟩
  · rw [addr_none]
    refine ((Turned.refl [] w3).alloc o).cell (key j u ?_) (by simp)
    rw [List.map_take, List.getElem?_take] at hu
    split at hu
    · exact hu
    · cases hu
  · rw [List.map_drop, List.getElem?_drop] at hu
    have hlt : k + 1 + j < rl := by
      rcases Nat.lt_or_ge (k + 1 + j) rl with q | q
      · exact q
      · rw [List.getElem?_eq_none (by simpa [hl] using q)] at hu; cases hu
    have hcap : ¬ rcap = k + 1 := by
      rcases hr.2 with ⟨e, _⟩ | ⟨g, c', cur, e, hg, _, hn, _⟩
      · cases e
      · simp only [Value.slice.injEq, Option.some.injEq, Addr.mk.injEq] at e
        omega
    rw [← hA]
    unfold sufA
    rw [if_neg hcap, addr_none]
    have := key _ u hu
    rw [show roff + (k + 1) + j = roff + (k + 1 + j) by omega]
    exact (Turned.of_below hb).cell this (by simp)
theorem below_app {w w4 : World} {o : Obj} (h : (w.alloc o).drew.grownBy w4 (some w.heap.size)) : Below w.heap.size w w4 :=
  Turned.below (((((Turned.refl [] w).alloc o).drew).grown h) fun k e => .inr (by simp only [Option.some.injEq] at e; omega))
set_option maxRecDepth 100000 in
set_option maxHeartbeats 4000000 in
theorem order_law (a b : Option Addr) (n m cap capb : Nat) (l : List PutD) (of : List Nat) (w : World) (hl : PutsAt w a n l) (hok : ∀ x, x ∈ l → x.ok) (hm : m ≤ maxLen) (ho : BytesAt w b m of) (hof : ∀ x, x ∈ of → x < 256) (hn : n ≤ maxLen) :
    Calls Try.prog 3 #[.slice a n cap, .slice b m capb] w fun e w' => e = .returned (.bool true) ∧ Below w.heap.size w w' := by
  have HAl := Lib.hid alive23
  have HB0 := Lib.hid (Below.refl w.heap.size w)
  unfold maxLen at hm hn
  by_cases hlen : 20 < n
  · have hd := len_gtO hlen
    clear hl hok ho hof
    go_enter Try.func3, Try.ntmps3
    go_wp2_with (go_at_call 10; ((with_reducible refine (HAl.out _).mono ?_); rintro e wE ⟨rfl, hb⟩))
    go_ret
    exact ⟨rfl, hb⟩
  have hd := len_leO hlen
  have CN := Lib.hid (new_lv (Below.refl w.heap.size w))
  have HL := Lib.hid (And.intro hl hok)
  have HO := Lib.hid (And.intro ho hof)
  clear hl hok ho hof
  obtain ⟨i1, hi1, hz10, hz11, hz12⟩ := info_parts infoOrI
  have hmm := @run_makeMap Try.prog
  go_enter Try.func3, Try.ntmps3
  go_upto_block 1 with (first
    | (go_at_call 11; ((with_reducible refine CN.out.mono ?_); rintro e w1 ⟨f, rfl, hs⟩; have S0 := Lib.hid (StO.start hs); clear hs CN)))
  generalize w1.alloc (.map #[] 0) = w2 at *
  generalize w1.heap.size = bm at *
  clear hd
  go_loopw [10, 6, 9] (fun v av pv wr => ∃ i : Nat, i ≤ n ∧ v = .int .i64 i ∧ Hid (So1 w wr f bm i av pv)) (fun v _ _ _ => n - (intOf v).toNat)
  case atStart => exact ⟨0, Nat.zero_le _, rfl, fo0, 0, [], [], rfl, S0.out, PlO.start, Nat.le_refl _⟩
  case round =>
    obtain ⟨i, hi, rfl, hB⟩ := hrel
    clear S0
    by_cases hlt : i < n
    · obtain ⟨F, a0, ps, M, rfl, hM, hP, hpl⟩ := hB.out
      obtain ⟨pb, poff, x, rfl, _, hx, k0, k1, k2, k3, k4, k5⟩ := PutsAt.cells (RowsAt.below HL.out.1 hM.bel) i hlt
      have hpbw : pb < w.heap.size := by
        obtain ⟨b1, o1, _, e1, hb1, _⟩ := RowsAt.at HL.out.1 i hlt
        simp only [Option.some.injEq, Addr.mk.injEq, and_true] at e1
        rw [e1.1]; exact hb1
      have hxo := HL.out.2 x (List.mem_of_getElem? hx)
      have HXX := Lib.hid hx
      obtain ⟨pn, ⟨⟨xe, xc, xi⟩, xg⟩, gone⟩ := x
      obtain ⟨hpn, hxe⟩ := hxo
      simp only at k0 k1 k2 k3 k4 k5 hpn hxe
      have HX := Lib.hid hxe
      obtain ⟨pg, hpg⟩ : ∃ pg, pn % 4096 = pg := ⟨_, rfl⟩
      have hpg4 : pg < 4096 := by omega
      have hpgE : (pn : Int) % 4096 = (pg : Nat) := by omega
      have HPE := Lib.hid hpgE
      have hi20 : i < 20 := by omega
      have hLk := hM.look hP hpg4 true
      rw [← hpgE] at hLk
      obtain ⟨⟨⟨ye, yc, yi⟩, yg⟩, hy⟩ : ∃ y : Ent, (getL 2 F a0 pg).getD zeroE = y := ⟨_, rfl⟩
      rw [hy] at hLk
      obtain ⟨c, hc⟩ : ∃ c, (getL 2 F a0 pg).isSome = c := ⟨_, rfl⟩
      rw [hc] at hLk
      have HC := Lib.hid hc
      replace hLk : (Instr.lookup 27 (.map (some bm)) (.int .i64 ((pn : Int) % 4096)) true).run Try.prog wr = .ok (.tuple #[.agg #[.int .i64 ye, .int .i64 yc, .int .i64 yi, .int .i64 yg], .bool c]) wr := hLk
      have HM := Lib.hid hM
      have HP := Lib.hid hP
      clear hM hP hB hxe hpgE hy hc hpg hx
      go_upto_if 50 with fail
      have HM1 := Lib.hid (HM.out.alloc (.cells #[.int .i64 ye, .int .i64 yc, .int .i64 yi, .int .i64 yg] 33))
      generalize wr.alloc (.cells #[.int .i64 ye, .int .i64 yc, .int .i64 yi, .int .i64 yg] 33) = wq at *
      clear hLk k0 k1 k2 k3 k4 k5
      obtain ⟨ps1, hps1⟩ : ∃ ps1, (if c then ps else ps ++ [pg]) = ps1 := ⟨_, rfl⟩
      have HPs1 := Lib.hid hps1
      clear hps1
      go_cut [9] (fun v wc => StO w wc f (3 * i) F v ps1 bm M [])
      case first =>
        cases c
        · have HRow := Lib.hid (fun o => (HM1.out.alloc o).row)
          have HSz := Lib.hid HM1.out.bel.size
          go_wp2_with (first
            | (at_builtin; refine wpList_append_own_at _ rfl _ _ 28 rfl w.heap.size 3 i1 (.int .i64 0) 1 8 Try.underlying28 hi1 hz10 hz11 hz12 rfl (by decide) _ _ _ rfl (HRow.out _) ⟨wq.heap.size, 0, none⟩ 1 1 [.int .i64 ((pn : Int) % 4096)] rfl rfl ?c1 ?c2 ?c3 ?c4 ?c5 ?_))
          case c1 => exact fun j u hu => cell_new1 wq _ 3 j u hu
          case c2 => intro u hu; simp at hu; subst hu; rfl
          case c3 => unfold maxLen; omega
          case c4 => omega
          case c5 => have := HSz.out; simp; omega
          intro pv' w5 hown hgrow _ hblk
          have hM2 : StO w w5 f (3 * i) F pv' (ps ++ [pg]) bm M [] := HM1.out.app (by rw [HPE.out] at hown; exact hown) hgrow hblk
          have HM2 := Lib.hid hM2
          clear hown hgrow hblk hM2
          go_wp2
          go_meet
          rw [← HPs1.out]
          exact HM2.out
        · go_wp2
          go_meet
          rw [← HPs1.out]
          exact HM1.out
      case rest =>
        have HM := Lib.hid hcut
        obtain ⟨pb', poff', x', e1, _, hx', k0, k1, k2, k3, k4, k5⟩ := PutsAt.cells (RowsAt.below HL.out.1 HM.out.bel) i hlt
        have hxx := HXX.out.symm.trans hx'
        simp only [Option.some.injEq, Addr.mk.injEq, and_true] at hxx e1
        obtain ⟨rfl, rfl⟩ := e1
        subst hxx
        simp only at k0 k1 k2 k3 k4 k5
        have HMap := Lib.hid HM.out.map
        have HKK : Hid (∃ y, keyOf Try.prog 3 (encI ((pn : Int) % 4096)) = some y) := keyI _ (by unfold I64; omega)
        obtain ⟨ky, hky⟩ := HKK.out
        have HKy := Lib.hid hky
        have HPut : Hid (∀ w5, MapIs Try.prog 3 encI w5 bm (mput M ((pn : Int) % 4096) (.agg #[.int .i64 xe, .int .i64 xc, .int .i64 xi, .int .i64 xg])) → Turned [bm] wc w5 → StO w w5 f (3 * i) F u9 ps1 bm (mput M (pg : Int) (encE ⟨⟨xe, xc, xi⟩, xg⟩)) []) := fun w5 h t => by
          rw [HPE.out] at h
          exact HM.out.put t h
        have HK5 : Hid (∀ w5, Turned [bm] wc w5 → w5.cell? ⟨pb, poff + i * 6 + 1, none⟩ = some (.int .i64 xe) ∧ w5.cell? ⟨pb, poff + i * 6 + 2, none⟩ = some (.int .i64 xc) ∧ w5.cell? ⟨pb, poff + i * 6 + 3, none⟩ = some (.int .i64 xi) ∧ w5.cell? ⟨pb, poff + i * 6 + 4, none⟩ = some (.int .i64 xg)) := fun w5 t => by
          have hne : pb ∉ [bm] := by
            have := HM.out.base
            simp only [List.mem_singleton]
            omega
          exact ⟨t.cell k1 hne, t.cell k2 hne, t.cell k3 hne, t.cell k4 hne⟩
        have CS : Hid (∀ ww, StO w ww f (3 * i) F u9 ps1 bm (mput M (pg : Int) (encE ⟨⟨xe, xc, xi⟩, xg⟩)) [] → Calls Try.prog 12 #[.pointer (some ⟨f, 0, none⟩), .int .i64 (a0 : Nat), .int .i64 ((pn : Int) % 4096), .agg #[.int .i64 xe, .int .i64 xc, .int .i64 xi, .int .i64 xg]] ww fun e w' => ∃ a2 : Nat, e = .returned (.tuple #[.int .i64 (a2 : Nat), .int .i64 0]) ∧ So1 w w' f bm (i + 1) (.int .i64 (a2 : Nat)) u9) := fun ww h => by
          have := h.set (by omega) HP.out.root hpg4 ⟨⟨xe, xc, xi⟩, xg⟩ HX.out
          rw [HPE.out]
          refine this.mono fun e w' ⟨e1, e2⟩ => ⟨_, e1, _, _, _, _, rfl, by rw [show 3 * (i + 1) = 3 * i + 3 by omega]; exact e2, ?_, ?_⟩
          · have his := setF_is h.ok (by omega) (h.ok.inv.root HP.out.root) hpg4 (.set 0 ⟨⟨xe, xc, xi⟩, xg⟩) HX.out
            have := HP.out.set hpg4 his
            rw [HC.out, HPs1.out] at this
            exact this
          · rw [← HPs1.out]; split
            · omega
            · rw [List.length_append]; simp; omega
        clear hcut hx' hky HKK
        go_wp2_with (first
          | (at_mapUpdate; refine wp_put _ rfl _ _ _ 27 rfl keyedI encI_inj Try.underlying27 bm M rfl HMap.out _ rfl _ rfl HKy.out ?_; intro w5 hm5 ht5; have H5 := Lib.hid (HPut.out w5 hm5 ht5); obtain ⟨q1, q2, q3, q4⟩ := HK5.out w5 ht5; clear hm5 ht5 k0 k1 k2 k3 k4 k5)
          | (go_at_call 12; ((with_reducible refine (CS.out _ H5.out).mono ?_); rintro e w6 ⟨a2, rfl, hs⟩; have H6 := Lib.hid hs; clear hs)))
        go_roundw
        case rel => exact ⟨i + 1, by omega, by go_num, H6.out⟩
        case measure => simp [intOf]; omega
    · have hie : i = n := by omega
      subst hie
      clear hlt hi
      obtain ⟨F0, a0, ps, M, rfl, hM, hP, hpl⟩ := hB.out
      have S2 : Hid (So2 w wr f bm (3 * i) a0 ps M 0 (.int .i64 0) u9) := ⟨F0, 0, ps, rfl, hM, hP, PlB.start hP, rfl, fun _ h => h⟩
      clear hM hP hB HL
      obtain ⟨L0, hL0⟩ : ∃ L0, 3 * i = L0 := ⟨_, rfl⟩
      have hL60 : L0 ≤ 60 := by omega
      obtain ⟨pl, hpl'⟩ : ∃ pl, ps.length = pl := ⟨_, rfl⟩
      have HPl := Lib.hid hpl'
      have hpl20 : pl ≤ 20 := by omega
      rw [hL0] at S2
      clear hpl hpl' hL0
      go_wp2_with fail
      go_loopw [16, 7, 9] (fun v bv pv wr => ∃ j : Nat, j ≤ pl ∧ v = .int .i64 j ∧ Hid (So2 w wr f bm L0 a0 ps M j bv pv)) (fun v _ _ _ => pl - (intOf v).toNat)
      case atStart => exact ⟨0, Nat.zero_le _, rfl, S2.out⟩
      case round =>
        obtain ⟨j, hj, rfl, hB⟩ := hrel
        clear S2
        obtain ⟨F, b0, rem, rfl, hM, hP, hQ, hrl, hsub⟩ := hB.out
        have HSub := Lib.hid hsub
        obtain ⟨rl, hrl'⟩ : ∃ rl, rem.length = rl := ⟨_, rfl⟩
        have HRl := Lib.hid hrl'
        rw [hrl', HPl.out] at hrl
        have hRow := hM.row
        rw [hrl'] at hRow
        obtain ⟨ra, rcap, rfl, hsR, _⟩ := SlAt.of_owns hRow
        have HM := Lib.hid hM
        have HP := Lib.hid hP
        have HQ := Lib.hid hQ
        have HR := Lib.hid hsR
        clear hM hP hQ hsR hRow hB hrl' hsub
        by_cases hlt : 0 < rl
        · go_upto_if 85 with fail
          go_cut [17] (fun v wc => (∃ k : Nat, v = .int .i64 k ∧ k < rl) ∧ wc = wr)
          case first =>
            by_cases him : j < m
            · obtain ⟨bb, boff, x, rfl, _, hx, hc⟩ := (RowsAt.below HO.out.1 HM.out.bel).at j him
              have hc0 := hc 0 _ rfl
              simp only [Nat.mul_one, Nat.add_zero] at hc0
              have hx256 := HO.out.2 x (List.mem_of_getElem? hx)
              clear hc hx
              obtain ⟨k, hk⟩ : ∃ k, x % rl = k := ⟨_, rfl⟩
              have hki : k < rl := hk ▸ Nat.mod_lt _ hlt
              have hkI : (x : Int) % (rl : Int) = k := by omega
              go_wp2
              go_meet
              exact ⟨⟨k, by rw [hkI], hki⟩, rfl⟩
            · go_wp2
              go_meet
              exact ⟨⟨0, rfl, hlt⟩, rfl⟩
          case rest =>
            obtain ⟨⟨k, rfl, hk⟩, rfl⟩ := hcut
            obtain ⟨rb, roff, rfl, _⟩ := HR.out.cells hlt
            obtain ⟨p, hp⟩ : ∃ p, rem[k]? = some p := ⟨_, List.getElem?_eq_getElem (by rw [HRl.out]; exact hk)⟩
            have hpm := List.mem_of_getElem? hp
            have hp4 := HP.out.lt p (HSub.out p hpm)
            obtain ⟨⟨⟨xe, xc, xi⟩, xg⟩, hx⟩ := Option.isSome_iff_exists.1 ((HP.out.mem hp4).1 (HSub.out p hpm))
            have hxo : Ent.ok ⟨⟨xe, xc, xi⟩, xg⟩ := get_ok HM.out.ok ((HM.out.ok.inv.root HP.out.root)) hx
            have HA : Hid (∀ ww, StO w ww f (L0 + 3 * j) F (.slice (some ⟨rb, roff, none⟩) rl rcap) rem bm M [] → StO w ww f (L0 + 3 * j) F (.slice (some ⟨rb, roff, none⟩) rl rcap) rem bm M [] ∧ ww.cell? ⟨rb, roff + k, none⟩ = some (.int .i64 (p : Nat)) ∧ (Instr.lookup 27 (.map (some bm)) (.int .i64 (p : Nat)) false).run Try.prog ww = .ok (.agg #[.int .i64 xe, .int .i64 xc, .int .i64 xi, .int .i64 xg]) ww) := fun ww h => by
              refine ⟨h, ?_, ?_⟩
              · have := h.row
                rw [HRl.out] at this
                exact cell_of_owns this (u := encR p) (by rw [List.getElem?_map, hp]; rfl)
              · have := h.look HP.out hp4 false
                rw [hx] at this
                exact this
            have CS : Hid (∀ ww, StO w ww f (L0 + 3 * j) F (.slice (some ⟨rb, roff, none⟩) rl rcap) rem bm M [] → Calls Try.prog 12 #[.pointer (some ⟨f, 0, none⟩), .int .i64 (b0 : Nat), .int .i64 (p : Nat), .agg #[.int .i64 xe, .int .i64 xc, .int .i64 xi, .int .i64 xg]] ww fun e w' => ∃ b2 : Nat, e = .returned (.tuple #[.int .i64 (b2 : Nat), .int .i64 0]) ∧ So3 w w' f bm (L0 + 3 * j + 3) a0 ps M k rem b2 (.slice (some ⟨rb, roff, none⟩) rl rcap)) := fun ww h => by
              have hc := h.set (by omega) HQ.out.root hp4 ⟨⟨xe, xc, xi⟩, xg⟩ hxo
              have his := setF_is h.ok (by omega) (h.ok.inv.root HQ.out.root) hp4 (.set 0 ⟨⟨xe, xc, xi⟩, xg⟩) hxo
              exact hc.mono fun e w' ⟨e1, e2⟩ => ⟨_, e1, _, e2, HP.out.keep h.ok his, HQ.out.set h.ok HP.out.root hp hx his⟩
            have HA3 : Hid (∀ b2 ww, So3 w ww f bm (L0 + 3 * j + 3) a0 ps M k rem b2 (.slice (some ⟨rb, roff, none⟩) rl rcap) → ww.cell? ⟨rb, roff + k, none⟩ = some (.int .i64 (p : Nat)) ∧ (Instr.lookup 27 (.map (some bm)) (.int .i64 (p : Nat)) false).run Try.prog ww = .ok (.agg #[.int .i64 xe, .int .i64 xc, .int .i64 xi, .int .i64 xg]) ww) := fun b2 ww ⟨G, h, hPG, _⟩ => by
              refine ⟨?_, ?_⟩
              · have := h.row
                rw [HRl.out] at this
                exact cell_of_owns this (u := encR p) (by rw [List.getElem?_map, hp]; rfl)
              · have h1 := h.look hPG hp4 false
                have e : (getL 2 G a0 p).map encE = some (encE ⟨⟨xe, xc, xi⟩, xg⟩) := by rw [← hPG.get p hp4, HP.out.get p hp4, hx]; rfl
                have e2 : encE ((getL 2 G a0 p).getD zeroE) = encE ⟨⟨xe, xc, xi⟩, xg⟩ := by
                  cases hg : getL 2 G a0 p with
                  | none => rw [hg] at e; cases e
                  | some y => rw [hg] at e; simpa using e
                rw [e2] at h1
                exact h1
            clear hp hpm hp4 hx hxo
            go_upto_region 27 with fail
            obtain ⟨_, c0, c1⟩ := HA.out _ HM.out
            go_region_held3 (fun w' => w'.cell? ⟨rb, roff + k, none⟩ = some (.int .i64 (p : Nat)) ∧ (Instr.lookup 27 (.map (some bm)) (.int .i64 (p : Nat)) false).run Try.prog w' = .ok (.agg #[.int .i64 xe, .int .i64 xc, .int .i64 xi, .int .i64 xg]) w') (first | exact K3.out | exact (HA.out _ HM.out.drew).2 | go_keep)
                (first
                  | (go_at_call 12; ((with_reducible refine (CS.out _ HM.out.drew).mono ?_); rintro e w3 ⟨b2, rfl, hs3⟩; have S3 := Lib.hid hs3; have K3 := Lib.hid (HA3.out _ _ hs3); clear hs3)))
            go_upto_region 31 with fail
            obtain ⟨F2, hM2, hP2, hQ2⟩ := S3.out
            have hrc : rl ≤ rcap ∧ w.heap.size ≤ rb := by
              have := hM2.row
              rw [HRl.out] at this
              rcases this.2 with ⟨e, _⟩ | ⟨g, c', cur, e, hg, _, hn, _⟩
              · cases e
              · simp only [Value.slice.injEq, Option.some.injEq, Addr.mk.injEq] at e
                omega
            have hsl1 := run_slice_pre (P := Try.prog) (t := 28) Try.underlying28 sizeInt rb roff rl rcap k (by omega) (by omega)
            have hsl2 := run_slice_suf (P := Try.prog) (t := 28) Try.underlying28 sizeInt rb roff rl rcap k (by omega)
            obtain ⟨A2, hA2⟩ : ∃ A2, sufA rb roff rcap (k + 1) = A2 := ⟨_, rfl⟩
            rw [hA2] at hsl2
            have HA2 := Lib.hid hA2
            have HM2 := Lib.hid hM2
            have HP2 := Lib.hid hP2
            have HQ2 := Lib.hid hQ2
            clear hA2 hM2 hP2 hQ2 hrc c0 c1
            have hwk : IntKind.i64.wrap ((k : Int) + 1) = (k : Int) + 1 := IntWalk.i64_in _ (by omega)
            have HNw := Lib.hid (news_cells HM2.out HRl.out HA2.out hk)
            have HLn := Lib.hid (news_len (rem := rem) HRl.out hk)
            have HSm : Hid (0 + k ≤ maxLen ∧ (0 + k) * 8 ≤ 140737488355328 ∧ 0 + k + (rl - (k + 1)) ≤ maxLen ∧ (0 + k + (rl - (k + 1))) * 8 ≤ 140737488355328) := Lib.hid (by unfold maxLen; omega)
            go_region_held3 (fun w' => True) (trivial)
              (first
                | (refine step_append_at (by rfl) _ _ 28 (by rfl) w3.heap.size 3 i1 (.int .i64 0) 1 8 Try.underlying28 hi1 hz10 hz11 hz12 rfl (by decide) _ _ _ (by rfl) (owns_emptyd w3 3 1) _ _ _ ((rem.take k).map encR) (by rfl) HLn.out.1 (HNw.out.1 _) (oneR _) HSm.out.1 HSm.out.2.1 (le_allocd w3 _) ?_; intro v4 w4 hown4 hgrow4 hblk4; have O4 := Lib.hid (And.intro hown4 (below_app hgrow4)); clear hown4 hgrow4 hblk4)
                | (refine step_append_at (by rfl) _ _ 28 (by rfl) w3.heap.size 3 i1 (.int .i64 0) 1 8 Try.underlying28 hi1 hz10 hz11 hz12 rfl (by decide) _ _ _ (by rfl) O4.out.1 _ _ _ ((rem.drop (k + 1)).map encR) (by rfl) HLn.out.2 (HNw.out.2 _ O4.out.2) (oneR _) HSm.out.2.2.1 HSm.out.2.2.2 O4.out.2.size ?_; intro v5 w5 hown5 hgrow5 hblk5; have O5 := Lib.hid (And.intro hown5 (O4.out.2.grown hgrow5 O4.out.2.size (own_above O4.out.1))); clear hown5 hgrow5 hblk5))
            have HS : Hid (So2 w w5 f bm L0 a0 ps M (j + 1) (.int .i64 (b2 : Nat)) v5) := by
              have hlen : (rem.eraseIdx k).length = rl - 1 := by rw [List.length_eraseIdx_of_lt (by rw [HRl.out]; exact hk), HRl.out]
              refine ⟨F2, b2, rem.eraseIdx k, rfl, ?_, HP2.out, HQ2.out, by rw [hlen, HPl.out]; omega, fun q hq => HSub.out q (List.mem_of_mem_eraseIdx hq)⟩
              rw [show L0 + 3 * (j + 1) = L0 + 3 * j + 3 by omega]
              refine HM2.out.fresh O5.out.2 ?_
              have := O5.out.1
              rw [hlen, List.eraseIdx_eq_take_drop_succ, List.map_append]
              rw [show 0 + k + (rl - (k + 1)) = rl - 1 by omega, List.nil_append] at this
              exact this
            clear O4 O5 S3
            go_wp2
            go_roundw
            case rel => exact ⟨j + 1, by omega, by go_num, HS.out⟩
            case measure => simp [intOf]; omega
        · obtain rfl : rl = 0 := by omega
          obtain rfl : rem = [] := List.length_eq_zero_iff.1 HRl.out
          clear HR HRl HSub hlt hrl
          have hmb := HQ.out.done
          obtain ⟨c, hc⟩ : ∃ c, mapL F a0 = c := ⟨_, rfl⟩
          have hcl : c.length ≤ 4096 := by rw [← hc]; exact allL_len _ _
          obtain ⟨cn, hcn⟩ : ∃ cn, c.length = cn := ⟨_, rfl⟩
          rw [hcn] at hcl
          rw [hc] at hmb
          have HC := Lib.hid (And.intro hc hcn)
          have hlM : M.length = cn := by rw [← hcn, ← hc]; exact HP.out.len.symm
          have CA : ∀ (r : Nat), isB F (r : Int) = true → mapL F r = c → Hid (∀ ex ww, StO w ww f (L0 + 3 * j) F (.slice ra 0 rcap) [] bm M ex → Calls Try.prog 13 #[.pointer (some ⟨f, 0, none⟩), .int .i64 (r : Nat)] ww fun e w' => ∃ a3 cap3, e = .returned (.slice a3 cn cap3) ∧ Sl5 w' a3 cn c ∧ StO w w' f (L0 + 3 * j) F (.slice ra 0 rcap) [] bm M ((.slice a3 cn cap3, c) :: ex)) := fun r hr hm ex ww h => by
            refine (h.all (by omega) hr).mono fun e w' ⟨v, e1, e2, _, e3⟩ => ?_
            rw [hm] at e2 e3
            rw [hcn] at e2
            obtain ⟨a3, cap3, rfl, hs, _⟩ := sl5_of_owns e2
            exact ⟨a3, cap3, e1, hs, e3⟩
          have CA1 := CA a0 HP.out.root hc
          have CA2 := CA b0 HQ.out.root hmb
          have HLM := Lib.hid hlM
          clear CA hmb hc hcn hlM
          go_wp2_with (go_at_call 13; ((with_reducible refine (CA1.out _ _ HM.out).mono ?_); rintro e w3 ⟨a3, cap3, rfl, hs3, hM3⟩; have S3 := Lib.hid hM3; clear hs3 hM3))
          obtain ⟨Ls, hLs⟩ : ∃ Ls, L0 + 3 * j = Ls := ⟨_, rfl⟩
          rw [hLs] at S3 CA1 CA2
          have hLs3 : Ls ≤ 2 ^ 34 := by omega
          clear CA1 HM hLs
          go_loopw [21] (fun v wr => ∃ t : Nat, t ≤ cn ∧ v = .int .i64 t ∧ Hid (StO w wr f Ls F (.slice ra 0 rcap) [] bm M [(.slice a3 cn cap3, c)])) (fun v _ => cn - (intOf v).toNat)
          case atStart => exact ⟨0, Nat.zero_le _, rfl, S3.out⟩
          case round =>
            obtain ⟨t, ht, rfl, hB⟩ := hrel
            clear S3
            have hsl : Sl5 wr a3 cn c := by
              have := hB.out.rowX List.mem_cons_self
              rw [HC.out.2] at this
              obtain ⟨a', cap', e, hs, _⟩ := sl5_of_owns this
              simp only [Value.slice.injEq] at e
              rw [e.1]; exact hs
            have HSl := Lib.hid hsl
            clear hsl
            by_cases htl : t < cn
            · obtain ⟨gb, goff, rfl, c0, c1, c2, c3, c4⟩ := HSl.out.at t (by rw [HC.out.2]; exact htl)
              have htc : t < c.length := by rw [HC.out.2]; exact htl
              have hct : (mapL F a0)[t]? = some c[t] := by rw [HC.out.1]; exact List.getElem?_eq_getElem htc
              have hat := mapL_at hct
              have hlk := fun nn : Nat => (hB.out.drewN nn).look HP.out hat.1 false
              simp only [hat.2] at hlk
              have HCt := Lib.hid hct
              generalize c[t] = x at *
              obtain ⟨xn, ⟨⟨xe, xc, xi⟩, xg⟩⟩ := x
              replace hlk : ∀ nn, (Instr.lookup 27 (.map (some bm)) (.int .i64 (xn : Nat)) false).run Try.prog (wr.drewN nn) = .ok (.agg #[.int .i64 xe, .int .i64 xc, .int .i64 xi, .int .i64 xg]) (wr.drewN nn) := hlk
              simp only at c0 c1 c2 c3 c4
              clear hct hat htc
              rcases Nat.eq_zero_or_pos t with ht0 | ht0
              · have hgt : decide (0 < t) = false := by simp [ht0]
                clear ht0
                go_upto_region 36 with fail
                go_big_quiet (fail)
                go_wp2
                go_roundw
                case rel => exact ⟨t + 1, by omega, by go_num, hB.out.drewN nq⟩
                case measure => simp [intOf]; omega
              · obtain ⟨k, hk⟩ : ∃ k, t = k + 1 := ⟨t - 1, by omega⟩
                obtain ⟨gb', goff', e1, d0, _⟩ := HSl.out.at k (by rw [HC.out.2]; omega)
                simp only [Option.some.injEq, Addr.mk.injEq, and_true] at e1
                obtain ⟨rfl, rfl⟩ := e1
                have hkc : k < c.length := by rw [HC.out.2]; omega
                have hck : (mapL F a0)[k]? = some c[k] := by rw [HC.out.1]; exact List.getElem?_eq_getElem hkc
                have hrise := mapL_rises hck (by rw [← hk]; exact HCt.out)
                generalize c[k] = y at *
                obtain ⟨yn, ye⟩ := y
                simp only at d0 hrise
                have hle : decide (xn ≤ yn) = false := by simp; omega
                have hwt : IntKind.i64.wrap ((t : Int) - 1) = (k : Int) := by
                  rw [IntWalk.i64_in _ (by omega)]; omega
                have hgt : decide (0 < t) = true := by simpa using ht0
                have hwt2 : (t : Int) - 1 = (k : Int) := by omega
                clear hk
                clear hck hkc hrise HCt
                go_upto_region 36 with fail
                go_big_quiet (fail)
                go_wp2
                go_roundw
                case rel => exact ⟨t + 1, by omega, by go_num, hB.out.drewN nq⟩
                case measure => simp [intOf]; omega
            · have htn : t = cn := by omega
              subst htn
              have hmap := hB.out.map
              have hlen := hmap.run_len (ty := 3) Try.underlying27
              rw [HLM.out] at hlen
              have CSm : Hid (∀ v8 ww, StO w ww f Ls F (.slice ra 0 rcap) [] bm M [(v8, c), (.slice a3 t cap3, c)] → ∀ a8 cap8, v8 = .slice a8 t cap8 → Calls Try.prog 14 #[.slice a3 t cap3, .slice a8 t cap8] ww fun e w' => e = .returned (.bool true) ∧ Below w.heap.size w w') := by
                rintro _ ww h a8 cap8 rfl
                have h1 := h.rowX List.mem_cons_self
                have h2 := h.rowX (v := .slice a3 t cap3) (c := c) (by simp)
                rw [HC.out.2] at h1 h2
                obtain ⟨a1', c1', e1, hs1, _⟩ := sl5_of_owns h1
                obtain ⟨a2', c2', e2, hs2, _⟩ := sl5_of_owns h2
                simp only [Value.slice.injEq] at e1 e2
                rw [← e1.1] at hs1
                rw [← e2.1] at hs2
                have := same_pairs c c a3 a8 t t cap3 cap8 ww hs2 hs1 (by omega) (by omega)
                rw [decide_eq_true rfl] at this
                exact this.mono fun e w' ⟨e1, e2⟩ => ⟨e1, h.bel.trans (e2.mono h.bel.size)⟩
              have HB := Lib.hid hB.out
              clear hB htl ht hmap HSl
              go_wp2_with (first
                | (go_at_call 13; ((with_reducible refine (CA2.out _ _ HB.out).mono ?_); rintro e w5 ⟨a8, cap8, rfl, hs5, hM5⟩; have S5 := Lib.hid hM5; clear hs5 hM5))
                | (go_at_call 14; ((with_reducible refine (CSm.out _ _ S5.out _ _ rfl).mono ?_); rintro e w6 ⟨rfl, hb6⟩; have H6 := Lib.hid hb6; clear hb6))
                | (go_at_call 10; ((with_reducible refine (HAl.out _).mono ?_); rintro e w9 ⟨rfl, hb⟩; have H9 := Lib.hid (H6.out.trans (hb.mono H6.out.size)); clear hb)))
              go_ret
              exact ⟨rfl, H9.out⟩
end Go.Proofs.Ytmpbhoijkcanmaa.R
