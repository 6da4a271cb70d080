/- Radix: maps from which pages are cleared: the walk. -/
import Derived.Test.YtmpbhoijkcanmaaSP
import Derived.Test.YtmpbhoijkcanmaaSO
namespace Go.Proofs.Ytmpbhoijkcanmaa.R
open Go.ChangeShapes Go.WideShapes Go.ChangeAt Go.RowKit Go.Maps Go.Proofs.Ytmpbhoijkcanmaa.G
set_option linter.unusedVariables false
set_option linter.unusedSimpArgs false
set_option linter.unnecessarySimpa false

def Sb1 (w wr : World) (f bm i : Nat) (av pv : Value) : Prop := ∃ F a ps M, av = .int .i64 ((a : Nat) : Int) ∧ StO w wr f (3 * i) F pv ps bm M [] ∧ PlK F a ps ∧ PlM M ps ∧ ps.length ≤ i ∧ (0 < i → 0 < ps.length)
def Sb2 (w wr : World) (f bm L0 pl : Nat) (M : List (Int × Value)) (j : Nat) (av pv : Value) : Prop := ∃ F a rem, av = .int .i64 ((a : Nat) : Int) ∧ StO w wr f (L0 + 6 * j) F pv rem bm M [] ∧ PlK F a rem ∧ rem.length + j = pl
structure StC (w wc : World) (f L0 : Nat) (F : Fo) (a0 p : Nat) (pv : Value) (ps : List Nat) (bm : Nat) (M : List (Int × Value)) (ex : List (Value × List Pr)) (G : Fo) (a1 : Nat) : Prop where
  mem : StO w wc f (L0 + 3) G pv ps bm M ex
  is : MkIs F L0 (G, a1) (setG F a0 p none)
structure StD (w wc : World) (f L0 : Nat) (a0 : Nat) (c : List Pr) (pv : Value) (ps : List Nat) (bm : Nat) (M : List (Int × Value)) (ex : List (Value × List Pr)) (H : Fo) (a1 b1 : Nat) : Prop where
  mem : StO w wc f (L0 + 6) H pv ps bm M ex
  root : isB H (b1 : Int) = true
  same : mapL H b1 = c
  less : PlK H a1 (ps.eraseIdx 0)
  keep : PlK H a0 ps
structure StE (w wc : World) (f L : Nat) (F : Fo) (a0 p : Nat) (pv : Value) (rem : List Nat) (bm : Nat) (M : List (Int × Value)) (G : Fo) (r : Nat) : Prop where
  mem : StO w wc f (L + 3) G pv rem bm M []
  is : MkIs F L (G, r) (setG F a0 p none)
structure StF (w wc : World) (f L : Nat) (pv : Value) (rem : List Nat) (k bm : Nat) (M : List (Int × Value)) (H : Fo) (r : Nat) : Prop where
  mem : StO w wc f (L + 6) H pv rem bm M []
  less : PlK H r (rem.eraseIdx k)
theorem mapL_congr {F G : Fo} {a b : Nat} (h : ∀ q, q < 4096 → getL 2 G b q = getL 2 F a q) : mapL G b = mapL F a := allL_congr 4096 h
theorem StC.set {w wc w' : World} {f L0 : Nat} {F : Fo} {a0 p : Nat} {pv : Value} {ps : List Nat} {bm : Nat} {M : List (Int × Value)} {ex : List (Value × List Pr)} {G : Fo} {a1 : Nat} (h : StC w wc f L0 F a0 p pv ps bm M ex G a1) (k : Ok F L0) (hp : PlK F a0 ps) (hj : ps[0]? = some p) {x : Ent} (hx : getL 2 F a0 p = some x) {H : Fo} {b1 : Nat} (h' : StO w w' f (L0 + 6) H pv ps bm M ex) (m : MkIs G (L0 + 3) (H, b1) (setG G a1 p (some x))) : StD w w' f L0 a0 (mapL F a0) pv ps bm M ex H a1 b1 :=
  ⟨h', m.root, mapL_congr fun q hq => by
    rw [m.get q hq]
    unfold setG
    by_cases e : q = p
    · rw [if_pos e, e, hx]
    · rw [if_neg e, h.is.get q hq]; unfold setG; rw [if_neg e], (hp.clear hj h.is).keep h.mem.ok m, (hp.keep k h.is).keep h.mem.ok m⟩
set_option maxRecDepth 100000 in
set_option maxHeartbeats 4000000 in
theorem back_law (a b : Option Addr) (n m cap capb : Nat) (l : List PutD) (of : List Nat) (w : World) (hl : PutsAt w a n l) (hok : ∀ x, x ∈ l → x.ok) (hm : m ≤ maxLen) (ho : BytesAt w b m of) (hof : ∀ x, x ∈ of → x < 256) (hn : n ≤ maxLen) :
    Calls Try.prog 5 #[.slice a n cap, .slice b m capb] w fun e w' => e = .returned (.bool true) ∧ Below w.heap.size w w' := by
  have HAl := Lib.hid alive23
  have HB0 := Lib.hid (Below.refl w.heap.size w)
  unfold maxLen at hm hn
  by_cases hlen : 20 < n
  · have hd := len_gtO hlen
    clear hl hok ho hof
    go_enter Try.func5, Try.ntmps5
    go_wp2_with (go_at_call 10; ((with_reducible refine (HAl.out _).mono ?_); rintro e wE ⟨rfl, hb⟩))
    go_ret
    exact ⟨rfl, hb⟩
  have hd := len_leO hlen
  by_cases hn0 : n = 0
  · subst hn0
    clear hl hok ho hof
    go_enter Try.func5, Try.ntmps5
    go_wp2_with (go_at_call 10; ((with_reducible refine (HAl.out _).mono ?_); rintro e wE ⟨rfl, hb⟩))
    go_ret
    exact ⟨rfl, hb⟩
  have hd0 : (n == 0) = false := by simpa using hn0
  have CN := Lib.hid (new_lv (Below.refl w.heap.size w))
  have HL := Lib.hid (And.intro hl hok)
  have HO := Lib.hid (And.intro ho hof)
  clear hl hok ho hof
  obtain ⟨i1, hi1, hz10, hz11, hz12⟩ := info_parts infoOrI
  have hmm := @run_makeMap Try.prog
  go_enter Try.func5, Try.ntmps5
  go_upto_block 1 with (first
    | (go_at_call 11; ((with_reducible refine CN.out.mono ?_); rintro e w1 ⟨f, rfl, hs⟩; have S0 := Lib.hid (StO.start hs); clear hs CN)))
  generalize w1.alloc (.map #[] 0) = w2 at *
  generalize w1.heap.size = bm at *
  clear hd hd0
  go_loopw [9, 6, 7] (fun v av pv wr => ∃ i : Nat, i ≤ n ∧ v = .int .i64 i ∧ Hid (Sb1 w wr f bm i av pv)) (fun v _ _ _ => n - (intOf v).toNat)
  case atStart => exact ⟨0, Nat.zero_le _, rfl, fo0, 0, [], [], rfl, S0.out, PlK.start, PlM.start, Nat.le_refl _, by omega⟩
  case round =>
    obtain ⟨i, hi, rfl, hB⟩ := hrel
    clear S0
    by_cases hlt : i < n
    · obtain ⟨F, a0, ps, M, rfl, hM, hP, hPM, hpl, hp0⟩ := hB.out
      obtain ⟨pb, poff, x, rfl, _, hx, k0, k1, k2, k3, k4, k5⟩ := PutsAt.cells (RowsAt.below HL.out.1 hM.bel) i hlt
      have hpbw : pb < w.heap.size := by
        obtain ⟨b1, o1, _, e1, hb1, _⟩ := RowsAt.at HL.out.1 i hlt
        simp only [Option.some.injEq, Addr.mk.injEq, and_true] at e1
        rw [e1.1]; exact hb1
      have hxo := HL.out.2 x (List.mem_of_getElem? hx)
      have HXX := Lib.hid hx
      obtain ⟨pn, ⟨⟨xe, xc, xi⟩, xg⟩, gone⟩ := x
      obtain ⟨hpn, hxe⟩ := hxo
      simp only at k0 k1 k2 k3 k4 k5 hpn hxe
      have HX := Lib.hid hxe
      obtain ⟨pg, hpg⟩ : ∃ pg, pn % 4096 = pg := ⟨_, rfl⟩
      have hpg4 : pg < 4096 := by omega
      have hpgE : (pn : Int) % 4096 = (pg : Nat) := by omega
      have HPE := Lib.hid hpgE
      have hi20 : i < 20 := by omega
      have hLk := hM.lookB hPM hpg4
      rw [← hpgE] at hLk
      obtain ⟨c, hc⟩ : ∃ c, decide (pg ∈ ps) = c := ⟨_, rfl⟩
      rw [hc] at hLk
      have HM := Lib.hid hM
      have HP := Lib.hid (And.intro hP hPM)
      obtain ⟨ps1, hps1⟩ : ∃ ps1, (if pg ∈ ps then ps else ps ++ [pg]) = ps1 := ⟨_, rfl⟩
      have HPs1 : Hid ((if c then ps else ps ++ [pg]) = ps1 ∧ (if pg ∈ ps then ps else ps ++ [pg]) = ps1) := by
        refine ⟨?_, hps1⟩
        rw [← hps1, ← hc]
        by_cases h : pg ∈ ps <;> simp [h]
      clear hM hP hB hxe hpgE hc hpg hx hPM hps1
      go_upto_if 56 with fail
      clear hLk k0 k1 k2 k3 k4 k5
      go_cut [7] (fun v wc => StO w wc f (3 * i) F v ps1 bm M [])
      case first =>
        cases c
        · have HRow := Lib.hid (fun o => (HM.out.alloc o).row)
          have HSz := Lib.hid HM.out.bel.size
          go_wp2_with (first
            | (at_builtin; refine wpList_append_own_at _ rfl _ _ 28 rfl w.heap.size 3 i1 (.int .i64 0) 1 8 Try.underlying28 hi1 hz10 hz11 hz12 rfl (by decide) _ _ _ rfl (HRow.out _) ⟨wr.heap.size, 0, none⟩ 1 1 [.int .i64 ((pn : Int) % 4096)] rfl rfl ?c1 ?c2 ?c3 ?c4 ?c5 ?_))
          case c1 => exact fun j u hu => cell_new1 wr _ 3 j u hu
          case c2 => intro u hu; simp at hu; subst hu; rfl
          case c3 => unfold maxLen; omega
          case c4 => omega
          case c5 => have := HSz.out; simp; omega
          intro pv' w5 hown hgrow _ hblk
          have hM2 : StO w w5 f (3 * i) F pv' (ps ++ [pg]) bm M [] := HM.out.app (by rw [HPE.out] at hown; exact hown) hgrow hblk
          have HM2 := Lib.hid hM2
          clear hown hgrow hblk hM2
          go_wp2
          go_meet
          rw [← HPs1.out.1]
          exact HM2.out
        · go_wp2
          go_meet
          rw [← HPs1.out.1]
          exact HM.out
      case rest =>
        have HM := Lib.hid hcut
        obtain ⟨pb', poff', x', e1, _, hx', k0, k1, k2, k3, k4, k5⟩ := PutsAt.cells (RowsAt.below HL.out.1 HM.out.bel) i hlt
        have hxx := HXX.out.symm.trans hx'
        simp only [Option.some.injEq, Addr.mk.injEq, and_true] at hxx e1
        obtain ⟨rfl, rfl⟩ := e1
        subst hxx
        simp only at k0 k1 k2 k3 k4 k5
        have HMap := Lib.hid HM.out.map
        have HKK : Hid (∃ y, keyOf Try.prog 3 (encI ((pn : Int) % 4096)) = some y) := keyI _ (by unfold I64; omega)
        obtain ⟨ky, hky⟩ := HKK.out
        have HKy := Lib.hid hky
        have HPut : Hid (∀ w5, MapIs Try.prog 3 encI w5 bm (mput M ((pn : Int) % 4096) (.bool true)) → Turned [bm] wc w5 → StO w w5 f (3 * i) F u7 ps1 bm (mput M (pg : Int) (.bool true)) []) := fun w5 h t => by
          rw [HPE.out] at h
          exact HM.out.put t h
        have HK5 : Hid (∀ w5, Turned [bm] wc w5 → w5.cell? ⟨pb, poff + i * 6 + 1, none⟩ = some (.int .i64 xe) ∧ w5.cell? ⟨pb, poff + i * 6 + 2, none⟩ = some (.int .i64 xc) ∧ w5.cell? ⟨pb, poff + i * 6 + 3, none⟩ = some (.int .i64 xi) ∧ w5.cell? ⟨pb, poff + i * 6 + 4, none⟩ = some (.int .i64 xg)) := fun w5 t => by
          have hne : pb ∉ [bm] := by
            have := HM.out.base
            simp only [List.mem_singleton]
            omega
          exact ⟨t.cell k1 hne, t.cell k2 hne, t.cell k3 hne, t.cell k4 hne⟩
        have CS : Hid (∀ ww, StO w ww f (3 * i) F u7 ps1 bm (mput M (pg : Int) (.bool true)) [] → Calls Try.prog 12 #[.pointer (some ⟨f, 0, none⟩), .int .i64 (a0 : Nat), .int .i64 ((pn : Int) % 4096), .agg #[.int .i64 xe, .int .i64 xc, .int .i64 xi, .int .i64 xg]] ww fun e w' => ∃ a2 : Nat, e = .returned (.tuple #[.int .i64 (a2 : Nat), .int .i64 0]) ∧ a2 ≠ 0 ∧ Sb1 w w' f bm (i + 1) (.int .i64 (a2 : Nat)) u7) := fun ww h => by
          have := h.setM (by omega) HP.out.1.root hpg4 ⟨⟨xe, xc, xi⟩, xg⟩ HX.out
          rw [HPE.out]
          refine this.mono fun e w' ⟨G, r, e1, e2, e3⟩ => ⟨r, e1, HP.out.1.nz hpg4 e3, G, r, ps1, _, rfl, by rw [show 3 * (i + 1) = 3 * i + 3 by omega]; exact e2, ?_, ?_, ?_⟩
          · have := HP.out.1.set hpg4 e3
            rw [HPs1.out.2] at this
            exact this
          · have := HP.out.2.put pg
            rw [HPs1.out.2] at this
            exact this
          · rw [← HPs1.out.2]
            by_cases hm : pg ∈ ps
            · rw [if_pos hm]; exact ⟨by omega, fun _ => List.length_pos_of_mem hm⟩
            · rw [if_neg hm, List.length_append]; simp; omega
        clear hcut hx' hky HKK
        go_wp2_with (first
          | (at_mapUpdate; refine wp_put _ rfl _ _ _ 54 rfl keyedI encI_inj Try.underlying54 bm M rfl HMap.out _ rfl _ rfl HKy.out ?_; intro w5 hm5 ht5; have H5 := Lib.hid (HPut.out w5 hm5 ht5); obtain ⟨q1, q2, q3, q4⟩ := HK5.out w5 ht5; clear hm5 ht5 k0 k1 k2 k3 k4 k5)
          | (go_at_call 12; ((with_reducible refine (CS.out _ H5.out).mono ?_); rintro e w6 ⟨a2, rfl, hne, hs⟩; have H6 := Lib.hid hs; have hne1 : (a2 == 0) = false := (by simpa using hne); clear hs hne)))
        go_roundw
        case rel => exact ⟨i + 1, by omega, by go_num, H6.out⟩
        case measure => simp [intOf]; omega
    · have hie : i = n := by omega
      subst hie
      clear hlt hi
      obtain ⟨F, a0, ps, M, rfl, hM, hP, hPM, hpl, hp0⟩ := hB.out
      have hps := hp0 (by omega)
      obtain ⟨pl, hpl'⟩ : ∃ pl, ps.length = pl := ⟨_, rfl⟩
      have HPl := Lib.hid hpl'
      rw [hpl'] at hps hpl
      have hRow := hM.row
      rw [hpl'] at hRow
      obtain ⟨ra, rcap, rfl, hsR, _⟩ := SlAt.of_owns hRow
      obtain ⟨rb, roff, rfl, -⟩ := hsR.cells hps
      obtain ⟨p, hp⟩ : ∃ p, ps[0]? = some p := ⟨_, List.getElem?_eq_getElem (by rw [hpl']; exact hps)⟩
      have hp4 := hP.lt p (List.mem_of_getElem? hp)
      obtain ⟨⟨⟨xe, xc, xi⟩, xg⟩, hx⟩ := Option.isSome_iff_exists.1 ((hP.mem p hp4).1 (List.mem_of_getElem? hp))
      have hxo : Ent.ok ⟨⟨xe, xc, xi⟩, xg⟩ := get_ok hM.ok (hM.ok.inv.root hP.root) hx
      obtain ⟨L0, hL0⟩ : ∃ L0, 3 * i = L0 := ⟨_, rfl⟩
      have hL60 : L0 ≤ 60 := by omega
      rw [hL0] at hM
      have hk0 := hM.ok
      obtain ⟨c, hc⟩ : ∃ c, mapL F a0 = c := ⟨_, rfl⟩
      have hcl : c.length = pl := by rw [← hc, hP.len, hpl']
      have hpl20 : pl ≤ 20 := by omega
      have CA1 : Hid (Calls Try.prog 13 #[.pointer (some ⟨f, 0, none⟩), .int .i64 (a0 : Nat)] wr fun e w' => ∃ a3 cap3, e = .returned (.slice a3 pl cap3) ∧ StO w w' f L0 F (.slice (some ⟨rb, roff, none⟩) pl rcap) ps bm M [(.slice a3 pl cap3, c)] ∧ w'.cell? ⟨rb, roff, none⟩ = some (.int .i64 (p : Nat))) := by
        refine (hM.all (by omega) hP.root).mono fun e w' ⟨v, e1, e2, _, e3⟩ => ?_
        rw [hc] at e2 e3
        rw [hcl] at e2
        obtain ⟨a3, cap3, rfl⟩ := slice_of_owns e2
        refine ⟨a3, cap3, e1, e3, ?_⟩
        have := e3.row
        rw [hpl'] at this
        exact cell_of_owns this (k := 0) (u := encR p) (by rw [List.getElem?_map, hp]; rfl)
      have CG : Hid (∀ ww ex, StO w ww f L0 F (.slice (some ⟨rb, roff, none⟩) pl rcap) ps bm M ex → Calls Try.prog 17 #[.pointer (some ⟨f, 0, none⟩), .int .i64 (a0 : Nat), .int .i64 (p : Nat)] ww fun e w' => e = .returned (.tuple #[.agg #[.int .i64 xe, .int .i64 xc, .int .i64 xi, .int .i64 xg], .bool true]) ∧ StV w (w'.alloc (varE xe xc xi xg)) f L0 F (.slice (some ⟨rb, roff, none⟩) pl rcap) ps bm M ex w'.heap.size (varE xe xc xi xg)) := fun ww ex h => by
        obtain ⟨K, hK⟩ := h.lv
        have := get_lv hK (by omega) hP.root hp4
        rw [hx] at this
        exact this.mono fun e w' ⟨e1, e2⟩ => ⟨e1, (h.calm e2).var _⟩
      have CCl : Hid (∀ ww ex vb, StV w ww f L0 F (.slice (some ⟨rb, roff, none⟩) pl rcap) ps bm M ex vb (varE xe xc xi xg) → Calls Try.prog 16 #[.pointer (some ⟨f, 0, none⟩), .int .i64 (a0 : Nat), .int .i64 (p : Nat)] ww fun e w' => ∃ (G : Fo) (a1 : Nat), e = .returned (.tuple #[.int .i64 (a1 : Nat), .int .i64 0]) ∧ StC w w' f L0 F a0 p (.slice (some ⟨rb, roff, none⟩) pl rcap) ps bm M ex G a1 ∧ EntAt w' vb ⟨⟨xe, xc, xi⟩, xg⟩) := fun ww ex vb h =>
        (h.clearM (by omega) hP.root hp4).mono fun e w' ⟨G, a1, e1, e2, e3, e4⟩ => ⟨G, a1, e1, ⟨e2, e3⟩, varE_at e4⟩
      have CSt : Hid (∀ ww ex G a1, StC w ww f L0 F a0 p (.slice (some ⟨rb, roff, none⟩) pl rcap) ps bm M ex G a1 → Calls Try.prog 12 #[.pointer (some ⟨f, 0, none⟩), .int .i64 (a1 : Nat), .int .i64 (p : Nat), .agg #[.int .i64 xe, .int .i64 xc, .int .i64 xi, .int .i64 xg]] ww fun e w' => ∃ (H : Fo) (b1 : Nat), e = .returned (.tuple #[.int .i64 (b1 : Nat), .int .i64 0]) ∧ StD w w' f L0 a0 c (.slice (some ⟨rb, roff, none⟩) pl rcap) ps bm M ex H a1 b1) := fun ww ex G a1 h =>
        (h.mem.setM (by omega) h.is.root hp4 ⟨⟨xe, xc, xi⟩, xg⟩ hxo).mono fun e w' ⟨H, b1, e1, e2, e3⟩ => ⟨H, b1, e1, by
          have := h.set hk0 hP hp hx e2 e3
          rw [hc] at this
          exact this⟩
      have CA2 : Hid (∀ ww ex H r n', StO w ww f (L0 + 6) H (.slice (some ⟨rb, roff, none⟩) pl rcap) ps bm M ex → isB H ((r : Nat) : Int) = true → (mapL H r).length = n' → Calls Try.prog 13 #[.pointer (some ⟨f, 0, none⟩), .int .i64 (r : Nat)] ww fun e w' => ∃ a3 cap3, e = .returned (.slice a3 n' cap3) ∧ StO w w' f (L0 + 6) H (.slice (some ⟨rb, roff, none⟩) pl rcap) ps bm M ((.slice a3 n' cap3, mapL H r) :: ex)) := fun ww ex H r n' h hr hn' => by
        refine (h.all (by omega) hr).mono fun e w' ⟨v, e1, e2, _, e3⟩ => ?_
        rw [hn'] at e2
        obtain ⟨a3, cap3, rfl⟩ := slice_of_owns e2
        exact ⟨a3, cap3, e1, e3⟩
      have CSm : Hid (∀ ww ex H a8 cap8 a3 cap3, StO w ww f (L0 + 6) H (.slice (some ⟨rb, roff, none⟩) pl rcap) ps bm M ex → (.slice a8 pl cap8, c) ∈ ex → (.slice a3 pl cap3, c) ∈ ex → Calls Try.prog 14 #[.slice a8 pl cap8, .slice a3 pl cap3] ww fun e w' => e = .returned (.bool true) ∧ StO w w' f (L0 + 6) H (.slice (some ⟨rb, roff, none⟩) pl rcap) ps bm M ex) := fun ww ex H a8 cap8 a3 cap3 h m8 m3 => by
        have h1 := h.rowX m8
        have h2 := h.rowX m3
        rw [hcl] at h1 h2
        obtain ⟨a1', c1', e1, hs1, _⟩ := sl5_of_owns h1
        obtain ⟨a2', c2', e2, hs2, _⟩ := sl5_of_owns h2
        simp only [Value.slice.injEq] at e1 e2
        rw [← e1.1] at hs1
        rw [← e2.1] at hs2
        have := same_pairs c c a8 a3 pl pl cap8 cap3 ww hs1 hs2 (by omega) (by omega)
        rw [decide_eq_true rfl] at this
        exact this.mono fun e w' ⟨e1, e2⟩ => ⟨e1, h.calm e2⟩
      have HP := Lib.hid (And.intro hP hPM)
      have HCl := Lib.hid hcl
      clear hM hP hB HL hPM hx hxo hk0 hc hcl hp hp4 hsR hRow hpl' hp0 hL0
      go_upto_region 25 with (first
        | (go_at_call 13; ((with_reducible refine CA1.out.mono ?_); rintro e w3 ⟨a3, cap3, rfl, hM3, c0⟩; have S3 := Lib.hid hM3; clear hM3 CA1))
        | (go_at_call 17; ((with_reducible refine (CG.out _ _ S3.out).mono ?_); rintro e w4 ⟨rfl, hV⟩; have S4 := Lib.hid hV; clear hV S3 CG c0))
        | (go_at_call 16; ((with_reducible refine (CCl.out _ _ _ S4.out).mono ?_); rintro e w5 ⟨G, a1, rfl, hC, hE⟩; have S5 := Lib.hid hC; have g0 := hE.c0; have g1 := hE.c1; have g2 := hE.c2; have g3 := hE.c3; simp only at g0 g1 g2 g3; clear hC hE S4 CCl))
        | (go_at_call 12; ((with_reducible refine (CSt.out _ _ _ _ S5.out).mono ?_); rintro e w6 ⟨H, b1, rfl, hD⟩; have S6 := Lib.hid hD; clear hD S5 CSt g0 g1 g2 g3)))
      obtain ⟨dn, hdn⟩ : ∃ dn, pl = dn + 1 := ⟨pl - 1, by omega⟩
      have hle0 : (ps.eraseIdx 0).length = dn := by rw [List.length_eraseIdx_of_lt (by rw [HPl.out]; exact hps), HPl.out]; omega
      have hlA1 : (mapL H a1).length = dn := by rw [S6.out.less.len, hle0]
      have hz := S6.out.less.zero S6.out.mem.ok
      rw [hle0] at hz
      obtain ⟨z, hz1⟩ : ∃ z, ((a1 : Int) == 0) = z := ⟨_, rfl⟩
      have hz2 : ((pl : Int) == 1) = z := by
        rw [← hz1, Bool.eq_iff_iff, beq_iff_eq, beq_iff_eq]; omega
      have hpd : (pl : Int) - 1 = (dn : Int) := by omega
      have CB1 : Hid (∀ ww ex, StO w ww f (L0 + 6) H (.slice (some ⟨rb, roff, none⟩) pl rcap) ps bm M ex → Calls Try.prog 13 #[.pointer (some ⟨f, 0, none⟩), .int .i64 (b1 : Nat)] ww fun e w' => ∃ a3 cap3, e = .returned (.slice a3 pl cap3) ∧ StO w w' f (L0 + 6) H (.slice (some ⟨rb, roff, none⟩) pl rcap) ps bm M ((.slice a3 pl cap3, c) :: ex)) := fun ww ex h => by
        have := CA2.out ww ex H b1 pl h S6.out.root (by rw [S6.out.same, HCl.out])
        rw [S6.out.same] at this
        exact this
      have CB2 : Hid (∀ ww ex, StO w ww f (L0 + 6) H (.slice (some ⟨rb, roff, none⟩) pl rcap) ps bm M ex → Calls Try.prog 13 #[.pointer (some ⟨f, 0, none⟩), .int .i64 (a1 : Nat)] ww fun e w' => ∃ a3 cap3, e = .returned (.slice a3 dn cap3) ∧ StO w w' f (L0 + 6) H (.slice (some ⟨rb, roff, none⟩) pl rcap) ps bm M ((.slice a3 dn cap3, mapL H a1) :: ex)) := fun ww ex h => CA2.out ww ex H a1 dn h S6.out.less.root hlA1
      have S7 := Lib.hid S6.out.mem
      clear CA2 hdn hle0 hlA1 hz
      go_wp2_with (first
        | (go_at_call 13; ((with_reducible refine (CB1.out _ _ S7.out).mono ?_); rintro e w7 ⟨a8, cap8, rfl, hs⟩; have S8 := Lib.hid hs; clear hs S7))
        | (go_at_call 14; ((with_reducible refine (CSm.out _ _ _ _ _ _ _ S8.out List.mem_cons_self (List.mem_cons_of_mem _ List.mem_cons_self)).mono ?_); rintro e w8 ⟨rfl, hs⟩; have S9 := Lib.hid hs; clear hs S8))
        | (go_at_call 13; ((with_reducible refine (CB2.out _ _ S9.out).mono ?_); rintro e w9 ⟨a9, cap9, rfl, hs⟩; have S10 := Lib.hid hs; clear hs S9)))
      clear hz1 hz2 hpd
      have S2 : Hid (Sb2 w w9 f bm (L0 + 6) pl M 0 (.int .i64 (a0 : Nat)) (.slice (some ⟨rb, roff, none⟩) pl rcap)) :=
        ⟨H, a0, ps, rfl, S10.out.less (fun x hx => by cases hx), S6.out.keep, HPl.out⟩
      obtain ⟨L1, hL1⟩ : ∃ L1, L0 + 6 = L1 := ⟨_, rfl⟩
      have hL70 : L1 ≤ 70 := by omega
      rw [hL1] at S2
      clear S10 S6 CB1 CB2 CSm HPl HP HCl hL1
      go_loopw [21, 6, 7] (fun v av pv wr => ∃ j : Nat, j ≤ pl ∧ v = .int .i64 j ∧ Hid (Sb2 w wr f bm L1 pl M j av pv)) (fun v _ _ _ => pl - (intOf v).toNat)
      case atStart => exact ⟨0, Nat.zero_le _, rfl, S2.out⟩
      case round =>
        obtain ⟨j, hj, rfl, hB⟩ := hrel
        clear S2
        obtain ⟨F, a0, rem, rfl, hM, hP, hrl⟩ := hB.out
        obtain ⟨rl, hrl'⟩ : ∃ rl, rem.length = rl := ⟨_, rfl⟩
        have HRl := Lib.hid hrl'
        rw [hrl'] at hrl
        have hRow := hM.row
        rw [hrl'] at hRow
        obtain ⟨ra, rcap', rfl, hsR, _⟩ := SlAt.of_owns hRow
        have HM := Lib.hid hM
        have HP := Lib.hid hP
        have HR := Lib.hid hsR
        clear hM hP hsR hRow hB hrl'
        by_cases hlt : 0 < rl
        · go_upto_if 154 with fail
          go_cut [22] (fun v wc => (∃ k : Nat, v = .int .i64 k ∧ k < rl) ∧ wc = wr)
          case first =>
            by_cases him : j < m
            · obtain ⟨bb, boff, x, rfl, _, hx, hc⟩ := (RowsAt.below HO.out.1 HM.out.bel).at j him
              have hc0 := hc 0 _ rfl
              simp only [Nat.mul_one, Nat.add_zero] at hc0
              have hx256 := HO.out.2 x (List.mem_of_getElem? hx)
              clear hc hx
              obtain ⟨k, hk⟩ : ∃ k, x % rl = k := ⟨_, rfl⟩
              have hki : k < rl := hk ▸ Nat.mod_lt _ hlt
              have hkI : (x : Int) % (rl : Int) = k := by omega
              go_wp2
              go_meet
              exact ⟨⟨k, by rw [hkI], hki⟩, rfl⟩
            · go_wp2
              go_meet
              exact ⟨⟨0, rfl, hlt⟩, rfl⟩
          case rest =>
            obtain ⟨⟨k, rfl, hk⟩, rfl⟩ := hcut
            obtain ⟨rb, roff, rfl, -⟩ := HR.out.cells hlt
            obtain ⟨p, hp⟩ : ∃ p, rem[k]? = some p := ⟨_, List.getElem?_eq_getElem (by rw [HRl.out]; exact hk)⟩
            have hp4 := HP.out.lt p (List.mem_of_getElem? hp)
            have hcell : ∀ ww G L' , StO w ww f L' G (.slice (some ⟨rb, roff, none⟩) rl rcap') rem bm M [] → ww.cell? ⟨rb, roff + k, none⟩ = some (.int .i64 (p : Nat)) := fun ww G L' h => by
              have := h.row
              rw [HRl.out] at this
              exact cell_of_owns this (u := encR p) (by rw [List.getElem?_map, hp]; rfl)
            have c0 := hcell _ _ _ HM.out
            have C1 : Hid (Calls Try.prog 16 #[.pointer (some ⟨f, 0, none⟩), .int .i64 (a0 : Nat), .int .i64 (p : Nat)] wc fun e w' => ∃ (G : Fo) (r : Nat), e = .returned (.tuple #[.int .i64 (r : Nat), .int .i64 0]) ∧ StE w w' f (L1 + 6 * j) F a0 p (.slice (some ⟨rb, roff, none⟩) rl rcap') rem bm M G r ∧ w'.cell? ⟨rb, roff + k, none⟩ = some (.int .i64 (p : Nat))) :=
              (HM.out.clearM (by omega) HP.out.root hp4).mono fun e w' ⟨G, r, e1, e2, e3, e4⟩ => ⟨G, r, e1, ⟨e2, e3⟩, hcell _ _ _ e2⟩
            have C2 : Hid (∀ ww G r, StE w ww f (L1 + 6 * j) F a0 p (.slice (some ⟨rb, roff, none⟩) rl rcap') rem bm M G r → Calls Try.prog 16 #[.pointer (some ⟨f, 0, none⟩), .int .i64 (r : Nat), .int .i64 (p : Nat)] ww fun e w' => ∃ H : Fo, e = .returned (.tuple #[.int .i64 (r : Nat), .int .i64 0]) ∧ StF w w' f (L1 + 6 * j) (.slice (some ⟨rb, roff, none⟩) rl rcap') rem k bm M H r) := fun ww G r h => by
              refine (h.mem.clearM (by omega) h.is.root hp4).mono fun e w' ⟨H, r', e1, e2, e3, e4⟩ => ?_
              have hno : getL 2 G r p = none := by
                have := h.is.get p hp4
                unfold setG at this
                rw [if_pos rfl] at this
                exact this
              obtain rfl := e4 hno
              exact ⟨H, e1, e2, (HP.out.clear hp h.is).keep h.mem.ok e3⟩
            clear hp hp4 hcell
            go_upto_region 37 with (first
              | (go_at_call 16; ((with_reducible refine C1.out.mono ?_); rintro e w3 ⟨G, r, rfl, hs, c1⟩; have S3 := Lib.hid hs; clear hs C1 c0))
              | (go_at_call 16; ((with_reducible refine (C2.out _ _ _ S3.out).mono ?_); rintro e w4 ⟨H, rfl, hs⟩; have S4 := Lib.hid hs; clear hs C2 S3 c1)))
            have hM2 := S4.out.mem
            have hrc : rl ≤ rcap' ∧ w.heap.size ≤ rb := by
              have := hM2.row
              rw [HRl.out] at this
              rcases this.2 with ⟨e, _⟩ | ⟨g, c', cur, e, hg, _, hn, _⟩
              · cases e
              · simp only [Value.slice.injEq, Option.some.injEq, Addr.mk.injEq] at e
                omega
            have hsl1 := run_slice_pre (P := Try.prog) (t := 28) Try.underlying28 sizeInt rb roff rl rcap' k (by omega) (by omega)
            have hsl2 := run_slice_suf (P := Try.prog) (t := 28) Try.underlying28 sizeInt rb roff rl rcap' k (by omega)
            obtain ⟨A2, hA2⟩ : ∃ A2, sufA rb roff rcap' (k + 1) = A2 := ⟨_, rfl⟩
            rw [hA2] at hsl2
            have HA2 := Lib.hid hA2
            have HM2 := Lib.hid hM2
            clear hA2 hM2 hrc
            have hwk : IntKind.i64.wrap ((k : Int) + 1) = (k : Int) + 1 := IntWalk.i64_in _ (by omega)
            have HNw := Lib.hid (news_cells HM2.out HRl.out HA2.out hk)
            have HLn := Lib.hid (news_len (rem := rem) HRl.out hk)
            have HSm : Hid (0 + k ≤ maxLen ∧ (0 + k) * 8 ≤ 140737488355328 ∧ 0 + k + (rl - (k + 1)) ≤ maxLen ∧ (0 + k + (rl - (k + 1))) * 8 ≤ 140737488355328) := Lib.hid (by unfold maxLen; omega)
            go_region_held3 (fun w' => True) (trivial)
              (first
                | (refine step_append_at (by rfl) _ _ 28 (by rfl) w4.heap.size 3 i1 (.int .i64 0) 1 8 Try.underlying28 hi1 hz10 hz11 hz12 rfl (by decide) _ _ _ (by rfl) (owns_emptyd w4 3 1) _ _ _ ((rem.take k).map encR) (by rfl) HLn.out.1 (HNw.out.1 _) (oneR _) HSm.out.1 HSm.out.2.1 (le_allocd w4 _) ?_; intro v5 w5 hown5 hgrow5 hblk5; have O5 := Lib.hid (And.intro hown5 (below_app hgrow5)); clear hown5 hgrow5 hblk5)
                | (refine step_append_at (by rfl) _ _ 28 (by rfl) w4.heap.size 3 i1 (.int .i64 0) 1 8 Try.underlying28 hi1 hz10 hz11 hz12 rfl (by decide) _ _ _ (by rfl) O5.out.1 _ _ _ ((rem.drop (k + 1)).map encR) (by rfl) HLn.out.2 (HNw.out.2 _ O5.out.2) (oneR _) HSm.out.2.2.1 HSm.out.2.2.2 O5.out.2.size ?_; intro v6 w6 hown6 hgrow6 hblk6; have O6 := Lib.hid (And.intro hown6 (O5.out.2.grown hgrow6 O5.out.2.size (own_above O5.out.1))); clear hown6 hgrow6 hblk6))
            obtain ⟨a6, cap6, hv6⟩ := slice_of_owns O6.out.1
            obtain ⟨rl1, hrl1⟩ : ∃ rl1, 0 + k + (rl - (k + 1)) = rl1 := ⟨_, rfl⟩
            have hrlE : rl1 + 1 = rl := by omega
            rw [hrl1] at hv6
            subst hv6
            have O6' : Hid (w6.ownsRow w4.heap.size 3 1 (.slice a6 rl1 cap6) rl1 ((rem.eraseIdx k).map encR) ∧ Below w4.heap.size w4 w6) := by
              refine ⟨?_, O6.out.2⟩
              have := O6.out.1
              rw [List.eraseIdx_eq_take_drop_succ, List.map_append]
              rw [hrl1, List.nil_append] at this
              exact this
            have hlen : (rem.eraseIdx k).length = rl1 := by rw [List.length_eraseIdx_of_lt (by rw [HRl.out]; exact hk), HRl.out]; omega
            have HF : Hid (StO w w6 f (L1 + 6 * j + 6) H (.slice a6 rl1 cap6) (rem.eraseIdx k) bm M []) := HM2.out.fresh O6'.out.2 (by rw [hlen]; exact O6'.out.1)
            have hz := S4.out.less.zero S4.out.mem.ok
            rw [hlen] at hz
            obtain ⟨z, hz1⟩ : ∃ z, ((r : Int) == 0) = z := ⟨_, rfl⟩
            have hz2 : ((rl1 : Int) == 0) = z := by
              rw [← hz1, Bool.eq_iff_iff, beq_iff_eq, beq_iff_eq]; omega
            have CA : Hid (Calls Try.prog 13 #[.pointer (some ⟨f, 0, none⟩), .int .i64 (r : Nat)] w6 fun e w' => ∃ a9 cap9, e = .returned (.slice a9 rl1 cap9) ∧ Sb2 w w' f bm L1 pl M (j + 1) (.int .i64 (r : Nat)) (.slice a6 rl1 cap6)) := by
              refine (HF.out.all (by omega) S4.out.less.root).mono fun e w' ⟨v, e1, e2, _, e3⟩ => ?_
              rw [S4.out.less.len, hlen] at e2
              obtain ⟨a9, cap9, rfl⟩ := slice_of_owns e2
              refine ⟨a9, cap9, e1, H, r, rem.eraseIdx k, rfl, ?_, S4.out.less, by rw [hlen]; omega⟩
              rw [show L1 + 6 * (j + 1) = L1 + 6 * j + 6 by omega]
              exact e3.less fun x hx => by cases hx
            clear O5 O6 O6' HSm HLn HNw HF hz hlen hsl1 hsl2 hwk hrl1 HM2 HA2
            go_wp2_with (go_at_call 13; ((with_reducible refine CA.out.mono ?_); rintro e w9 ⟨a9, cap9, rfl, hs⟩; have S9 := Lib.hid hs; clear hs))
            go_roundw
            case rel => exact ⟨j + 1, by omega, by go_num, S9.out⟩
            case measure => simp [intOf]; omega
        · obtain rfl : rl = 0 := by omega
          obtain rfl : a0 = 0 := (HP.out.zero HM.out.ok).2 HRl.out
          have HBel := Lib.hid HM.out.bel
          clear HM HR HRl hlt
          go_wp2_with (go_at_call 10; ((with_reducible refine (HAl.out _).mono ?_); rintro e w9 ⟨rfl, hb⟩; have H9 := Lib.hid (HBel.out.trans (hb.mono HBel.out.size)); clear hb))
          go_ret
          exact ⟨rfl, H9.out⟩
end Go.Proofs.Ytmpbhoijkcanmaa.R
