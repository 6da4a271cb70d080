/- Radix: a map is never changed: the walk. -/
import Derived.Test.YtmpbhoijkcanmaaSK
import Derived.Deep.DeepCutAuto
namespace Go.Proofs.Ytmpbhoijkcanmaa.R
open Go.ChangeShapes Go.WideShapes Go.ChangeAt Go.RowKit Go.Maps Go.Proofs.Ytmpbhoijkcanmaa.G
set_option linter.unusedVariables false
set_option linter.unusedSimpArgs false
set_option linter.unnecessarySimpa false

/-- what came of a page that was set, or cleared -/
structure StepD (w wc : World) (f L : Nat) (F : Fo) (rv : Value) (rs : List Nat) (qv : Value) (ls : List Value) (ex : List (Value × List Pr)) (o : Option Ent) (pg : Nat) (G : Fo) (r' : Nat) : Prop where
  mem : StM w wc f (L + 3) G rv rs qv ls ex
  ext : Ext F G
  held : ∀ i : Int, cnt G.held i = cnt F.held i + if r' ≠ 0 ∧ i = r' then 1 else 0
  len : G.ids.length ≤ F.ids.length + 3
  get : getL 2 G r' pg = o
  root : isB G (r' : Int) = true
theorem StepD.of_set {w wc : World} {f L : Nat} {F : Fo} {rv qv : Value} {rs : List Nat} {ls : List Value} {ex : List (Value × List Pr)} {r pg : Nat} {x : Ent} (k : Ok F L) (hL : L ≤ 2 ^ 34) (hr : isB F (r : Int) = true) (hp : pg < 4096) (hx : x.ok) (h : StM w wc f (L + 3) (setF F r pg (.set 0 x)).1 rv rs qv ls ex) :
    StepD w wc f L F rv rs qv ls ex (some x) pg (setF F r pg (.set 0 x)).1 (setF F r pg (.set 0 x)).2 := by
  have his := setF_is k (by omega) (k.inv.root hr) hp (.set 0 x) hx
  generalize setF F r pg (.set 0 x) = R at *
  refine ⟨h, his.ext, his.held, his.len, by rw [his.get pg hp, if_pos rfl]; rfl, ?_⟩
  rw [isB_iff]
  by_cases h0 : R.2 = 0
  · exact .inl h0
  · right; rw [his.held, if_pos ⟨h0, rfl⟩]; omega
theorem StepD.of_clear {w wc : World} {f L : Nat} {F : Fo} {rv qv : Value} {rs : List Nat} {ls : List Value} {ex : List (Value × List Pr)} {r pg : Nat} (k : Ok F L) (hL : L ≤ 2 ^ 34) (hr : isB F (r : Int) = true) (hp : pg < 4096) (h : StM w wc f (L + 3) (clearF F r pg).1 rv rs qv ls ex) :
    StepD w wc f L F rv rs qv ls ex none pg (clearF F r pg).1 (clearF F r pg).2 := by
  obtain ⟨h1, h2, h3, h4, h5, h6⟩ := clearF_is k (by omega) (k.inv.root hr) hp
  generalize clearF F r pg = R at *
  refine ⟨h, h3, h4, h5, by rw [h6 pg hp, if_pos rfl], ?_⟩
  rw [isB_iff]
  by_cases h0 : R.2 = 0
  · exact .inl h0
  · right; rw [h4, if_pos ⟨h0, rfl⟩]; omega
theorem infoI1 : (Try.prog.info? 3).map (fun i => (i.zero, i.size, i.bytes)) = some (some (.int .i64 0), 1, 8) := by kernel_rfl
theorem infoSP : (Try.prog.info? 40).map (fun i => (i.zero, i.size, i.bytes)) = some (some (.slice none 0 0), 1, 24) := by kernel_rfl
theorem len_gt {n : Nat} (h : 20 < n) : decide ((20 : Int) < n) = true := by simp; omega
theorem len_le {n : Nat} (h : ¬ 20 < n) : decide ((20 : Int) < n) = false := by simp; omega
/-- the first loop's head -/
def St1 (w wr : World) (f i : Nat) (rv qv : Value) : Prop := ∃ F rs ls ex, StM w wr f (3 * i) F rv rs qv ls ex ∧ StP F rs rs ls ex ∧ rs.length = i ∧ ls.length = i
def St2 (w wr : World) (f L : Nat) (rv qv : Value) (rs : List Nat) (ls : List Value) (ex : List (Value × List Pr)) (j : Nat) : Prop := ∃ F, StM w wr f L F rv rs qv ls ex ∧ StP F (rs.drop j) rs ls ex
set_option maxRecDepth 100000 in
set_option maxHeartbeats 4000000 in
theorem stays_law (a b : Option Addr) (n m cap capb : Nat) (l : List PutD) (of : List Nat) (w : World) (hl : PutsAt w a n l) (hok : ∀ x, x ∈ l → x.ok) (hm : m ≤ maxLen) (ho : BytesAt w b m of) (hof : ∀ x, x ∈ of → x < 256) (hn : n ≤ maxLen) :
    Calls Try.prog 4 #[.slice a n cap, .slice b m capb] w fun e w' => e = .returned (.bool true) ∧ Below w.heap.size w w' := by
  have HAl := Lib.hid alive23
  have HB0 := Lib.hid (Below.refl w.heap.size w)
  unfold maxLen at hm hn
  by_cases hlen : 20 < n
  · have hd := len_gt hlen
    clear hl hok ho hof
    go_enter Try.func4, Try.ntmps4
    go_wp2_with (go_at_call 10; ((with_reducible refine (HAl.out _).mono ?_); rintro e wE ⟨rfl, hb⟩))
    go_ret
    exact ⟨rfl, hb⟩
  have hd := len_le hlen
  have CN := Lib.hid (new_lv (Below.refl w.heap.size w))
  have HL := Lib.hid (And.intro hl hok)
  have HO := Lib.hid (And.intro ho hof)
  clear hl hok ho hof
  obtain ⟨i1, hi1, hz10, hz11, hz12⟩ := info_parts infoI1
  obtain ⟨i2, hi2, hz20, hz21, hz22⟩ := info_parts infoSP
  go_enter Try.func4, Try.ntmps4
  go_upto_block 1 with (first
    | (go_at_call 11; ((with_reducible refine CN.out.mono ?_); rintro e w1 ⟨f, rfl, hs⟩; have S0 := Lib.hid (StM.start hs); clear hs CN)))
  clear hd
  go_loopw [8, 6, 7] (fun v rv qv wr => ∃ i : Nat, i ≤ n ∧ v = .int .i64 i ∧ Hid (St1 w wr f i rv qv)) (fun v _ _ _ => n - (intOf v).toNat)
  case atStart => exact ⟨0, Nat.zero_le _, rfl, fo0, [], [], [], S0.out, StP.start, rfl, rfl⟩
  case round =>
    obtain ⟨i, hi, rfl, hB⟩ := hrel
    clear S0
    by_cases hlt : i < n
    · obtain ⟨F, rs, ls, ex, hM, hP, hr1, hr2⟩ := hB.out
      have hR := hM.rowR
      rw [hr1] at hR
      obtain ⟨ra, rcap, rfl, hsR, _⟩ := SlAt.of_owns hR
      have hQ := hM.rowL
      rw [hr2] at hQ
      obtain ⟨qa, qcap, rfl, hsQ, _⟩ := SlAt.of_owns hQ
      have HM := Lib.hid hM
      have HP := Lib.hid hP
      have HR := Lib.hid hsR
      have HQ := Lib.hid hsQ
      have HL1 := Lib.hid (And.intro hr1 hr2)
      clear hM hP hsR hsQ hr1 hr2 hR hQ hB
      go_upto_region 12 with fail
      obtain ⟨c1, hc1⟩ : ∃ c1, decide (0 < i ∧ i < m) = c1 := ⟨_, rfl⟩
      have HC1 := Lib.hid hc1
      clear hc1
      go_cut [45] (fun v wc => v = .bool c1 ∧ wc = wr)
      case first =>
        have hL0 : 0 < i ∨ i = 0 := by omega
        rcases hL0 with hi0 | rfl
        · by_cases him : i < m
          · go_wp2
            go_meet
            exact ⟨by rw [← HC1.out, decide_eq_true (And.intro hi0 him)], rfl⟩
          · go_wp2
            go_meet
            exact ⟨by rw [← HC1.out, decide_eq_false (fun h => him h.2)], rfl⟩
        · go_wp2
          go_meet
          exact ⟨by rw [← HC1.out]; simp, rfl⟩
      case rest =>
      obtain ⟨rfl, rfl⟩ := hcut
      go_upto_if 45 with fail
      go_cut [9] (fun v wc2 => (∃ r : Nat, v = .int .i64 r ∧ isB F (r : Int) = true) ∧ wc2 = wc)
      case first =>
        by_cases h1 : 0 < i ∧ i < m
        · have hct : c1 = true := by rw [← HC1.out]; exact decide_eq_true h1
          subst hct
          obtain ⟨hi0, him⟩ := h1
          obtain ⟨bb, boff, x, rfl, _, hx, hc⟩ := (RowsAt.below HO.out.1 HM.out.bel).at i him
          have hc0 := hc 0 _ rfl
          simp only [Nat.mul_one, Nat.add_zero] at hc0
          have hx256 := HO.out.2 x (List.mem_of_getElem? hx)
          clear hc hx
          obtain ⟨rb, roff, rfl, hrc⟩ := HR.out.cells hi0
          obtain ⟨k, hk⟩ : ∃ k, x % i = k := ⟨_, rfl⟩
          have hki : k < i := hk ▸ Nat.mod_lt _ hi0
          have hrk := hrc k hki
          have hkr : k < rs.length := by rw [HL1.out.1]; exact hki
          obtain ⟨r, hr⟩ : ∃ r, rs[k]? = some r := ⟨_, List.getElem?_eq_getElem hkr⟩
          rw [List.getElem?_map, hr] at hrk
          have hrk : wc.cell? ⟨rb, roff + k, none⟩ = some (.int .i64 (r : Nat)) := hrk
          have hkI : (x : Int) % (i : Int) = k := by omega
          have HR1 := Lib.hid (HP.out.isB (.inr (List.mem_of_getElem? hr)))
          clear hrc hr hk
          go_wp2
          go_meet
          exact ⟨⟨r, rfl, HR1.out⟩, rfl⟩
        · have hct : c1 = false := by rw [← HC1.out]; exact decide_eq_false h1
          subst hct
          go_wp2
          go_meet
          exact ⟨⟨0, rfl, rfl⟩, rfl⟩
      case rest =>
        obtain ⟨⟨r, rfl, hrB⟩, rfl⟩ := hcut
        obtain ⟨pb, poff, x, rfl, _, hx, k0, k1, k2, k3, k4, k5⟩ := PutsAt.cells (RowsAt.below HL.out.1 HM.out.bel) i hlt
        have hxo := HL.out.2 x (List.mem_of_getElem? hx)
        have HXX := Lib.hid hx
        obtain ⟨pn, ⟨⟨xe, xc, xi⟩, xg⟩, gone⟩ := x
        obtain ⟨hpn, hxe⟩ := hxo
        simp only at k0 k1 k2 k3 k4 k5 hpn hxe
        have HX := Lib.hid hxe
        have HrB := Lib.hid hrB
        obtain ⟨pg, hpg⟩ : ∃ pg, pn % 4096 = pg := ⟨_, rfl⟩
        have hpg4 : pg < 4096 := by omega
        have hpgI : (pn : Int) % 4096 = pg := by omega
        obtain ⟨fk, hfk⟩ : ∃ fk, F.ids.length = fk := ⟨_, rfl⟩
        have CNd : Hid (Calls Try.prog 15 #[.pointer (some ⟨f, 0, none⟩)] wc fun e w' => e = .returned (.int .i64 (fk : Nat)) ∧ wc = w') := by
          obtain ⟨K, hK⟩ := HM.out.lv
          have := nodes_lv hK
          rw [hfk] at this
          exact this
        have hpgE : (pn : Int) % 4096 = (pg : Nat) := hpgI
        have hi20 : i < 20 := by omega
        have CS : Hid (∀ ww, StM w ww f (3 * i) F (.slice ra i rcap) rs (.slice qa i qcap) ls ex → Calls Try.prog 12 #[.pointer (some ⟨f, 0, none⟩), .int .i64 (r : Nat), .int .i64 ((pn : Int) % 4096), .agg #[.int .i64 xe, .int .i64 xc, .int .i64 xi, .int .i64 xg]] ww fun e w' => ∃ G r', e = .returned (.tuple #[.int .i64 ((r' : Nat) : Int), .int .i64 0]) ∧ StepD w w' f (3 * i) F (.slice ra i rcap) rs (.slice qa i qcap) ls ex (some ⟨⟨xe, xc, xi⟩, xg⟩) pg G r') := fun ww h => by
          have := h.set (by omega) hrB hpg4 ⟨⟨xe, xc, xi⟩, xg⟩ hxe
          rw [hpgE]
          exact this.mono fun e w' ⟨e1, e2⟩ => ⟨_, _, e1, StepD.of_set h.ok (by omega) hrB hpg4 hxe e2⟩
        have CC : Hid (∀ ww, StM w ww f (3 * i) F (.slice ra i rcap) rs (.slice qa i qcap) ls ex → Calls Try.prog 16 #[.pointer (some ⟨f, 0, none⟩), .int .i64 (r : Nat), .int .i64 ((pn : Int) % 4096)] ww fun e w' => ∃ G r', e = .returned (.tuple #[.int .i64 ((r' : Nat) : Int), .int .i64 0]) ∧ StepD w w' f (3 * i) F (.slice ra i rcap) rs (.slice qa i qcap) ls ex none pg G r') := fun ww h => by
          have := h.clear (by omega) hrB hpg4
          rw [hpgE]
          exact this.mono fun e w' ⟨e1, e2⟩ => ⟨_, _, e1, StepD.of_clear h.ok (by omega) hrB hpg4 e2⟩
        have HPE := Lib.hid hpgE
        clear hx hxe hrB hpg hpgE hpgI
        go_upto_region 17 with (go_at_call 15; ((with_reducible refine CNd.out.mono ?_); rintro e w2 ⟨rfl, rfl⟩))
        go_upto_if 70 with fail
        go_cut [12, 13] (fun u v wc2 => ∃ (G : Fo) (r' : Nat), u = .int .i64 (r' : Nat) ∧ v = .int .i64 0 ∧ StepD w wc2 f (3 * i) F (.slice ra i rcap) rs (.slice qa i qcap) ls ex (if gone then none else some ⟨⟨xe, xc, xi⟩, xg⟩) pg G r')
        case first =>
          cases gone
          · go_wp2_with (go_at_call 12; ((with_reducible refine (CS.out _ HM.out).mono ?_); rintro e w3 ⟨G, r', rfl, hs⟩; have S3 := Lib.hid hs; clear hs))
            go_meet
            exact ⟨G, r', rfl, rfl, S3.out⟩
          · go_wp2_with (go_at_call 16; ((with_reducible refine (CC.out _ HM.out).mono ?_); rintro e w3 ⟨G, r', rfl, hs⟩; have S3 := Lib.hid hs; clear hs))
            go_meet
            exact ⟨G, r', rfl, rfl, S3.out⟩
        case rest =>
          obtain ⟨G, r', rfl, rfl, hS⟩ := hcut
          have HG := Lib.hid hS
          have HMk := Lib.hid HM.out.ok
          have hgs : fk ≤ 2 ^ 40 := by have := HM.out.ok.len; omega
          clear hS CS CC CNd k0 k1 k2 k3 k4 k5 HM
          obtain ⟨gk, hgk⟩ : ∃ gk, G.ids.length = gk := ⟨_, rfl⟩
          have hgl : gk ≤ fk + 3 := by have := HG.out.len; omega
          have CNd : Hid (∀ ww, StM w ww f (3 * i + 3) G (.slice ra i rcap) rs (.slice qa i qcap) ls ex → Calls Try.prog 15 #[.pointer (some ⟨f, 0, none⟩)] ww fun e w' => e = .returned (.int .i64 (gk : Nat)) ∧ w' = ww) := fun ww h => by
            obtain ⟨K, hK⟩ := h.lv
            have := nodes_lv hK
            rw [hgk] at this
            exact this.mono fun e w' ⟨h1, h2⟩ => ⟨h1, h2.symm⟩
          obtain ⟨⟨⟨ye, yc, yi⟩, yg⟩, hy⟩ : ∃ y, (if gone then none else some (⟨⟨xe, xc, xi⟩, xg⟩ : Ent)).getD zeroE = y := ⟨_, rfl⟩
          have HY := Lib.hid hy
          obtain ⟨ng, hng⟩ : ∃ ng, (!gone) = ng := ⟨_, rfl⟩
          have HNG := Lib.hid hng
          have CG : Hid (Calls Try.prog 17 #[.pointer (some ⟨f, 0, none⟩), .int .i64 (r' : Nat), .int .i64 ((pn : Int) % 4096)] wc fun e w' => e = .returned (.tuple #[.agg #[.int .i64 ye, .int .i64 yc, .int .i64 yi, .int .i64 yg], .bool ng]) ∧ Below wc.heap.size wc w') := by
            obtain ⟨K, hK⟩ := HG.out.mem.lv
            have := get_lv hK (by omega) HG.out.root hpg4
            rw [HG.out.get] at this
            rw [HPE.out]
            unfold getPost at this
            rw [hy] at this
            rw [← hng]
            cases gone <;> exact this
          clear hgk hy hng
          go_upto_region 20 with fail
          go_cut [14, 15] (fun u v wc3 => ∃ vb, u = .pointer (some ⟨vb, 0, none⟩) ∧ v = .bool ng ∧ StM w wc3 f (3 * i + 3) G (.slice ra i rcap) rs (.slice qa i qcap) ls ex ∧ EntAt wc3 vb ⟨⟨ye, yc, yi⟩, yg⟩)
          case first =>
            go_wp2_with (go_at_call 17; ((with_reducible refine CG.out.mono ?_); rintro e w4 ⟨rfl, hb⟩; have HB := Lib.hid hb; clear hb))
            go_meet
            exact ⟨_, rfl, rfl, (HG.out.mem.calm HB.out).alloc _, ent_new w4 33 ⟨⟨ye, yc, yi⟩, yg⟩⟩
          case rest =>
          obtain ⟨vb, rfl, rfl, hM, hE⟩ := hcut
          have HM := Lib.hid hM
          have HE := Lib.hid hE
          clear hM hE CG
          go_upto_region 21 with fail
          go_cut [126] (fun v wc4 => v = .bool false ∧ StM w wc4 f (3 * i + 3) G (.slice ra i rcap) rs (.slice qa i qcap) ls ex)
          case first =>
            obtain ⟨pb', poff', x', e1, _, hx', k0, k1, k2, k3, k4, k5⟩ := PutsAt.cells (RowsAt.below HL.out.1 HM.out.bel) i hlt
            have hxx := HXX.out.symm.trans hx'
            simp only [Option.some.injEq, Addr.mk.injEq, and_true] at hxx e1
            obtain ⟨rfl, rfl⟩ := e1
            subst hxx
            have g0 := HE.out.c0
            have g1 := HE.out.c1
            have g2 := HE.out.c2
            have g3 := HE.out.c3
            simp only at g0 g1 g2 g3 k0 k1 k2 k3 k4 k5
            have hw3 : IntKind.i64.wrap ((fk : Int) + 3) = (fk : Int) + 3 := IntWalk.i64_in _ (by omega)
            have hnd : decide ((fk : Int) + 3 < gk) = false := by simp; omega
            clear hx'
            cases gone
            · obtain rfl : true = ng := HNG.out
              obtain ⟨⟨rfl, rfl, rfl⟩, rfl⟩ : (xe = ye ∧ xc = yc ∧ xi = yi) ∧ xg = yg := by
                have := HY.out
                simpa using this
              go_quiet ((go_at_call 15; exact Calls.quiet_of_same (CNd.out _ (HM.out.drewN _))))
              go_wp2
              go_meet
              exact ⟨rfl, HM.out.drewN _⟩
            · obtain rfl : false = ng := HNG.out
              go_quiet ((go_at_call 15; exact Calls.quiet_of_same (CNd.out _ (HM.out.drewN _))))
              go_wp2
              go_meet
              exact ⟨rfl, HM.out.drewN _⟩
          case rest =>
          obtain ⟨rfl, hM⟩ := hcut
          have HM := Lib.hid hM
          have HRow : Hid (∀ o, (wc.alloc o).ownsRow w.heap.size 3 1 (.slice ra i rcap) i (rs.map encR)) := fun o => by
            have := (HM.out.alloc o).rowR
            rw [HL1.out.1] at this
            exact this
          have HSz := Lib.hid hM.bel.size
          clear hM
          go_wp2_with (first
            | (at_builtin; refine wpList_append_own_at _ rfl _ _ 28 rfl w.heap.size 3 i1 (.int .i64 0) 1 8 Try.underlying28 hi1 hz10 hz11 hz12 rfl (by decide) _ _ _ rfl (HRow.out _) ⟨wc.heap.size, 0, none⟩ 1 1 [.int .i64 (r' : Nat)] rfl rfl ?c1 ?c2 ?c3 ?c4 ?c5 ?_))
          case c1 => exact fun j u hu => cell_new1 wc _ 3 j u hu
          case c2 => intro u hu; simp at hu; subst hu; rfl
          case c3 => unfold maxLen; omega
          case c4 => omega
          case c5 => have := HSz.out; simp; omega
          intro rv' w5 hown hgrow _ hblk
          have hM2 : StM w w5 f (3 * i + 3) G rv' (rs ++ [r']) (.slice qa i qcap) ls ex := HM.out.appR (by rw [HL1.out.1]; exact hown) hgrow hblk
          have HM2 := Lib.hid hM2
          have CA := Lib.hid (hM2.all (by omega) HG.out.root)
          clear hown hgrow hblk hM2
          go_wp2_with (first
            | (go_at_call 13; ((with_reducible refine CA.out.mono ?_); rintro e w6 ⟨v6, rfl, ho6, _, hM3⟩; obtain ⟨a6, cap6, rfl⟩ := slice_of_owns ho6; have HM3 := Lib.hid hM3; have HRow2 := Lib.hid (hM3.alloc (.cells #[.slice a6 (mapL G r').length cap6] 40)).rowL; have HSz6 := Lib.hid hM3.bel.size; clear hM3 ho6))
            | (at_builtin; refine wpList_append_own_at _ rfl _ _ 46 rfl w.heap.size 40 i2 (.slice none 0 0) 1 24 Try.underlying46 hi2 hz20 hz21 hz22 rfl (by decide) (.slice qa i qcap) _ _ rfl HRow2.out ⟨w6.heap.size, 0, none⟩ 1 1 [.slice a6 (mapL G r').length cap6] rfl rfl ?d1 ?d2 ?d3 ?d4 ?d5 ?_))
          case d1 => exact fun j u hu => cell_new1 w6 _ 40 j u hu
          case d2 => intro u hu; simp at hu; subst hu; rfl
          case d3 => have := HL1.out.2; unfold maxLen; omega
          case d4 => have := HL1.out.2; omega
          case d5 => have := HSz6.out; simp; omega
          intro qv' w7 hown hgrow _ hblk
          have HS : Hid (St1 w w7 f (i + 1) rv' qv') := by
            have h7 := HM3.out.appL hown hgrow hblk
            have hp := HP.out.new (fun r hr => .inr hr) (by rw [HL1.out.1, HL1.out.2]) HMk.out HG.out.ext HG.out.held (.slice a6 (mapL G r').length cap6)
            exact ⟨G, _, _, _, by rw [show 3 * (i + 1) = 3 * i + 3 by omega]; exact h7, hp, by rw [List.length_append, HL1.out.1]; rfl, by rw [List.length_append, HL1.out.2]; rfl⟩
          clear hown hgrow hblk
          go_wp2
          go_roundw
          case rel => exact ⟨i + 1, by omega, by go_num, HS.out⟩
          case measure => simp [intOf]; omega
    · have hie : i = n := by omega
      subst hie
      clear hlt hi
      obtain ⟨F, rs, ls, ex, hM, hP, hr1, hr2⟩ := hB.out
      have hR := hM.rowR
      rw [hr1] at hR
      obtain ⟨ra, rcap, rfl, hsR, _⟩ := SlAt.of_owns hR
      have hQ := hM.rowL
      rw [hr2] at hQ
      obtain ⟨qa, qcap, rfl, hsQ, _⟩ := SlAt.of_owns hQ
      have S2 : Hid (St2 w wr f (3 * i) (.slice ra i rcap) (.slice qa i qcap) rs ls ex 0) := ⟨F, hM, hP⟩
      have HR := Lib.hid hsR
      have HQ := Lib.hid hsQ
      have HL1 := Lib.hid (And.intro hr1 hr2)
      clear hM hP hsR hsQ hr1 hr2 hR hQ hB HL HO
      go_wp2_with fail
      go_loopw [16] (fun v wo => ∃ j : Nat, j ≤ i ∧ v = .int .i64 j ∧ Hid (St2 w wo f (3 * i) (.slice ra i rcap) (.slice qa i qcap) rs ls ex j)) (fun v _ => i - (intOf v).toNat)
      case atStart => exact ⟨0, Nat.zero_le _, rfl, S2.out⟩
      case round =>
        obtain ⟨j, hj, rfl, hB⟩ := hrel
        clear S2
        obtain ⟨wo, rfl⟩ : ∃ wo : World, wo = wr := ⟨_, rfl⟩
        by_cases hlt : j < i
        · obtain ⟨F, hM, hP⟩ := hB.out
          have HM := Lib.hid hM
          have HP := Lib.hid hP
          have HBl := Lib.hid hM.bel
          clear hM hP hB
          obtain ⟨rb, roff, rfl, _⟩ := HR.out.cells (by omega)
          obtain ⟨qb, qoff, rfl, _⟩ := HQ.out.cells (by omega)
          go_wp2_with fail
          go_loopw [17] (fun v wi => ∃ k : Nat, j ≤ k ∧ k ≤ i ∧ v = .int .i64 k ∧ Hid (StM w wi f (3 * i) F (.slice (some ⟨rb, roff, none⟩) i rcap) rs (.slice (some ⟨qb, qoff, none⟩) i qcap) ls ex)) (fun v _ => i - (intOf v).toNat)
          case atStart => exact ⟨j, Nat.le_refl _, hj, rfl, HM.out⟩
          case round =>
            obtain ⟨k, hjk, hk, rfl, hB⟩ := hrel
            clear HM
            by_cases hkl : k < i
            · obtain ⟨r, hr⟩ : ∃ r, rs[k]? = some r := ⟨_, List.getElem?_eq_getElem (by rw [HL1.out.1]; exact hkl)⟩
              obtain ⟨u, hu⟩ : ∃ u, ls[k]? = some u := ⟨_, List.getElem?_eq_getElem (by rw [HL1.out.2]; exact hkl)⟩
              have hrm : r ∈ rs.drop j := by
                refine List.mem_of_getElem? (i := k - j) ?_
                rw [List.getElem?_drop, show j + (k - j) = k by omega, hr]
              have hex := HP.out.cont k r u hr hu (.inr hrm)
              have hrB := HP.out.isB (.inr hrm)
              obtain ⟨c, hc⟩ : ∃ c, mapL F r = c := ⟨_, rfl⟩
              have hcl : c.length ≤ 4096 := by rw [← hc]; exact allL_len _ _
              rw [hc] at hex
              obtain ⟨a6, cap6, rfl⟩ := slice_of_owns (hB.out.rowX hex)
              obtain ⟨cn, hcn⟩ : ∃ cn, c.length = cn := ⟨_, rfl⟩
              rw [hcn] at hcl
              have HA : Hid (∀ ww, StM w ww f (3 * i) F (.slice (some ⟨rb, roff, none⟩) i rcap) rs (.slice (some ⟨qb, qoff, none⟩) i qcap) ls ex → StM w ww f (3 * i) F (.slice (some ⟨rb, roff, none⟩) i rcap) rs (.slice (some ⟨qb, qoff, none⟩) i qcap) ls ex ∧ ww.cell? ⟨rb, roff + k, none⟩ = some (.int .i64 (r : Nat)) ∧ ww.cell? ⟨qb, qoff + k, none⟩ = some (.slice a6 cn cap6)) := fun ww h => ⟨h, h.cellR HL1.out.1 hr, h.cellL HL1.out.2 (by rw [hu, hcn])⟩
              have CAl : Hid (∀ ww, StM w ww f (3 * i) F (.slice (some ⟨rb, roff, none⟩) i rcap) rs (.slice (some ⟨qb, qoff, none⟩) i qcap) ls ex → Calls Try.prog 13 #[.pointer (some ⟨f, 0, none⟩), .int .i64 (r : Nat)] ww fun e w' => ∃ a3 cap3, e = .returned (.slice a3 cn cap3) ∧ Sl5 w' a3 cn c ∧ StM w w' f (3 * i) F (.slice (some ⟨rb, roff, none⟩) i rcap) rs (.slice (some ⟨qb, qoff, none⟩) i qcap) ls ex) := fun ww h => by
                refine (h.all (by omega) hrB).mono fun e w' ⟨v, e1, e2, _, e3⟩ => ?_
                rw [hc, hcn] at e2
                obtain ⟨a3, cap3, rfl, hs, _⟩ := sl5_of_owns e2
                exact ⟨a3, cap3, e1, hs, e3.less fun x hx => List.mem_cons_of_mem _ hx⟩
              have CSm : Hid (∀ a3 cap3 ww, Sl5 ww a3 cn c → StM w ww f (3 * i) F (.slice (some ⟨rb, roff, none⟩) i rcap) rs (.slice (some ⟨qb, qoff, none⟩) i qcap) ls ex → Calls Try.prog 14 #[.slice a3 cn cap3, .slice a6 cn cap6] ww fun e w' => e = .returned (.bool true) ∧ StM w w' f (3 * i) F (.slice (some ⟨rb, roff, none⟩) i rcap) rs (.slice (some ⟨qb, qoff, none⟩) i qcap) ls ex) := fun a3 cap3 ww hs h => by
                have hx := h.rowX hex
                rw [hcn] at hx
                obtain ⟨a', cap', e, hs', _⟩ := sl5_of_owns hx
                simp only [Value.slice.injEq] at e
                obtain ⟨rfl, _, _⟩ := e
                have := same_pairs c c a3 a6 cn cn cap3 cap6 ww hs hs' (by omega) (by omega)
                rw [decide_eq_true rfl] at this
                exact this.mono fun e w' ⟨e1, e2⟩ => ⟨e1, h.calm e2⟩
              clear hr hu hrm hex hrB hc hcn hcl
              go_upto_region 31 with fail
              obtain ⟨_, c0, c1⟩ := HA.out _ hB.out
              have hM0 := hB.out
              have hA1 : ∀ ww : World, StM w ww f (3 * i) F (.slice (some ⟨rb, roff, none⟩) i rcap) rs (.slice (some ⟨qb, qoff, none⟩) i qcap) ls ex → StM w ww.drew f (3 * i) F (.slice (some ⟨rb, roff, none⟩) i rcap) rs (.slice (some ⟨qb, qoff, none⟩) i qcap) ls ex := fun ww h => h.drewN 1
              clear hB
              go_region_held3 (fun w' => StM w w' f (3 * i) F (.slice (some ⟨rb, roff, none⟩) i rcap) rs (.slice (some ⟨qb, qoff, none⟩) i qcap) ls ex ∧ w'.cell? ⟨rb, roff + k, none⟩ = some (.int .i64 (r : Nat)) ∧ w'.cell? ⟨qb, qoff + k, none⟩ = some (.slice a6 cn cap6)) (first | exact hKp | go_keep)
                (first
                  | (go_at_call 13; ((with_reducible refine (CAl.out _ ?_).mono ?_); (go_split_ands; assumption); rintro e w3 ⟨a3, cap3, rfl, hs3, hM3⟩; have R3 := Lib.hid hs3; clear hs3; have hKp := HA.out _ hM3))
                  | (go_at_call 14; ((with_reducible refine (CSm.out _ _ _ R3.out ?_).mono ?_); (go_split_ands; assumption); rintro e w4 ⟨rfl, hM4⟩; have hKp := HA.out _ hM4)))
              have H4 := Lib.hid hM4
              clear hM4 hKp hM3 hM0 hA1 c0 c1
              go_wp2
              go_roundw
              case rel => exact ⟨k + 1, by omega, by omega, by go_num, H4.out⟩
              case measure => simp [intOf]; omega
            · have hki : k = i := by omega
              subst hki
              obtain ⟨r, hr⟩ : ∃ r, rs[j]? = some r := ⟨_, List.getElem?_eq_getElem (by rw [HL1.out.1]; exact hlt)⟩
              have c0 := hB.out.cellR HL1.out.1 hr
              have hdr : rs.drop j = r :: rs.drop (j + 1) := by
                have hjl : j < rs.length := by rw [HL1.out.1]; exact hlt
                rw [List.drop_eq_getElem_cons hjl]
                rw [List.getElem?_eq_getElem hjl] at hr
                simp only [Option.some.injEq] at hr
                rw [hr]
              have hrB := HP.out.isB (r := r) (.inr (by rw [hdr]; exact List.mem_cons_self))
              have CD : Hid (Calls Try.prog 18 #[.pointer (some ⟨f, 0, none⟩), .int .i64 (r : Nat)] wr fun e w' => ∃ a9 n9 cap9, e = .returned (.tuple #[.slice a9 n9 cap9, .int .i64 0]) ∧ St2 w w' f (3 * k) (.slice (some ⟨rb, roff, none⟩) k rcap) (.slice (some ⟨qb, qoff, none⟩) k qcap) rs ls ex (j + 1)) := by
                refine (hB.out.drop (by omega) hrB).mono fun e w' ⟨v, G, ys, e1, e2, ho, e3⟩ => ?_
                obtain ⟨a9, cap9, rfl⟩ := slice_of_owns ho
                have hp := HP.out
                rw [hdr] at hp
                exact ⟨a9, _, cap9, e1, G, e3, hp.drop e2⟩
              clear hr hdr hrB hB hkl
              go_wp2_with (go_at_call 18; ((with_reducible refine CD.out.mono ?_); rintro e w5 ⟨a9, n9, cap9, rfl, hS⟩; have S5 := Lib.hid hS; clear hS))
              go_roundw
              case rel => exact ⟨j + 1, by omega, by go_num, S5.out⟩
              case measure => simp [intOf]; omega
        · have hji : j = i := by omega
          subst hji
          obtain ⟨F, hM, hP⟩ := hB.out
          have hd : rs.drop j = [] := List.drop_eq_nil_of_le (by rw [HL1.out.1]; omega)
          rw [hd] at hP
          have hids := hP.gone hM.ok
          have CNd : Hid (∀ ww, StM w ww f (3 * j) F (.slice ra j rcap) rs (.slice qa j qcap) ls ex → Calls Try.prog 15 #[.pointer (some ⟨f, 0, none⟩)] ww fun e w' => e = .returned (.int .i64 0) ∧ ww = w') := fun ww h => by
            obtain ⟨K, hK⟩ := h.lv
            have := nodes_lv hK
            rw [hids] at this
            exact this
          have CSl : Hid (∀ ww, StM w ww f (3 * j) F (.slice ra j rcap) rs (.slice qa j qcap) ls ex → Calls Try.prog 19 #[.pointer (some ⟨f, 0, none⟩)] ww fun e w' => ∃ a6 cap6, e = .returned (.slice a6 0 cap6) ∧ Below ww.heap.size ww w') := fun ww h => by
            obtain ⟨K, hK⟩ := h.lv
            refine (slots_lv hK (by omega)).mono fun e w' ⟨v, zs, e1, e2, e3, e4⟩ => ?_
            obtain rfl := h.ok.slots_nil hids e2
            obtain ⟨a6, cap6, rfl⟩ := slice_of_owns e3
            exact ⟨a6, cap6, e1, e4⟩
          have HM := Lib.hid hM
          clear hM hP hids hd hB
          go_wp2_with (first
            | (go_at_call 15; ((with_reducible refine (CNd.out _ HM.out).mono ?_); rintro e w7 ⟨rfl, rfl⟩))
            | (go_at_call 19; ((with_reducible refine (CSl.out _ HM.out).mono ?_); rintro e w8 ⟨a6, cap6, rfl, hb⟩; have H8 := Lib.hid (HM.out.bel.trans (hb.mono HM.out.bel.size)); clear hb))
            | (go_at_call 10; ((with_reducible refine (HAl.out _).mono ?_); rintro e w9 ⟨rfl, hb⟩; have H9 := Lib.hid (H8.out.trans (hb.mono H8.out.size)); clear hb)))
          go_ret
          exact ⟨rfl, H9.out⟩
end Go.Proofs.Ytmpbhoijkcanmaa.R
