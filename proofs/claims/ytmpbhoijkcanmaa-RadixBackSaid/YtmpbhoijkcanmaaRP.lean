/- Radix: a way to a node is taken away: the walk. -/
import Derived.Test.YtmpbhoijkcanmaaRO
namespace Go.Proofs.Ytmpbhoijkcanmaa.R
open Go.ChangeShapes Go.WideShapes Go.ChangeAt Go.RowKit Go.Maps Go.Proofs.Ytmpbhoijkcanmaa.G
set_option linter.unusedVariables false
set_option linter.unusedSimpArgs false
set_option linter.unnecessarySimpa false

variable {w w' : World} {p : Pf} {F F2 G : Fo} {pd : Nat → Nat} {ps : Slot → Nat}
theorem lessPost.more {gb n : Nat} {pend : Nat → Nat} {pendS : Slot → Nat} {g : List (Slot × Value)} {e : Ending} (he : e = .returned (.tuple #[])) (h : Inv (decRef F n) (dec1 pend n) pendS 0) (hF : FoAt w' p (decRef F n)) (hm : MapIs Try.prog 31 encS w' gb g) (ho : OwnP (fun b => p.own F b ∨ b = gb) w w') : lessPost p gb F pend pendS n g w e w' :=
  ⟨he, decRef F n, g, decRef_sub F n, h, fun i hi _ => hi, Gone.refl (fun _ => rfl) g, hF, hm, ho⟩
theorem lessPost.done {gb n B : Nat} {pend : Nat → Nat} {pendS : Slot → Nat} {g : List (Slot × Value)} {x : Node} {e : Ending} (he : e = .returned (.tuple #[])) (hz : dec1 pend n n = 0) (h : LesAt w w' p gb B F (dropId (decRef F n) n) x g (dec1 pend n) (remS x pendS 16)) : lessPost p gb F pend pendS n g w e w' := by
  obtain ⟨G, g', h⟩ := h
  refine ⟨he, G, g', ((decRef_sub F n).trans (dropId_sub _ n)).trans h.sub, h.inv.pendEq (fun _ _ => rfl) (fun s => by unfold remS; omega), fun i hi h0 => h.keep i (dropId_mem.2 ⟨hi, fun e => ?_⟩) h0, fun s => h.gone s, h.fo, h.map, h.own⟩
  subst e; omega

set_option maxRecDepth 100000 in
set_option maxHeartbeats 4000000 in
theorem less_step (lev : Nat) (HC : LessC (lev + 1)) : LessC lev := by
  intro p gb F pend pendS n g w hI hn hl hp hlast hrefs hF hm hgb
  have hp60 : n < 2 ^ 60 := by have := (hI.pos n hn).2; omega
  have hRr := hI.refs n hn
  have hR46 := hrefs n hn
  have HI1 := hI.decRef hn hp
  have HA1 := hF.decRef hn
  have hc0 := hF.c0
  have hL := hF.look_node n hp60 hn
  unfold ptrV at hL
  have hN := hF.nd n hn
  have c81 := hN.refs
  have f81 := hN.frozen 81
  have hoB : p.own F (p.blk n) := .inr (.inr (.inr (.inr ⟨n, hn, rfl⟩)))
  have t1 : Turned [p.blk n] w (w.setCell ⟨p.blk n, 81, none⟩ (.int .i64 ((F.nd n).refs - 1 : Nat))) := (Turned.refl [p.blk n] w).setCell (p := ⟨p.blk n, 81, none⟩) (.inl (by simp)) _
  have hgB : gb ≠ p.blk n := fun e => hgb (e ▸ hoB)
  have HM1 := hm.turned t1 (by simpa using hgB)
  have HO1 : OwnP (fun b => p.own F b ∨ b = gb) w (w.setCell ⟨p.blk n, 81, none⟩ (.int .i64 ((F.nd n).refs - 1 : Nat))) := (OwnP.of (Turned.refl [] w)).step t1 (fun b hb => by simp at hb; subst hb; exact .inr (.inl hoB))
  have hblt : p.blk n < w.heap.size := hF.lt hoB
  have hglt : gb < w.heap.size := hm.lt
  obtain ⟨R, hR⟩ : ∃ R, (F.nd n).refs = R := ⟨_, rfl⟩
  have hR1 : 1 ≤ R := by omega
  have hcast : ((R - 1 : Nat) : Int) = (R : Int) - 1 := by omega
  rw [hR] at c81 HA1 HM1 HO1 hR46 t1
  rw [hcast] at HA1 HM1 HO1 t1
  by_cases hR0 : R = 1
  · have hz : dec1 pend n n = 0 := by
      unfold dec1; rw [if_pos rfl]; omega
    have h0 : ((decRef F n).nd n).refs = 0 := by rw [(decRef_nd F n n).2.2.2, if_pos rfl]; omega
    subst hR0
    have HI2 := HI1.dropId (show n ∈ (decRef F n).ids from hn) h0 (.inr rfl)
    obtain ⟨x, hx⟩ : ∃ x, (decRef F n).nd n = x := ⟨_, rfl⟩
    rw [hx] at HI2
    have hnok := HI1.ok n hn
    rw [hx] at hnok
    have hLC : LesC p gb (p.blk n) lev F (dropId (decRef F n) n) x :=
      ⟨(decRef_sub F n).trans (dropId_sub _ n), fun i hi => (HI2.pos i hi).1, fun j hj => by
        rcases hnok.kid j hj with h' | ⟨h1, h2, h3⟩
        · exact .inl h'
        · have h2' : F.lev (x.kids j) = F.lev n + 1 := h2
          exact .inr ⟨dropId_mem.2 ⟨h1, fun e => by rw [e] at h2'; omega⟩, by show F.lev (x.kids j) = _; omega⟩, hnok.bits.1, fun j hj hb => (hnok.ents j hj hb).1, hlast, hrefs, hgb, FoAt.own_drop HA1 hn, hoB⟩
    have HN1 := HA1.nd n hn
    rw [hx] at HN1
    have HS : Hid (∀ wq, MapIs Try.prog 3 encI wq p.m (mdel (nodesL p F) (n : Int)) → Turned [p.m] (w.setCell ⟨p.blk n, 81, none⟩ (.int .i64 ((1 : Nat) - 1))) wq → LesAt w wq p gb (p.blk n) F (dropId (decRef F n) n) x g (remK x (dec1 pend n) 0) (remS x pendS 0)) := fun wq hq tq => by
      have h1 := HA1.dropId n hq tq
      refine ⟨_, g, Sub.refl _, HI2.pendEq (fun i _ => ?_) (fun s => ?_), fun i hi _ => hi, Gone.refl (fun _ => rfl) g, h1, HM1.turned tq ?_, HO1.step tq (fun b hb => by simp at hb; subst hb; exact .inr (.inl (.inr (.inl rfl)))), HN1.turned tq ?_⟩
      · unfold remK
        rw [show hits x.kids 0 i = 0 from rfl, Nat.sub_zero]
      · unfold remS
        rw [show slHits x 0 s = 0 from rfl, Nat.sub_zero]
      · have : gb ≠ p.m := fun e => hgb (e ▸ .inr (.inl rfl))
        simpa using this
      · have := (hF.far n hn).2.1
        simpa using this
    have HMn : MapIs Try.prog 3 encI (w.setCell ⟨p.blk n, 81, none⟩ (.int .i64 ((1 : Nat) - 1))) p.m (nodesL p F) := HA1.nodes
    have hd0 := HA1.c0
    obtain ⟨kk, hkk⟩ := keyI (n : Int) (by unfold I64; omega)
    have HKK := Lib.hid hkk
    have HMn := Lib.hid HMn
    have HLC := Lib.hid hLC
    have HZ := Lib.hid hz
    have Hblt := Lib.hid hblt
    have Hglt := Lib.hid hglt
    have HHC := Lib.hid HC
    have hcv : ((1 : Nat) : Int) = 1 := rfl
    have hcw : ((1 : Nat) : Int) - 1 = 0 := rfl
    rw [hcw] at HMn hd0 HS
    rw [hcv] at c81
    clear hcv hcw
    obtain ⟨B, hB⟩ : ∃ B, p.blk n = B := ⟨_, rfl⟩
    rw [hB] at hL c81 f81 HS HMn HLC Hblt hd0
    have hIx := Lib.hid (indexKids x.kids)
    have hIe := Lib.hid (indexEnts x.ents)
    clear hI hl hp hrefs hF hm hgb hRr hR46 HI1 HA1 hN hoB t1 hgB HM1 HO1 hblt hglt hR hR1 hcast h0 HI2 hnok hLC HN1 hkk hz hx hB HC
    go_enter Try.func45, Try.ntmps45
    go_upto_region 3 with fail
    clear hc0 c81 f81 hL
    generalize w.setCell ⟨B, 81, none⟩ (.int .i64 0) = w1 at *
    go_upto_region 4 with (at_delete; refine wp_del _ rfl _ _ 86 3 rfl keyedI encI_inj Try.underlying86 p.m (nodesL p F) rfl HMn.out (n : Int) rfl HKK.out ?_; intro w2 hm2 ht2; have S2 := Lib.hid (HS.out w2 hm2 ht2); clear hm2 ht2)
    clear HS HMn hd0
    obtain ⟨G0, g0, hS0⟩ := S2.out
    have HRk := Lib.hid hS0.nd.kidsRange
    have HIk := Lib.hid (infoKids x.kids)
    clear hS0
    generalize rowL x.kids = A at *
    go_upto_block 1 with (refine wpList_load_mid (by rfl) 95 _ (by rfl) B 0 (by rfl) A _ HRk.out Try.underlying95 (by rfl) HIk.out ?_)
    go_loopw [38] (fun v wr => ∃ j : Nat, j ≤ 16 ∧ v = .int .i64 j ∧ Hid (LesAt w wr p gb B F (dropId (decRef F n) n) x g (remK x (dec1 pend n) j) (remS x pendS 0))) (fun v _ => 16 - (intOf v).toNat)
    case atStart => exact ⟨0, by omega, rfl, S2.out⟩
    case round =>
      obtain ⟨j, hj, rfl, hK⟩ := hrel
      clear S2 HRk
      by_cases hlt : j < 16
      · have hix := hIx.out j hlt
        obtain ⟨k, hk⟩ : ∃ k, x.kids j = k := ⟨_, rfl⟩
        rw [hk] at hix
        by_cases h0 : k = 0
        · have HK1 : Hid (LesAt w wr p gb B F (dropId (decRef F n) n) x g (remK x (dec1 pend n) (j + 1)) (remS x pendS 0)) := by
            obtain ⟨G, g', h⟩ := hK.out
            exact ⟨G, g', h.skip HLC.out (hk.trans h0)⟩
          subst h0
          clear hK hk
          go_wp2
          go_roundw
          case rel => exact ⟨j + 1, by omega, by go_num, HK1.out⟩
          case measure => simp [intOf]; omega
        · have hkb : ((k : Int) != 0) = true := by simpa using h0
          have CK : Hid (Calls Try.prog 45 #[.pointer (some ⟨p.f, 0, none⟩), .int .i64 (k : Nat), .map (some gb)] wr fun e wq => e = .returned (.tuple #[]) ∧ LesAt w wq p gb B F (dropId (decRef F n) n) x g (remK x (dec1 pend n) (j + 1)) (remS x pendS 0)) := by
            obtain ⟨G, g', h⟩ := hK.out
            have := h.kid HHC.out HLC.out hlt (by rw [hk]; exact h0)
            rw [hk] at this
            exact this
          clear hK hk h0
          go_wp2_with (go_at_call 45; ((with_reducible refine CK.out.mono ?_); rintro e wq ⟨rfl, hs⟩; have HK1 := Lib.hid hs; clear hs))
          go_roundw
          case rel => exact ⟨j + 1, by omega, by go_num, HK1.out⟩
          case measure => simp [intOf]; omega
      · have hje : j = 16 := by omega
        subst hje
        have S0 : Hid (LesAt w wr p gb B F (dropId (decRef F n) n) x g (dec1 pend n) (remS x pendS 0)) := by
          obtain ⟨G, g', h⟩ := hK.out
          exact ⟨G, g', h.pend (fun i _ => by unfold remK; omega) (fun _ => rfl)⟩
        clear hK
        have HRe : Hid (wr.rangeAt B 16 (entL x.ents)) := by
          obtain ⟨G, g', h⟩ := S0.out
          exact h.nd.entsRange
        have HIi := Lib.hid (infoEnts x.ents)
        clear hj hlt HIk hIx
        generalize entL x.ents = E at *
        go_wp2_with (refine wpList_load_mid (by rfl) 96 _ (by rfl) B 16 (by rfl) E _ HRe.out Try.underlying96 (by rfl) HIi.out ?_)
        clear HRe HIi
        go_loopw [52] (fun v ws => ∃ j : Nat, j ≤ 16 ∧ v = .int .i64 j ∧ Hid (LesAt w ws p gb B F (dropId (decRef F n) n) x g (dec1 pend n) (remS x pendS j))) (fun v _ => 16 - (intOf v).toNat)
        case atStart => exact ⟨0, by omega, rfl, S0.out⟩
        case round =>
          obtain ⟨j, hj, rfl, hS⟩ := hrel
          clear S0
          obtain ⟨G, g1, hG⟩ := hS.out
          clear hS
          by_cases hlt : j < 16
          · have hix := hIe.out j hlt
            have c80 := hG.nd.bits
            have c80' : ∀ o, (wr.alloc o).cell? ⟨B, 80, none⟩ = some (.int .u16 x.bits) := fun o => ((Turned.refl [] wr).alloc o).cell c80 (by simp)
            have hu := HLC.out.bits
            have hbo := bit_ofI x.bits j hu
            by_cases hb : x.bits.testBit j = true
            · rw [if_pos hb] at hbo
              have hrel := les_step HLC.out Hblt.out Hglt.out hG hlt hb
              have hkok := HLC.out.ents j hlt hb
              generalize hxe : x.ents j = xe at *
              obtain ⟨⟨se, sc, si⟩, sg⟩ := xe
              simp only at hix hrel
              have HRel := Lib.hid hrel
              obtain ⟨ks, hks⟩ := keyS _ hkok
              have HKS := Lib.hid hks
              clear hG hrel c80 hkok hks
              go_upto_region 14 with fail
              obtain ⟨w6, hw6⟩ : ∃ w6, wr.alloc (.cells #[.int .i64 se, .int .i64 sc, .int .i64 si, .int .i64 sg] 33) = w6 := ⟨_, rfl⟩
              obtain ⟨eb, heb⟩ : ∃ eb, wr.heap.size = eb := ⟨_, rfl⟩
              rw [hw6, heb] at HRel
              rw [hw6, heb]
              obtain ⟨c, w7, n7, w8, l8, g2, r1, r2, r3, r4, hc, k8, k7, k6, rq, hmore, hone⟩ := HRel.out
              unfold VarAt at k8 k7 k6
              simp only at r1 r2 r3 k7 k8 k6 rq
              have K8 := Lib.hid k8
              have K7 := Lib.hid k7
              have K6 := Lib.hid k6
              have HMore := Lib.hid hmore
              have HOne := Lib.hid hone
              clear k7 k8 k6 hix hu hbo hw6 c80' hmore hone HRel
              have hwr : IntKind.i64.wrap ((c : Int) - 1) = (c : Int) - 1 := IntWalk.i64_in _ (by omega)
              have hc1 : (1 : Int) ≤ c := by omega
              go_region_held3 (fun w' => w'.cell? ⟨p.f, 2, none⟩ = some (.map (some p.s)) ∧ w'.cell? ⟨eb, 0, none⟩ = some (.int .i64 se) ∧ w'.cell? ⟨eb, 1, none⟩ = some (.int .i64 sc) ∧ w'.cell? ⟨eb, 2, none⟩ = some (.int .i64 si)) (first | exact K6.out | exact K7.out | exact K8.out | go_keep) (fail)
              all_goals
                clear r1 r2 r3 r4 K6 K7 hwr
                obtain ⟨d2, d3, d4, d5⟩ := K8.out
                go_upto_region 15 with fail
                by_cases h1 : c = 1
                · subst h1
                  have rq0 : ∀ N, (Instr.lookup 88 (.map (some p.s)) (.agg #[.int .i64 se, .int .i64 sc, .int .i64 si]) false).run Try.prog (w8.drewN N) = .ok (.int .i64 0) (w8.drewN N) := rq
                  clear rq
                  go_quiet (fail)
                  have hd2 : (w8.drewN nq).cell? ⟨p.f, 2, none⟩ = some (.map (some p.s)) := d2
                  have hd3 : (w8.drewN nq).cell? ⟨eb, 0, none⟩ = some (.int .i64 se) := d3
                  have hd4 : (w8.drewN nq).cell? ⟨eb, 1, none⟩ = some (.int .i64 sc) := d4
                  have hd5 : (w8.drewN nq).cell? ⟨eb, 2, none⟩ = some (.int .i64 si) := d5
                  have HD := Lib.hid (HOne.out rfl (w8.drewN nq).drew ((Turned.refl [] w8).drewN nq).drew)
                  clear d2 d3 d4 d5 rq0 HMore HOne K8
                  go_upto_region 16 with fail
                  generalize w8.drewN nq = w9 at *
                  go_still_tail 6, (by kernel_rfl)
                  change wpList _ _ _ _ _ w9.drew
                  generalize w9.drew = wd at *
                  clear hd2 hd3 hd4 hd5
                  go_upto_region 17 with (at_delete; refine wp_del _ rfl _ _ 88 31 rfl keyedS encS_inj Try.underlying88 p.s l8 rfl HD.out.1 ⟨se, sc, si⟩ rfl HKS.out ?_; intro wb hmb htb; obtain ⟨hv, hg2, ha⟩ := HD.out.2 wb hmb htb; unfold VarAt at hv; have HV := Lib.hid hv; have HG := Lib.hid hg2; have HA := Lib.hid ha; clear hv hg2 ha hmb htb)
                  obtain ⟨e2, e3, e4, e5⟩ := HV.out
                  simp only at e3 e4 e5
                  clear HD HV
                  go_wp2_with (at_mapUpdate; refine wp_put _ rfl _ _ _ 74 rfl keyedS encS_inj Try.underlying74 gb g2 rfl HG.out ⟨se, sc, si⟩ rfl (.bool true) rfl HKS.out ?_; intro wc hmc htc; have HF := Lib.hid (HA.out wc hmc htc); clear hmc htc)
                  go_roundw
                  case rel => exact ⟨j + 1, by omega, by go_num, HF.out⟩
                  case measure => simp [intOf]; omega
                · have hcb : ((c : Int) - 1 == 0) = false := by simp; omega
                  go_quiet (fail)
                  have HF := Lib.hid (HMore.out h1 nq)
                  clear rq d2 d3 d4 d5 HMore HOne K8
                  go_wp2
                  go_roundw
                  case rel => exact ⟨j + 1, by omega, by go_num, HF.out⟩
                  case measure => simp [intOf]; omega
            · have hbf : x.bits.testBit j = false := by simpa using hb
              rw [if_neg hb] at hbo
              have HFin : Hid (∀ o, LesAt w (wr.alloc o) p gb B F (dropId (decRef F n) n) x g (dec1 pend n) (remS x pendS (j + 1))) := fun o => ⟨G, g1, (hG.skipE HLC.out hbf).calm ((Turned.refl [] wr).alloc o)⟩
              clear hG c80 hb hbf
              go_wp2
              go_roundw
              case rel => exact ⟨j + 1, by omega, by go_num, HFin.out _⟩
              case measure => simp [intOf]; omega
          · have hje : j = 16 := by omega
            subst hje
            go_wp2
            go_end0
            exact lessPost.done rfl HZ.out ⟨G, g1, hG⟩
  · have HI2 := HI1.exc0 (fun _ => by rw [(decRef_nd F n n).2.2.2, if_pos rfl]; omega)
    have HE := Lib.hid (lessPost.more (w := w) rfl HI2 HA1 HM1 HO1)
    have hR2 : 1 < (R : Int) := by omega
    obtain ⟨B, hB⟩ : ∃ B, p.blk n = B := ⟨_, rfl⟩
    rw [hB] at hL c81 f81 HE
    clear hI hl hp hrefs hF hm hgb hRr HI1 HA1 hN hoB t1 hgB HM1 HO1 hblt hglt hR hR1 hcast hR0 HI2 hn hlast
    go_enter Try.func45, Try.ntmps45
    go_wp2
    go_end0
    exact HE.out
theorem less3 (lev : Nat) (h : 2 < lev) : LessC lev := fun p gb F pend pendS n g w hI hn hl _ _ _ _ _ _ => by
  have := hI.lev n hn
  omega
theorem less_fn (lev : Nat) (h : lev ≤ 2) : LessC lev := by
  have h2 := less_step 2 (less3 3 (by omega))
  have h1 := less_step 1 h2
  have h0 := less_step 0 h1
  have : lev = 0 ∨ lev = 1 ∨ lev = 2 := by omega
  rcases this with rfl | rfl | rfl
  · exact h0
  · exact h1
  · exact h2
end Go.Proofs.Ytmpbhoijkcanmaa.R
