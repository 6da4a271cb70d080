/- Maps of pages, and versions of them: lemmas, part 5 of 23. -/
import Derived.Test.YtmpbhoijkcanmaaGreatQ04

/- Radix: Get. -/
namespace Go.Proofs.YtmpbhoijkcanmaaGreat.R
open Go.ChangeShapes Go.WideShapes Go.ChangeAt Go.RowKit Go.Maps Go.Proofs.YtmpbhoijkcanmaaGreat.G
set_option linter.unusedVariables false
set_option linter.unusedSimpArgs false
set_option linter.unnecessarySimpa false

variable {w w' : World} {p p' : Pf} {F G : Fo} {pend : Nat → Nat} {pendS : Slot → Nat}
/-- the way down -/
def pathR (F : Fo) (r pg : Nat) : Nat → Nat
  | 0 => r
  | j + 1 => kidOf F (pathR F r pg j) (partN pg j)
theorem getL_path (F : Fo) (r pg : Nat) : getL 2 F r pg = if pathR F r pg 2 = 0 then none else leafE (F.nd (pathR F r pg 2)) pg := rfl
theorem path_zero (F : Fo) (r pg : Nat) {j : Nat} (hj : j ≤ 2) (h : pathR F r pg j = 0) : getL 2 F r pg = none := by
  rw [getL_path, if_pos]
  have up : ∀ i, pathR F r pg i = 0 → pathR F r pg (i + 1) = 0 := fun i hi => by show kidOf F _ _ = 0; rw [hi]; rfl
  have : j = 0 ∨ j = 1 ∨ j = 2 := by omega
  rcases this with rfl | rfl | rfl
  · exact up 1 (up 0 h)
  · exact up 1 h
  · exact h
theorem path_in {exc : Nat} (h : Inv F pend pendS exc) {r : Nat} (hr : r = 0 ∨ (r ∈ F.ids ∧ F.lev r = 0)) (pg : Nat) : ∀ j, pathR F r pg j = 0 ∨ (pathR F r pg j ∈ F.ids ∧ F.lev (pathR F r pg j) = j)
  | 0 => hr
  | j + 1 => by
    show kidOf F (pathR F r pg j) (partN pg j) = 0 ∨ _
    have e : pathR F r pg (j + 1) = kidOf F (pathR F r pg j) (partN pg j) := rfl
    rw [e]
    unfold kidOf
    rcases path_in h hr pg j with h0 | ⟨h1, h2⟩
    · rw [if_pos h0]; exact .inl rfl
    · rw [if_neg (by have := (h.pos _ h1).1; omega)]
      rcases (h.ok _ h1).kid _ (partN_lt pg j) with h' | ⟨a, b, c⟩
      · exact .inl h'
      · exact .inr ⟨a, by omega⟩
def encE' (o : Option Ent) : Value := encE (o.getD zeroE)
/-- what Get answers -/
def getPost (o : Option Ent) (w : World) (e : Ending) (w' : World) : Prop := e = .returned (.tuple #[.agg #[.int .i64 (o.getD zeroE).s.e, .int .i64 (o.getD zeroE).s.c, .int .i64 (o.getD zeroE).s.i, .int .i64 (o.getD zeroE).g], .bool o.isSome]) ∧ Below w.heap.size w w'
theorem ent_new (w : World) (t : TypeId) (x : Ent) : EntAt (w.alloc (.cells #[.int .i64 x.s.e, .int .i64 x.s.c, .int .i64 x.s.i, .int .i64 x.g] t)) w.heap.size x := by
  have hnew := fun q u hq => cells_new w [.int .i64 x.s.e, .int .i64 x.s.c, .int .i64 x.s.i, .int .i64 x.g] t q u hq
  have n0 := hnew 0 _ rfl
  have n1 := hnew 1 _ rfl
  have n2 := hnew 2 _ rfl
  have n3 := hnew 3 _ rfl
  rw [Addr.add_mid, Nat.zero_add] at n0 n1 n2 n3
  exact ⟨n0, n1, n2, n3⟩
theorem leaf_getD {x : Node} {l : Nat} (h : NodeOk F l x) (pg : Nat) : (leafE x pg).getD zeroE = x.ents (partN pg 2) ∧ (leafE x pg).isSome = x.bits.testBit (partN pg 2) := by
  unfold leafE
  cases hb : x.bits.testBit (partN pg 2)
  · simp [h.zero _ (partN_lt _ _) hb]
  · simp

def putE (w : World) (b : Nat) (y : Ent) : World := (((w.setCell ⟨b, 0, none⟩ (.int .i64 y.s.e)).setCell ⟨b, 1, none⟩ (.int .i64 y.s.c)).setCell ⟨b, 2, none⟩ (.int .i64 y.s.i)).setCell ⟨b, 3, none⟩ (.int .i64 y.g)
theorem EntAt.put {b : Nat} {x : Ent} (h : EntAt w b x) (y : Ent) : EntAt (putE w b y) b y ∧ Turned [b] w (putE w b y) := by
  have hne : ∀ i j : Nat, i ≠ j → (⟨b, i, none⟩ : Addr) ≠ ⟨b, j, none⟩ := fun i j h e => h (by simpa using e)
  have so : ∀ (w : World) (i j : Nat) (v u : Value), i ≠ j → w.cell? ⟨b, j, none⟩ = some u → (w.setCell ⟨b, i, none⟩ v).cell? ⟨b, j, none⟩ = some u := fun w i j v u hij hu => (World.cell?_setCell_other _ _ _ _ (hne i j hij)).trans hu
  have ss : ∀ (w : World) (i : Nat) (v u : Value), w.cell? ⟨b, i, none⟩ = some u → (w.setCell ⟨b, i, none⟩ v).cell? ⟨b, i, none⟩ = some v := fun w i v u hu => World.cell?_setCell_same (w := w) _ _ hu
  unfold putE
  refine ⟨⟨?_, ?_, ?_, ?_⟩, ((((Turned.refl [b] w).setCell (p := ⟨b, 0, none⟩) (.inl (by simp)) _).setCell (p := ⟨b, 1, none⟩) (.inl (by simp)) _).setCell (p := ⟨b, 2, none⟩) (.inl (by simp)) _).setCell (p := ⟨b, 3, none⟩) (.inl (by simp)) _⟩
  · exact so _ 3 0 _ _ (by omega) (so _ 2 0 _ _ (by omega) (so _ 1 0 _ _ (by omega) (ss _ 0 _ _ h.c0)))
  · exact so _ 3 1 _ _ (by omega) (so _ 2 1 _ _ (by omega) (ss _ 1 _ _ (so _ 0 1 _ _ (by omega) h.c1)))
  · exact so _ 3 2 _ _ (by omega) (ss _ 2 _ _ (so _ 1 2 _ _ (by omega) (so _ 0 2 _ _ (by omega) h.c2)))
  · exact ss _ 3 _ _ (so _ 2 3 _ _ (by omega) (so _ 1 3 _ _ (by omega) (so _ 0 3 _ _ (by omega) h.c3)))
theorem get_none {o : Option Ent} (ho : o = none) (hb : Below w.heap.size w w') : getPost o w (.returned (.tuple #[.agg #[.int .i64 0, .int .i64 0, .int .i64 0, .int .i64 0], .bool false])) w' := by
  subst ho
  exact ⟨rfl, hb⟩
set_option maxRecDepth 100000 in
set_option maxHeartbeats 4000000 in
theorem get_in {L : Nat} (h : Ok F L) (hL : L ≤ 2 ^ 38) {r pg : Nat} (hr : isB F (r : Int) = true) (hpg : pg < 4096) (w : World) (hF : FoAt w p F) :
    Calls Tryz.prog 33 #[.pointer (some ⟨p.f, 0, none⟩), .int .i64 (r : Nat), .int .i64 (pg : Nat)] w (getPost (getL 2 F r pg) w) := by
  have hr' := h.inv.root hr
  have hpath := path_in h.inv hr' pg
  have t1 := (Turned.refl [] w).alloc (.cells #[.int .i64 0, .int .i64 0, .int .i64 0, .int .i64 0] 47)
  have hF1 := hF.calm t1
  have hbound : ∀ i, i ∈ F.ids → i < 2 ^ 60 := fun i hi => by have := (h.inv.pos i hi).2; have := h.last; omega
  have hlt : r < 2 ^ 60 := by
    rcases hr' with h0 | ⟨h1, _⟩
    · omega
    · exact hbound r h1
  have hE1 := ent_new w 47 zeroE
  have HB : Hid (Below w.heap.size w (w.alloc (.cells #[.int .i64 0, .int .i64 0, .int .i64 0, .int .i64 0] 47))) := t1.below
  have CN := Lib.hid (none_fn _ hF1)
  have CI := Lib.hid (is_fn (r : Int) (by unfold I64; omega) _ hF1)
  rw [hr] at CI
  have CG : Hid (∀ w, Calls Tryz.prog 51 #[.int .i64 (pg : Nat)] w fun e w' => e = .returned (.bool true) ∧ w = w') := fun w => by
    have := page_fn (pg : Int) w
    rwa [show pageB (pg : Int) = true by unfold pageB; simp; omega] at this
  have CP : Hid (∀ j, j ≤ 2 → ∀ w, Calls Tryz.prog 52 #[.int .i64 (pg : Nat), .int .i64 (j : Nat)] w fun e w' => e = .returned (.int .i64 (partN pg j : Nat)) ∧ w' = w) := fun j hj w => (part_fn pg j hpg hj w).mono fun e w' ⟨a, b⟩ => ⟨a, b.symm⟩
  have HIn : Hid (∀ w2, FoAt w2 p F → ∀ j, j ≤ 2 → pathR F r pg j ≠ 0 → w2.cell? ⟨p.f, 0, none⟩ = some (.map (some p.m)) ∧ (Instr.lookup 99 (.map (some p.m)) (.int .i64 (pathR F r pg j : Nat)) false).run Tryz.prog w2 = .ok (.pointer (some ⟨p.blk (pathR F r pg j), 0, none⟩)) w2 ∧ w2.cell? ⟨p.blk (pathR F r pg j), partN pg j, none⟩ = some (.int .i64 (pathR F r pg (j + 1) : Nat)) ∧ NodeAt w2 (p.blk (pathR F r pg j)) (F.nd (pathR F r pg j)) ∧ p.blk (pathR F r pg j) ≠ w.heap.size) := fun w2 hF2 j hj h0 => by
    have hi := ((hpath j).resolve_left h0).1
    have := (hF2.nd _ hi).kid (partN pg j) (partN_lt _ _)
    have e : (F.nd (pathR F r pg j)).kids (partN pg j) = pathR F r pg (j + 1) := by show _ = kidOf F _ _; unfold kidOf; rw [if_neg h0]
    rw [e] at this
    exact ⟨hF2.c0, hF2.look_node _ (hbound _ hi) hi, this, hF2.nd _ hi, by have := hF.lt (.inr (.inr (.inr (.inr ⟨_, hi, rfl⟩)))); omega⟩
  have HZ : Hid (∀ j, j ≤ 2 → pathR F r pg j = 0 → getL 2 F r pg = none) := fun j hj => path_zero F r pg hj
  have HF1 := Lib.hid hF1
  have HE1 := Lib.hid hE1
  have HLf : Hid (pathR F r pg 2 ≠ 0 → getL 2 F r pg = leafE (F.nd (pathR F r pg 2)) pg ∧ NodeOk F 2 (F.nd (pathR F r pg 2))) := fun h0 => ⟨by rw [getL_path, if_neg h0], by
    have hi := (hpath 2).resolve_left h0
    have := h.inv.ok _ hi.1
    rw [hi.2] at this
    exact this⟩
  have hp0 : pathR F r pg 0 = r := rfl
  have HP0 := Lib.hid hp0
  clear h hL hr hF hr' hpath t1 hF1 hbound hE1 hp0
  go_enter Tryz.func33, Tryz.ntmps33
  go_upto_block 1 with (first
    | (go_at_call 47; ((with_reducible refine CN.out.mono ?_); rintro e ww ⟨rfl, rfl⟩))
    | (go_at_call 50; ((with_reducible refine CI.out.mono ?_); rintro e ww ⟨rfl, rfl⟩))
    | (go_at_call 51; ((with_reducible refine (CG.out _).mono ?_); rintro e ww ⟨rfl, rfl⟩)))
  obtain ⟨w1, hw1⟩ : ∃ w1, w.alloc (.cells #[.int .i64 0, .int .i64 0, .int .i64 0, .int .i64 0] 47) = w1 := ⟨_, rfl⟩
  have hE1 : EntAt w1 w.heap.size zeroE := hw1 ▸ HE1.out
  rw [hw1] at HB HF1
  rw [hw1]
  clear HE1 CN CI CG
  have hfz : ∀ j, w1.frozen? ⟨w.heap.size, j, none⟩ = false := fun j => by
    rw [← hw1]
    have := (MapKept.heap_alloc w (.cells #[.int .i64 0, .int .i64 0, .int .i64 0, .int .i64 0] 47)).1
    unfold World.frozen?
    simp only []
    rw [this]
    rfl
  have HE1 := Lib.hid hE1
  have HFz := Lib.hid hfz
  have hBe : ∃ B, w.heap.size = B := ⟨_, rfl⟩
  obtain ⟨B, hBe⟩ := hBe
  have HBe := Lib.hid hBe
  rw [hBe] at HE1 HFz HB
  rw [hBe]
  clear hw1 hE1 hfz hBe
  go_loopw [1, 25] (fun r' v wr => ∃ j N : Nat, j ≤ 2 ∧ v = .int .i64 j ∧ r' = .int .i64 (pathR F r pg j : Nat) ∧ wr = w1.drewN N) (fun _ v _ => 2 - (intOf v).toNat)
  case atStart => exact ⟨0, 0, by omega, rfl, rfl, rfl⟩
  case round =>
    obtain ⟨j, N, hj, rfl, rfl, hwr⟩ := hrel
    have HWr := Lib.hid hwr
    have HFr : Hid (FoAt wr p F) := by
      rw [hwr]
      exact HF1.out.calm ((Turned.refl [] w1).drewN N)
    have HEr : Hid (EntAt wr B zeroE) := by
      rw [hwr]
      exact HE1.out.turned ((Turned.refl [] w1).drewN N) (by simp)
    have HBr : Hid (Below B w wr) := by
      rw [hwr]
      have hb := HB.out
      rw [← HBe.out] at hb ⊢
      exact Turned.below_of hb ((Turned.refl [] w1).drewN N) (by simp)
    have HFzr : Hid (∀ j, wr.frozen? ⟨B, j, none⟩ = false) := by
      rw [hwr]
      exact HFz.out
    clear hwr
    obtain ⟨k, hk⟩ : ∃ k, pathR F r pg j = k := ⟨_, rfl⟩
    have HK := Lib.hid hk
    rw [hk]
    clear hk
    by_cases h0 : k = 0
    · have hg : Hid (getL 2 F r pg = none) := HZ.out j hj (HK.out.trans h0)
      have hE := HEr.out
      have c0 := hE.c0
      have c1 := hE.c1
      have c2 := hE.c2
      have c3 := hE.c3
      obtain ⟨hP, hT⟩ := hE.put zeroE
      have g0 := hP.c0
      have g1 := hP.c1
      have g2 := hP.c2
      have g3 := hP.c3
      unfold putE at g0 g1 g2 g3 hT
      simp only [zeroE] at c0 c1 c2 c3 g0 g1 g2 g3 hT
      have HBf : Hid (Below w.heap.size w ((((wr.setCell ⟨B, 0, none⟩ (.int .i64 0)).setCell ⟨B, 1, none⟩ (.int .i64 0)).setCell ⟨B, 2, none⟩ (.int .i64 0)).setCell ⟨B, 3, none⟩ (.int .i64 0))) := by
        have hb := HBr.out
        rw [← HBe.out] at hb ⊢
        exact Turned.below_of hb (HBe.out.symm ▸ hT) (fun i hi => by simp at hi; omega)
      have f0 := HFzr.out 0
      have f1 := HFzr.out 1
      have f2 := HFzr.out 2
      have f3 := HFzr.out 3
      clear hE hP hT
      subst h0
      by_cases hlt : j < 2
      · go_wp2
        refine bodyPost_ret (v := .tuple #[.agg #[.int .i64 0, .int .i64 0, .int .i64 0, .int .i64 0], .bool false]) (by simp [results, Tryz.results33, go_sem, g0, g1, g2, g3]) rfl (get_none hg.out HBf.out)
      · go_wp2
        refine bodyPost_ret (v := .tuple #[.agg #[.int .i64 0, .int .i64 0, .int .i64 0, .int .i64 0], .bool false]) (by simp [results, Tryz.results33, go_sem, g0, g1, g2, g3]) rfl (get_none hg.out HBf.out)
    · have hkb : ((k : Int) == 0) = false := by simpa using h0
      have HKn : Hid (pathR F r pg j ≠ 0) := by
        show pathR F r pg j ≠ 0
        rw [HK.out]; exact h0
      by_cases hlt : j < 2
      · obtain ⟨i0, _, i2, _⟩ := HIn.out wr HFr.out j hj HKn.out
        have i1 : ∀ nn, (Instr.lookup 99 (.map (some p.m)) (.int .i64 (k : Nat)) false).run Tryz.prog (wr.drewN nn) = .ok (.pointer (some ⟨p.blk k, 0, none⟩)) (wr.drewN nn) := fun nn => by
          have := (HIn.out (wr.drewN nn) (HFr.out.calm ((Turned.refl [] wr).drewN nn)) j hj HKn.out).2.1
          rw [HK.out] at this
          exact this
        rw [HK.out] at i2
        obtain ⟨i, hi⟩ : ∃ i, partN pg j = i := ⟨_, rfl⟩
        have hi0 : (0 : Int) ≤ (i : Int) := by omega
        have hi1 : (i : Int) < 16 := by have := partN_lt pg j; omega
        have HC := Lib.hid (CP.out j hj)
        rw [hi] at i2 HC
        clear hi h0
        obtain ⟨k', hk'⟩ : ∃ k', pathR F r pg (j + 1) = k' := ⟨_, rfl⟩
        have HK' := Lib.hid hk'
        rw [hk'] at i2
        clear hk'
        go_upto_region 7 with fail
        go_quiet ((go_at_call 52; exact Calls.quiet_of_same (HC.out _)))
        go_wp2
        go_roundw
        case rel => exact ⟨j + 1, N + nq, by omega, by go_num, by rw [HK'.out], by rw [HWr.out]; simp⟩
        case measure => simp [intOf]; omega
      · have hj2 : j = 2 := by omega
        subst hj2
        obtain ⟨i0, _, _, iN, iNe⟩ := HIn.out wr HFr.out 2 hj HKn.out
        have i1 : ∀ nn, (Instr.lookup 99 (.map (some p.m)) (.int .i64 (k : Nat)) false).run Tryz.prog (wr.drewN nn) = .ok (.pointer (some ⟨p.blk k, 0, none⟩)) (wr.drewN nn) := fun nn => by
          have := (HIn.out (wr.drewN nn) (HFr.out.calm ((Turned.refl [] wr).drewN nn)) 2 hj HKn.out).2.1
          rw [HK.out] at this
          exact this
        rw [HK.out] at iN
        obtain ⟨hg1, hok⟩ := HLf.out HKn.out
        rw [HK.out] at hg1 hok
        obtain ⟨hg2, hg3⟩ := leaf_getD hok pg
        rw [← hg1] at hg2 hg3
        obtain ⟨i, hi⟩ : ∃ i, partN pg 2 = i := ⟨_, rfl⟩
        have hi16 := partN_lt pg 2
        have HC : Hid (∀ w, Calls Tryz.prog 52 #[.int .i64 (pg : Nat), .int .i64 2] w fun e w' => e = .returned (.int .i64 (i : Nat)) ∧ w' = w) := fun w => by
          have := CP.out 2 (by omega) w
          rw [hi] at this
          exact this
        rw [hi] at hg2 hg3 hi16
        have hi0 : (0 : Int) ≤ (i : Int) := by omega
        have hi1 : (i : Int) < 16 := by omega
        have k0 := iN.ent i 0 hi16 (by omega)
        have k1 := iN.ent i 1 hi16 (by omega)
        have k2 := iN.ent i 2 hi16 (by omega)
        have k3 := iN.ent i 3 hi16 (by omega)
        have c80 := iN.bits
        have hbo := bit_ofI (F.nd k).bits i hok.bits.1
        simp only [Nat.add_zero] at k0
        obtain ⟨y, hy⟩ : ∃ y, (F.nd k).ents i = y := ⟨_, rfl⟩
        rw [hy] at k0 k1 k2 k3 hg2
        obtain ⟨o, ho⟩ : ∃ o, getL 2 F r pg = o := ⟨_, rfl⟩
        rw [ho] at hg2 hg3
        have HG : Hid (getL 2 F r pg = o ∧ o.getD zeroE = y ∧ o.isSome = (F.nd k).bits.testBit i) := ⟨ho, hg2, hg3⟩
        generalize (F.nd k).bits = u at *
        obtain ⟨⟨ye, yc, yi⟩, yg⟩ := y
        clear hi h0 hg1 hok hg2 hg3 ho iN hi16
        rw [HK.out, HBe.out] at iNe
        have hne : p.blk k ≠ B := iNe
        have hcases : (u.testBit i = true ∧ bits BinOp.and IntKind.u16 ((u : Int) / 2 ^ i) 1 = 1) ∨ (u.testBit i = false ∧ bits BinOp.and IntKind.u16 ((u : Int) / 2 ^ i) 1 = 0) := by
          cases hb : u.testBit i
          · right; rw [hb] at hbo; exact ⟨rfl, hbo⟩
          · left; rw [hb] at hbo; exact ⟨rfl, hbo⟩
        clear hbo iNe hy
        go_upto_region 11 with fail
        go_quiet ((go_at_call 52; exact Calls.quiet_of_same (HC.out _)))
        go_upto_region 12 with fail
        have q0 : (wr.drewN nq).cell? ⟨p.blk k, 16 + i * 4, none⟩ = some (.int .i64 ye) := k0
        have q1 : (wr.drewN nq).cell? ⟨p.blk k, 16 + i * 4 + 1, none⟩ = some (.int .i64 yc) := k1
        have q2 : (wr.drewN nq).cell? ⟨p.blk k, 16 + i * 4 + 2, none⟩ = some (.int .i64 yi) := k2
        have q3 : (wr.drewN nq).cell? ⟨p.blk k, 16 + i * 4 + 3, none⟩ = some (.int .i64 yg) := k3
        have q8 : (wr.drewN nq).cell? ⟨p.blk k, 80, none⟩ = some (.int .u16 u) := c80
        have hE0 : EntAt (wr.drewN nq) B zeroE := HEr.out.turned ((Turned.refl [] wr).drewN nq) (by simp)
        have hf : ∀ j, (wr.drewN nq).frozen? ⟨B, j, none⟩ = false := HFzr.out
        have HBq : Hid (Below B w (wr.drewN nq)) := by
          have hb := HBr.out
          rw [← HBe.out] at hb ⊢
          exact Turned.below_of hb ((Turned.refl [] wr).drewN nq) (by simp)
        generalize wr.drewN nq = wq at *
        have c0 := hE0.c0
        have c1 := hE0.c1
        have c2 := hE0.c2
        have c3 := hE0.c3
        have f0 := hf 0
        have f1 := hf 1
        have f2 := hf 2
        have f3 := hf 3
        obtain ⟨hP0, hT0⟩ := hE0.put ⟨⟨ye, yc, yi⟩, yg⟩
        have hT := hT0.drew
        have hP := hP0.turned (Turned.refl [] _).drew (by simp)
        have g0 := hP.c0
        have g1 := hP.c1
        have g2 := hP.c2
        have g3 := hP.c3
        have HBf : Hid (Below B w (putE wq B ⟨⟨ye, yc, yi⟩, yg⟩).drew) := by
          have hb := HBq.out
          rw [← HBe.out] at hb ⊢
          exact Turned.below_of hb (HBe.out.symm ▸ hT) (fun i hi => by simp at hi; omega)
        have hK1 := And.intro (hT.cell q0 (by simpa using hne)) (And.intro (hT.cell q1 (by simpa using hne)) (And.intro (hT.cell q2 (by simpa using hne)) (And.intro (hT.cell q3 (by simpa using hne)) (hT.cell q8 (by simpa using hne)))))
        unfold putE at g0 g1 g2 g3 HBf hK1
        simp only [zeroE] at c0 c1 c2 c3
        simp only at hK1
        have K0 : Hid (wq.drew.cell? ⟨p.blk k, 16 + i * 4, none⟩ = some (.int .i64 ye) ∧ wq.drew.cell? ⟨p.blk k, 16 + i * 4 + 1, none⟩ = some (.int .i64 yc) ∧ wq.drew.cell? ⟨p.blk k, 16 + i * 4 + 2, none⟩ = some (.int .i64 yi) ∧ wq.drew.cell? ⟨p.blk k, 16 + i * 4 + 3, none⟩ = some (.int .i64 yg) ∧ wq.drew.cell? ⟨p.blk k, 80, none⟩ = some (.int .u16 u)) := ⟨q0, q1, q2, q3, q8⟩
        have K1 := Lib.hid hK1
        have HFin : Hid (∀ b, u.testBit i = b → getPost (getL 2 F r pg) w (.returned (.tuple #[.agg #[.int .i64 ye, .int .i64 yc, .int .i64 yi, .int .i64 yg], .bool b])) ((((wq.setCell ⟨B, 0, none⟩ (.int .i64 ye)).setCell ⟨B, 1, none⟩ (.int .i64 yc)).setCell ⟨B, 2, none⟩ (.int .i64 yi)).setCell ⟨B, 3, none⟩ (.int .i64 yg)).drew) := fun b hb => by
          obtain ⟨a1, a2, a3⟩ := HG.out
          refine ⟨?_, by rw [HBe.out]; exact HBf.out⟩
          rw [a1, a2, a3, hb]
        have HGs := Lib.hid (And.intro g0 (And.intro g1 (And.intro g2 g3)))
        clear hE0 hf hP hT hP0 hT0 k0 k1 k2 k3 c80 i0 i1 hne hK1 q0 q1 q2 q3 q8 g0 g1 g2 g3
        rcases hcases with ⟨hub, hbo⟩ | ⟨hub, hbo⟩
        all_goals
          have HU := Lib.hid hub
          clear hub
          go_region_held3 (fun w' => w'.cell? ⟨p.blk k, 16 + i * 4, none⟩ = some (.int .i64 ye) ∧ w'.cell? ⟨p.blk k, 16 + i * 4 + 1, none⟩ = some (.int .i64 yc) ∧ w'.cell? ⟨p.blk k, 16 + i * 4 + 2, none⟩ = some (.int .i64 yi) ∧ w'.cell? ⟨p.blk k, 16 + i * 4 + 3, none⟩ = some (.int .i64 yg) ∧ w'.cell? ⟨p.blk k, 80, none⟩ = some (.int .u16 u)) (first | with_reducible exact K0.out | with_reducible exact K1.out | go_keep) (fail)
        all_goals
          obtain ⟨g0, g1, g2, g3⟩ := HGs.out
          go_wp2
        · refine bodyPost_ret (v := .tuple #[.agg #[.int .i64 ye, .int .i64 yc, .int .i64 yi, .int .i64 yg], .bool true]) (by simp [results, Tryz.results33, go_sem, g0, g1, g2, g3]) rfl (HFin.out true HU.out)
        · refine bodyPost_ret (v := .tuple #[.agg #[.int .i64 ye, .int .i64 yc, .int .i64 yi, .int .i64 yg], .bool false]) (by simp [results, Tryz.results33, go_sem, g0, g1, g2, g3]) rfl (HFin.out false HU.out)
end Go.Proofs.YtmpbhoijkcanmaaGreat.R

/- Radix: Get where nothing is; Clear, Hold, Nodes. -/
namespace Go.Proofs.YtmpbhoijkcanmaaGreat.R
open Go.ChangeShapes Go.WideShapes Go.ChangeAt Go.RowKit Go.Maps Go.Proofs.YtmpbhoijkcanmaaGreat.G
set_option linter.unusedVariables false
set_option linter.unusedSimpArgs false
set_option linter.unnecessarySimpa false

variable {w w' : World} {p p' : Pf} {F G : Fo}
set_option maxRecDepth 100000 in
set_option maxHeartbeats 1000000 in
theorem get_out {r : Int} (hr64 : I64 r) (q : Int) (hq : isB F r = false ∨ pageB q = false) (w : World) (hF : FoAt w p F) :
    Calls Tryz.prog 33 #[.pointer (some ⟨p.f, 0, none⟩), .int .i64 r, .int .i64 q] w (getPost none w) := by
  have t1 := (Turned.refl [] w).alloc (.cells #[.int .i64 0, .int .i64 0, .int .i64 0, .int .i64 0] 47)
  have hF1 := hF.calm t1
  have hE := ent_new w 47 zeroE
  have c0 := hE.c0
  have c1 := hE.c1
  have c2 := hE.c2
  have c3 := hE.c3
  obtain ⟨hP, hT⟩ := hE.put zeroE
  have g0 := hP.c0
  have g1 := hP.c1
  have g2 := hP.c2
  have g3 := hP.c3
  unfold putE at g0 g1 g2 g3 hT
  simp only [zeroE] at c0 c1 c2 c3 g0 g1 g2 g3 hT
  have HB : Hid (Below w.heap.size w (w.alloc (.cells #[.int .i64 0, .int .i64 0, .int .i64 0, .int .i64 0] 47))) := t1.below
  have CN := Lib.hid (none_fn _ hF1)
  have CI := Lib.hid (is_fn r hr64 _ hF1)
  have CG : Hid (∀ w, Calls Tryz.prog 51 #[.int .i64 q] w fun e w' => e = .returned (.bool (pageB q)) ∧ w = w') := fun w => page_fn q w
  clear hF hF1 t1 hE hP hT g0 g1 g2 g3 c0 c1 c2 c3
  have hfin : Hid (getPost none w (.returned (.tuple #[.agg #[.int .i64 0, .int .i64 0, .int .i64 0, .int .i64 0], .bool false])) (w.alloc (.cells #[.int .i64 0, .int .i64 0, .int .i64 0, .int .i64 0] 47))) := ⟨rfl, HB.out⟩
  have hn := ent_new w 47 zeroE
  have g0 := hn.c0
  have g1 := hn.c1
  have g2 := hn.c2
  have g3 := hn.c3
  simp only [zeroE] at g0 g1 g2 g3
  clear hn
  cases hb : isB F r
  · rw [hb] at CI
    clear hq hb hr64
    go_enter Tryz.func33, Tryz.ntmps33
    go_wp2_with (first
      | (go_at_call 47; ((with_reducible refine CN.out.mono ?_); rintro e ww ⟨rfl, rfl⟩))
      | (go_at_call 50; ((with_reducible refine CI.out.mono ?_); rintro e ww ⟨rfl, rfl⟩)))
    refine bodyPost_ret (v := .tuple #[.agg #[.int .i64 0, .int .i64 0, .int .i64 0, .int .i64 0], .bool false]) (by simp [results, Tryz.results33, go_sem, g0, g1, g2, g3]) rfl hfin.out
  · have hp := hq.resolve_left (by rw [hb]; simp)
    rw [hb] at CI
    rw [hp] at CG
    clear hq hb hp hr64
    go_enter Tryz.func33, Tryz.ntmps33
    go_wp2_with (first
      | (go_at_call 47; ((with_reducible refine CN.out.mono ?_); rintro e ww ⟨rfl, rfl⟩))
      | (go_at_call 50; ((with_reducible refine CI.out.mono ?_); rintro e ww ⟨rfl, rfl⟩))
      | (go_at_call 51; ((with_reducible refine (CG.out _).mono ?_); rintro e ww ⟨rfl, rfl⟩)))
    refine bodyPost_ret (v := .tuple #[.agg #[.int .i64 0, .int .i64 0, .int .i64 0, .int .i64 0], .bool false]) (by simp [results, Tryz.results33, go_sem, g0, g1, g2, g3]) rfl hfin.out

/-- a page is cleared -/
def clearF (F : Fo) (r pg : Nat) : Fo × Nat := if (getL 2 F r pg).isSome then setF F r pg .clear else (madeF F r, r)
set_option maxRecDepth 100000 in
set_option maxHeartbeats 1000000 in
theorem clear_fn {L : Nat} (h : Ok F L) (hL : L ≤ 2 ^ 38) {r pg : Nat} (hr : isB F (r : Int) = true) (hpg : pg < 4096) (w : World) (hF : FoAt w p F) :
    Calls Tryz.prog 36 #[.pointer (some ⟨p.f, 0, none⟩), .int .i64 (r : Nat), .int .i64 (pg : Nat)] w (ansPost p F (clearF F r pg) w) := by
  have hr' := h.inv.root hr
  have hlt : r < 2 ^ 60 := by
    rcases hr' with h0 | ⟨h1, _⟩
    · omega
    · have := (h.inv.pos _ h1).2; have := h.last; omega
  have CN := Lib.hid (none_fn _ hF)
  have CI := Lib.hid (is_fn (r : Int) (by unfold I64; omega) _ hF)
  rw [hr] at CI
  have CP : Hid (∀ w, Calls Tryz.prog 51 #[.int .i64 (pg : Nat)] w fun e w' => e = .returned (.bool true) ∧ w = w') := fun w => by
    have := page_fn (pg : Int) w
    rwa [show pageB (pg : Int) = true by unfold pageB; simp; omega] at this
  have CG := Lib.hid (get_in h hL hr hpg w hF)
  obtain ⟨o, ho⟩ : ∃ o, getL 2 F r pg = o := ⟨_, rfl⟩
  rw [ho] at CG
  unfold clearF
  rw [ho]
  have hs := h.small hL
  have hzero : (Chg.clear).ok := trivial
  have HM : Hid (∀ w2, Below w.heap.size w w2 → ∀ o : Obj, Calls Tryz.prog 53 #[.pointer (some ⟨p.f, 0, none⟩), .int .i64 (r : Nat)] (w2.alloc o) fun e w3 => e = .returned (.int .i64 (r : Nat)) ∧ (∃ p', FoAt w3 p' (madeF F r) ∧ Moved p p' F (madeF F r) w) ∧ FoOwn p F w w3) := fun w2 hb o => by
    have t := (Turned.of_below hb).alloc o
    refine (made_fn (p := p) r (hr'.imp id (fun h => h.1)) hlt (by have := h.held r; omega) (fun hm => by have := h.inv.refs_le hs r hm; omega) _ (hF.calm t)).mono fun e w3 ⟨e1, e2, e3⟩ => ⟨e1, ⟨p, e2, ⟨rfl, rfl, rfl, rfl, fun _ _ => rfl, fun i hi => .inl (by rw [madeF_ids] at hi; exact hi)⟩⟩, (FoOwn.of t).trans e3 (Moved.refl p F w)⟩
  have HA : Hid (∀ w2, Below w.heap.size w w2 → ∀ o : Obj, Calls Tryz.prog 54 #[.pointer (some ⟨p.f, 0, none⟩), .int .i64 (r : Nat), .int .i64 (pg : Nat), .int .i64 0, .func (.func 55) #[] #[]] (w2.alloc o) fun e w3 => e = .returned (.int .i64 ((setF F r pg .clear).2 : Nat)) ∧
      Calls Tryz.prog 53 #[.pointer (some ⟨p.f, 0, none⟩), .int .i64 ((setF F r pg .clear).2 : Nat)] w3 fun e w4 => e = .returned (.int .i64 ((setF F r pg .clear).2 : Nat)) ∧ (∃ p', FoAt w4 p' (setF F r pg .clear).1 ∧ Moved p p' F (setF F r pg .clear).1 w) ∧ FoOwn p F w w4) := fun w2 hb o => by
    have t := (Turned.of_below hb).alloc o
    refine (set_step h hL hr' hpg .clear hzero (w2.alloc o) (hF.calm t) trivial).mono fun e w3 ⟨e1, e2⟩ => ⟨e1, e2.mono fun e w4 ⟨f1, ⟨p', f2, f3⟩, f4⟩ => ⟨f1, ⟨p', f2, ⟨f3.f, f3.m, f3.h, f3.s, f3.old, fun i hi => (f3.new i hi).imp id (fun h => Nat.le_trans t.size h)⟩⟩, (FoOwn.of t).trans f4 (Moved.refl p F w)⟩⟩
  obtain ⟨y, hy⟩ : ∃ y, o.getD zeroE = y := ⟨_, rfl⟩
  obtain ⟨⟨ye, yc, yi⟩, yg⟩ := y
  have CG2 : Hid (Calls Tryz.prog 33 #[.pointer (some ⟨p.f, 0, none⟩), .int .i64 (r : Nat), .int .i64 (pg : Nat)] w fun e w' => e = .returned (.tuple #[.agg #[.int .i64 ye, .int .i64 yc, .int .i64 yi, .int .i64 yg], .bool o.isSome]) ∧ Below w.heap.size w w') := by
    have := CG.out
    unfold getPost at this
    rw [hy] at this
    exact this
  obtain ⟨R, hR⟩ : ∃ R, setF F r pg .clear = R := ⟨_, rfl⟩
  rw [hR] at HA ⊢
  clear h hL hr hpg hF hr' ho hs hzero hy hR CG
  cases hb : o.isSome
  · rw [hb] at CG2
    simp only [Bool.false_eq_true, if_false]
    go_enter Tryz.func36, Tryz.ntmps36
    go_wp2_with (first
      | (go_at_call 47; ((with_reducible refine CN.out.mono ?_); rintro e ww ⟨rfl, rfl⟩))
      | (go_at_call 50; ((with_reducible refine CI.out.mono ?_); rintro e ww ⟨rfl, rfl⟩))
      | (go_at_call 51; ((with_reducible refine (CP.out _).mono ?_); rintro e ww ⟨rfl, rfl⟩))
      | (go_at_call 33; ((with_reducible refine CG2.out.mono ?_); rintro e w2 ⟨rfl, hb2⟩; have HB2 := Lib.hid hb2; clear hb2))
      | (go_at_call 53; ((with_reducible refine (HM.out _ HB2.out _).mono ?_); rintro e w3 ⟨rfl, hr⟩; have HR := Lib.hid hr; clear hr)))
    go_ret2
    exact ⟨rfl, HR.out.1, HR.out.2⟩
  · rw [hb] at CG2
    simp only [if_true]
    go_enter Tryz.func36, Tryz.ntmps36
    go_wp2_with (first
      | (go_at_call 47; ((with_reducible refine CN.out.mono ?_); rintro e ww ⟨rfl, rfl⟩))
      | (go_at_call 50; ((with_reducible refine CI.out.mono ?_); rintro e ww ⟨rfl, rfl⟩))
      | (go_at_call 51; ((with_reducible refine (CP.out _).mono ?_); rintro e ww ⟨rfl, rfl⟩))
      | (go_at_call 33; ((with_reducible refine CG2.out.mono ?_); rintro e w2 ⟨rfl, hb2⟩; have HB2 := Lib.hid hb2; clear hb2))
      | (go_at_call 54; ((with_reducible refine (HA.out _ HB2.out _).mono ?_); rintro e w3 ⟨rfl, hm⟩; have HMd := Lib.hid hm; clear hm))
      | (go_at_call 53; ((with_reducible refine HMd.out.mono ?_); rintro e w4 ⟨rfl, hr⟩; have HR := Lib.hid hr; clear hr)))
    go_ret2
    exact ⟨rfl, HR.out.1, HR.out.2⟩
theorem clearF_is {L : Nat} (h : Ok F L) (hL : L ≤ 2 ^ 38) {r pg : Nat} (hr : r = 0 ∨ (r ∈ F.ids ∧ F.lev r = 0)) (hpg : pg < 4096) :
    Ok (clearF F r pg).1 (L + 3) ∧ ((clearF F r pg).2 = 0 ∨ ((clearF F r pg).2 ∈ (clearF F r pg).1.ids ∧ (clearF F r pg).1.lev (clearF F r pg).2 = 0)) ∧ Ext F (clearF F r pg).1 ∧ (∀ i : Int, cnt (clearF F r pg).1.held i = cnt F.held i + if (clearF F r pg).2 ≠ 0 ∧ i = (clearF F r pg).2 then 1 else 0) ∧ (clearF F r pg).1.ids.length ≤ F.ids.length + 3 ∧
    (∀ q, q < 4096 → getL 2 (clearF F r pg).1 (clearF F r pg).2 q = if q = pg then none else getL 2 F r q) := by
  unfold clearF
  by_cases hs : (getL 2 F r pg).isSome = true
  · rw [if_pos hs]
    have := setF_is h hL hr hpg .clear trivial
    exact ⟨this.ok, this.root, this.ext, this.held, this.len, this.get⟩
  · rw [if_neg hs]
    have hno : getL 2 F r pg = none := by simpa using hs
    have e := madeF_ext F r
    refine ⟨⟨h.inv.made hr (.inl rfl), by show (madeF F r).last ≤ _; rw [madeF_last]; have := h.last; omega, fun i => by show cnt (madeF F r).held i ≤ _; rw [madeF_held]; have := h.held i; split <;> omega⟩, hr.imp id (fun ⟨a, b⟩ => ⟨e.mem _ a, (e.lev _ a).trans b⟩), e, fun i => madeF_held F r i, by show (madeF F r).ids.length ≤ _; rw [madeF_ids]; omega, fun q hq => ?_⟩
    show getL 2 (madeF F r) r q = _
    rw [getL_ext h.inv e 2 r q (hr.imp id (fun h => h.1))]
    by_cases hqp : q = pg
    · rw [if_pos hqp, hqp, hno]
    · rw [if_neg hqp]

set_option maxRecDepth 100000 in
set_option maxHeartbeats 1000000 in
theorem hold_fn {L : Nat} (h : Ok F L) (hL : L ≤ 2 ^ 38) {r : Nat} (hr : isB F (r : Int) = true) (w : World) (hF : FoAt w p F) :
    Calls Tryz.prog 35 #[.pointer (some ⟨p.f, 0, none⟩), .int .i64 (r : Nat)] w fun e w' => e = .returned (.int .i64 0) ∧ FoAt w' p (madeF F r) ∧ FoOwn p F w w' := by
  have hr' := h.inv.root hr
  have hlt : r < 2 ^ 60 := by
    rcases hr' with h0 | ⟨h1, _⟩
    · omega
    · have := (h.inv.pos _ h1).2; have := h.last; omega
  have CN := Lib.hid (none_fn _ hF)
  have CI := Lib.hid (is_fn (r : Int) (by unfold I64; omega) _ hF)
  rw [hr] at CI
  have hs := h.small hL
  have CM := Lib.hid (made_fn (p := p) r (hr'.imp id (fun h => h.1)) hlt (by have := h.held r; omega) (fun hm => by have := h.inv.refs_le hs r hm; omega) w hF)
  clear h hL hr hF hr' hs
  go_enter Tryz.func35, Tryz.ntmps35
  go_wp2_with (first
    | (go_at_call 47; ((with_reducible refine CN.out.mono ?_); rintro e ww ⟨rfl, rfl⟩))
    | (go_at_call 50; ((with_reducible refine CI.out.mono ?_); rintro e ww ⟨rfl, rfl⟩))
    | (go_at_call 53; ((with_reducible refine CM.out.mono ?_); rintro e w3 ⟨rfl, h1, h2⟩; have HR := Lib.hid (And.intro h1 h2); clear h1 h2)))
  go_ret
  exact ⟨rfl, HR.out.1, HR.out.2⟩
set_option maxRecDepth 100000 in
theorem nodes_fn (w : World) (hF : FoAt w p F) : Calls Tryz.prog 40 #[.pointer (some ⟨p.f, 0, none⟩)] w fun e w' => e = .returned (.int .i64 (F.ids.length : Nat)) ∧ w = w' := by
  have CN := Lib.hid (none_fn _ hF)
  have HM := Lib.hid hF.nodes
  have c0 := hF.c0
  have hl : (nodesL p F).length = F.ids.length := by simp [nodesL]
  have HL := Lib.hid hl
  clear hF hl
  go_enter Tryz.func40, Tryz.ntmps40
  go_wp2_with (first
    | (go_at_call 47; ((with_reducible refine CN.out.mono ?_); rintro e ww ⟨rfl, rfl⟩))
    | (refine wp_len _ (by rfl) _ 99 (by rfl) Tryz.underlying99 p.m (nodesL p F) (by rfl) HM.out ?_))
  go_ret
  exact ⟨ret1 (by rw [HL.out]), rfl⟩
end Go.Proofs.YtmpbhoijkcanmaaGreat.R

/- Radix: a way to a node is taken away: the plain law. -/
namespace Go.Proofs.YtmpbhoijkcanmaaGreat.R
open Go.ChangeShapes Go.WideShapes Go.ChangeAt Go.RowKit Go.Maps Go.Proofs.YtmpbhoijkcanmaaGreat.G
set_option linter.unusedVariables false
set_option linter.unusedSimpArgs false
set_option linter.unnecessarySimpa false

variable {F G H : Fo} {pend : Nat → Nat} {pendS : Slot → Nat} {exc : Nat} {w w' : World} {p : Pf}
/-- what is left of a forest -/
structure Sub (F G : Fo) : Prop where
  ext : Ext G F
  refs : ∀ i, i ∈ G.ids → (G.nd i).refs ≤ (F.nd i).refs
  held : G.held = F.held
  last : G.last = F.last
  sl : ∀ s, cnt G.sl s ≤ cnt F.sl s
theorem Sub.refl (F : Fo) : Sub F F := ⟨Ext.refl F, fun _ _ => Nat.le_refl _, rfl, rfl, fun _ => Nat.le_refl _⟩
theorem Sub.trans (a : Sub F G) (b : Sub G H) : Sub F H := ⟨b.ext.trans a.ext, fun i hi => Nat.le_trans (b.refs i hi) (a.refs i (b.ext.mem i hi)), b.held.trans a.held, b.last.trans a.last, fun s => Nat.le_trans (b.sl s) (a.sl s)⟩
theorem Sub.own (a : Sub F G) {b : Nat} (h : p.own G b) : p.own F b := by
  rcases h with rfl | rfl | rfl | rfl | ⟨i, hi, rfl⟩
  · exact .inl rfl
  · exact .inr (.inl rfl)
  · exact .inr (.inr (.inl rfl))
  · exact .inr (.inr (.inr (.inl rfl)))
  · exact .inr (.inr (.inr (.inr ⟨i, a.ext.mem i hi, rfl⟩)))
def decRef (F : Fo) (n : Nat) : Fo := setNd F n (setRefs (F.nd n) ((F.nd n).refs - 1))
def dropId (F : Fo) (n : Nat) : Fo := { F with ids := F.ids.filter fun i => decide (i ≠ n) }
def withSl (F : Fo) (l : List (Slot × Value)) : Fo := { F with sl := l }
def dec1 (pend : Nat → Nat) (n : Nat) : Nat → Nat := fun i => if i = n then pend i - 1 else pend i
theorem decRef_nd (F : Fo) (n i : Nat) : ((decRef F n).nd i).kids = (F.nd i).kids ∧ ((decRef F n).nd i).ents = (F.nd i).ents ∧ ((decRef F n).nd i).bits = (F.nd i).bits ∧ ((decRef F n).nd i).refs = if i = n then (F.nd i).refs - 1 else (F.nd i).refs := by
  show ((upN _ _ _ i).kids = _) ∧ ((upN _ _ _ i).ents = _) ∧ ((upN _ _ _ i).bits = _) ∧ ((upN _ _ _ i).refs = _)
  unfold upN
  by_cases e : i = n
  · subst e; simp [setRefs]
  · simp [e]
theorem decRef_sub (F : Fo) (n : Nat) : Sub F (decRef F n) :=
  ⟨⟨fun _ h => h, fun i _ => (decRef_nd F n i).1.symm, fun i _ => (decRef_nd F n i).2.1.symm, fun i _ => (decRef_nd F n i).2.2.1.symm, fun _ _ => rfl⟩,
    fun i _ => by rw [(decRef_nd F n i).2.2.2]; split <;> omega, rfl, rfl, fun _ => Nat.le_refl _⟩
theorem ext_decRef (F : Fo) (n : Nat) : Ext F (decRef F n) :=
  ⟨fun _ h => h, fun i _ => (decRef_nd F n i).1, fun i _ => (decRef_nd F n i).2.1, fun i _ => (decRef_nd F n i).2.2.1, fun _ _ => rfl⟩
theorem dropId_mem {n i : Nat} : i ∈ (dropId F n).ids ↔ i ∈ F.ids ∧ i ≠ n := by
  show i ∈ F.ids.filter _ ↔ _
  rw [List.mem_filter]; simp
theorem dropId_sub (F : Fo) (n : Nat) : Sub F (dropId F n) :=
  ⟨⟨fun i h => (dropId_mem.1 h).1, fun _ _ => rfl, fun _ _ => rfl, fun _ _ => rfl, fun _ _ => rfl⟩, fun _ _ => Nat.le_refl _, rfl, rfl, fun _ => Nat.le_refl _⟩
theorem Inv.decRef (h : Inv F pend pendS 0) {n : Nat} (hn : n ∈ F.ids) (hp : 0 < pend n) : Inv (R.decRef F n) (dec1 pend n) pendS n := by
  have e := ext_decRef F n
  have hr := h.refs n hn
  refine ⟨h.nd, h.pos, h.lev, fun i hi => ((h.ok i hi).ext e).same (e.kids i hi) (e.ents i hi) (e.bits i hi), fun i hi => by rw [emptyB_same (e.kids i hi) (e.bits i hi)]; exact h.full i hi, fun i hi => ?_, h.held, fun s => ?_, fun i hi => ?_⟩
  · rw [(decRef_nd F n i).2.2.2, refc_same (F := F) (G := R.decRef F n) rfl e.kids]
    have := h.refs i hi
    show _ = refc F i + cnt F.held (i : Int) + if i = n then pend i - 1 else pend i
    by_cases hin : i = n
    · subst hin; rw [if_pos rfl, if_pos rfl]; omega
    · rw [if_neg hin, if_neg hin]; omega
  · rw [slc_same (F := F) (G := R.decRef F n) rfl e.ents e.bits]; exact h.sls s
  · by_cases hin : i = n
    · exact .inr hin
    · left
      rw [(decRef_nd F n i).2.2.2, if_neg hin]
      rcases h.live i hi with h' | h'
      · exact h'
      · have := (h.pos i hi).1; omega
theorem Inv.exc0 (h : Inv F pend pendS exc) (he : exc ∈ F.ids → 0 < (F.nd exc).refs) : Inv F pend pendS 0 :=
  ⟨h.nd, h.pos, h.lev, h.ok, h.full, h.refs, h.held, h.sls, fun i hi => by
    rcases h.live i hi with h' | rfl
    · exact .inl h'
    · exact .inl (he hi)⟩
theorem sum_drop (f : Nat → Nat) (n : Nat) : ∀ l : List Nat, l.Nodup → n ∈ l → (l.map f).sum = ((l.filter fun i => decide (i ≠ n)).map f).sum + f n
  | [], _, h => by cases h
  | a :: l, hnd, h => by
    rw [List.nodup_cons] at hnd
    rw [List.filter_cons]
    by_cases e : a = n
    · subst e
      rw [if_neg (by simp)]
      have : l.filter (fun i => decide (i ≠ a)) = l := List.filter_eq_self.2 fun i hi => by
        have : i ≠ a := fun e => hnd.1 (e ▸ hi)
        simpa using this
      rw [this, List.map_cons, List.sum_cons]; omega
    · rw [if_pos (by simpa using e), List.map_cons, List.sum_cons, List.map_cons, List.sum_cons]
      rcases List.mem_cons.1 h with h | h
      · exact absurd h.symm e
      · have := sum_drop f n l hnd.2 h; omega
theorem dropId_refc (h : F.ids.Nodup) {n : Nat} (hn : n ∈ F.ids) (i : Nat) : refc F i = refc (dropId F n) i + hits (F.nd n).kids 16 i := sum_drop (fun m => hits (F.nd m).kids 16 i) n F.ids h hn
theorem dropId_slc (h : F.ids.Nodup) {n : Nat} (hn : n ∈ F.ids) (s : Slot) : slc F s = slc (dropId F n) s + slHits (F.nd n) 16 s := sum_drop (fun m => slHits (F.nd m) 16 s) n F.ids h hn
theorem Inv.dropId (h : Inv F pend pendS exc) {n : Nat} (hn : n ∈ F.ids) (h0 : (F.nd n).refs = 0) (he : exc = 0 ∨ exc = n) :
    Inv (R.dropId F n) (fun i => pend i + hits (F.nd n).kids 16 i) (fun s => pendS s + slHits (F.nd n) 16 s) 0 := by
  have hr := h.refs n hn
  have hc0 : refc F n = 0 := by omega
  have hh0 : cnt F.held (n : Int) = 0 := by omega
  refine ⟨h.nd.filter _, fun i hi => h.pos i (dropId_mem.1 hi).1, fun i hi => h.lev i (dropId_mem.1 hi).1, fun i hi => ?_, fun i hi => h.full i (dropId_mem.1 hi).1, fun i hi => ?_, fun r hr => ?_, fun s => ?_, fun i hi => ?_⟩
  · obtain ⟨hi, hne⟩ := dropId_mem.1 hi
    have hk := h.ok i hi
    refine ⟨fun j hj => ?_, hk.bits, hk.ents, hk.zero⟩
    rcases hk.kid j hj with h1 | ⟨h1, h2, h3⟩
    · exact .inl h1
    · refine .inr ⟨dropId_mem.2 ⟨h1, fun e => ?_⟩, h2, h3⟩
      have := refc_pos hi hj e
      omega
  · have h1 := h.refs i (dropId_mem.1 hi).1
    have h2 := dropId_refc h.nd hn i
    show (F.nd i).refs = refc (R.dropId F n) i + cnt F.held (i : Int) + _
    omega
  · obtain ⟨m, e, hm, hl⟩ := h.held r hr
    refine ⟨m, e, dropId_mem.2 ⟨hm, fun e2 => ?_⟩, hl⟩
    subst e2
    rw [e] at hr
    have hr' : 0 < cnt F.held (m : Int) := hr
    omega
  · have h1 := h.sls s
    have h2 := dropId_slc h.nd hn s
    show cnt F.sl s = _
    omega
  · obtain ⟨hi, hne⟩ := dropId_mem.1 hi
    rcases h.live i hi with h' | h'
    · exact .inl h'
    · have := (h.pos i hi).1; omega
theorem Inv.withSl (h : Inv F pend pendS exc) {l : List (Slot × Value)} {pendS2 : Slot → Nat} (hl : ∀ s, cnt l s = slc F s + pendS2 s) : Inv (R.withSl F l) pend pendS2 exc :=
  ⟨h.nd, h.pos, h.lev, fun i hi => ⟨(h.ok i hi).kid, (h.ok i hi).bits, (h.ok i hi).ents, (h.ok i hi).zero⟩, h.full, h.refs, h.held, fun s => hl s, h.live⟩
theorem Inv.pendEq {pend2 : Nat → Nat} {pendS2 : Slot → Nat} (h : Inv F pend pendS exc) (a : ∀ i, i ∈ F.ids → pend2 i = pend i) (b : ∀ s, pendS2 s = pendS s) : Inv F pend2 pendS2 exc :=
  ⟨h.nd, h.pos, h.lev, h.ok, h.full, fun i hi => by rw [a i hi]; exact h.refs i hi, h.held, fun s => by rw [b s]; exact h.sls s, h.live⟩
/-- which slots went -/
def Gone (F G : Fo) (g g' : List (Slot × Value)) : Prop := ∀ s, (mget g' s).isSome = true ↔ ((mget g s).isSome = true ∨ (0 < cnt F.sl s ∧ cnt G.sl s = 0))
theorem Gone.refl (h : ∀ s, cnt G.sl s = cnt F.sl s) (g : List (Slot × Value)) : Gone F G g g := fun s => by
  have := h s
  constructor
  · exact .inl
  · rintro (h | ⟨h1, h2⟩)
    · exact h
    · omega
theorem Gone.trans {g1 g2 g3 : List (Slot × Value)} (a : Gone F G g1 g2) (b : Gone G H g2 g3) (h1 : ∀ s, cnt G.sl s ≤ cnt F.sl s) (h2 : ∀ s, cnt H.sl s ≤ cnt G.sl s) : Gone F H g1 g3 := fun s => by
  rw [b s, a s]
  have := h1 s
  have := h2 s
  constructor
  · rintro ((h | ⟨h, h'⟩) | ⟨h, h'⟩)
    · exact .inl h
    · exact .inr ⟨h, by omega⟩
    · exact .inr ⟨by omega, h'⟩
  · rintro (h | ⟨h, h'⟩)
    · exact .inl (.inl h)
    · by_cases hz : cnt G.sl s = 0
      · exact .inl (.inr ⟨h, hz⟩)
      · exact .inr ⟨by omega, h'⟩

/-! ### in memory -/
/-- w' is w, but for blocks of a kind, and new ones -/
def OwnP (O : Nat → Prop) (w w' : World) : Prop := ∃ S, Turned S w w' ∧ ∀ b ∈ S, O b
theorem OwnP.of {O : Nat → Prop} (t : Turned [] w w') : OwnP O w w' := ⟨[], t, by simp⟩
theorem OwnP.step {O : Nat → Prop} {w2 w3 : World} (h : OwnP O w w2) {S : List Nat} (t : Turned S w2 w3) (hS : ∀ b ∈ S, w.heap.size ≤ b ∨ O b) : OwnP O w w3 := by
  obtain ⟨T, h1, h2⟩ := h
  refine ⟨T ++ S.filter (fun b => decide (b < w.heap.size)), ?_, fun b hb => ?_⟩
  · refine ⟨t.os.trans h1.os, t.tape.trans h1.tape, t.output.trans h1.output, Nat.le_trans h1.size t.size, fun i hi hn => ?_⟩
    rw [List.mem_append, not_or, List.mem_filter] at hn
    have h3 : i ∉ S := fun hm => hn.2 ⟨hm, by simpa using hi⟩
    exact (t.block i (Nat.lt_of_lt_of_le hi h1.size) h3).trans (h1.block i hi hn.1)
  · rw [List.mem_append, List.mem_filter] at hb
    rcases hb with hb | ⟨hb, hl⟩
    · exact h2 b hb
    · rcases hS b hb with h | h
      · simp at hl; omega
      · exact h
theorem OwnP.trans {O O' : Nat → Prop} {w2 w3 : World} (h : OwnP O w w2) (k : OwnP O' w2 w3) (ho : ∀ b, O' b → w.heap.size ≤ b ∨ O b) : OwnP O w w3 := by
  obtain ⟨S, t, hS⟩ := k
  exact h.step t (fun b hb => ho b (hS b hb))
theorem OwnP.size {O : Nat → Prop} (h : OwnP O w w') : w.heap.size ≤ w'.heap.size := let ⟨_, t, _⟩ := h; t.size
theorem OwnP.nodeAt {O : Nat → Prop} (h : OwnP O w w') {b : Nat} {x : Node} (hx : NodeAt w b x) (ho : ¬ O b) : NodeAt w' b x := by
  obtain ⟨S, t, hS⟩ := h
  exact hx.turned t (fun hm => ho (hS b hm))
theorem FoAt.decRef (h : FoAt w p F) {n : Nat} (hn : n ∈ F.ids) : FoAt (w.setCell ⟨p.blk n, 81, none⟩ (.int .i64 ((F.nd n).refs - 1 : Nat))) p (R.decRef F n) :=
  h.setNd n hn _ ((h.nd n hn).setRefs _) ((Turned.refl [p.blk n] w).setCell (p := ⟨p.blk n, 81, none⟩) (.inl (by simp)) _)
theorem nodesL_drop (p : Pf) (F : Fo) (n : Nat) : nodesL p (dropId F n) = mdel (nodesL p F) (n : Int) := by
  unfold nodesL mdel R.dropId
  simp only
  induction F.ids with
  | nil => rfl
  | cons i l ih =>
    rw [List.map_cons, List.filter_cons, List.filter_cons]
    by_cases e : i = n
    · subst e; rw [if_neg (by simp), if_neg (by simp)]; exact ih
    · rw [if_pos (by simpa using e), if_pos (by simp; omega), List.map_cons, ih]
theorem FoAt.dropId {w2 : World} (h : FoAt w p F) (n : Nat) (hm : MapIs Tryz.prog 3 encI w2 p.m (mdel (nodesL p F) (n : Int))) (t : Turned [p.m] w w2) : FoAt w2 p (R.dropId F n) := by
  have hd := h.dis
  rw [← nodesL_drop] at hm
  refine ⟨t.cell h.c0 (show p.f ∉ [p.m] by simpa using hd.1.1), t.cell h.c1 (show p.f ∉ [p.m] by simpa using hd.1.1), t.cell h.c2 (show p.f ∉ [p.m] by simpa using hd.1.1), t.cell h.c3 (show p.f ∉ [p.m] by simpa using hd.1.1), fun j => (t.frozen (a := ⟨p.f, j, none⟩) (h.lt (.inl rfl)) (show p.f ∉ [p.m] by simpa using hd.1.1)).trans (h.fz j),
    hm, h.held.turned t (by simpa using hd.2.1.1.symm), h.sl.turned t (by simpa using hd.2.1.2.symm), fun i hi => (h.nd i (dropId_mem.1 hi).1).turned t (by simpa using (h.far i (dropId_mem.1 hi).1).2.1), h.nh, h.ns,
    fun i j hi hj hij => h.inj i j (dropId_mem.1 hi).1 (dropId_mem.1 hj).1 hij, fun i hi => h.far i (dropId_mem.1 hi).1, h.dis⟩
theorem FoAt.own_drop (h : FoAt w p F) {n : Nat} (hn : n ∈ F.ids) : ¬ p.own (R.dropId F n) (p.blk n) := by
  have hf := h.far n hn
  rintro (e | e | e | e | ⟨i, hi, e⟩)
  · exact hf.1 e
  · exact hf.2.1 e
  · exact hf.2.2.1 e
  · exact hf.2.2.2 e
  · obtain ⟨hi, hne⟩ := dropId_mem.1 hi
    exact h.inj n i hn hi (Ne.symm hne) e
end Go.Proofs.YtmpbhoijkcanmaaGreat.R

/- Radix: a way to a node is taken away: the walk. -/
namespace Go.Proofs.YtmpbhoijkcanmaaGreat.R
open Go.ChangeShapes Go.WideShapes Go.ChangeAt Go.RowKit Go.Maps Go.Proofs.YtmpbhoijkcanmaaGreat.G
set_option linter.unusedVariables false
set_option linter.unusedSimpArgs false
set_option linter.unnecessarySimpa false

variable {w w' : World} {p : Pf} {F F2 G : Fo} {pd : Nat → Nat} {ps : Slot → Nat}
theorem hits_succ (f : Nat → Nat) (j i : Nat) : hits f (j + 1) i = hits f j i + if f j = i then 1 else 0 := by
  unfold hits
  rw [List.range_succ, List.countP_append]
  by_cases h : f j = i
  · rw [if_pos h]; simp [h]
  · rw [if_neg h]; simp [h]
theorem hits_mono (f : Nat → Nat) (i : Nat) {j k : Nat} (h : j ≤ k) : hits f j i ≤ hits f k i := by
  induction k with
  | zero => obtain rfl : j = 0 := by omega
            exact Nat.le_refl _
  | succ k ih =>
    rw [hits_succ]
    by_cases e : j = k + 1
    · subst e; rw [hits_succ]; omega
    · have := ih (by omega); omega
theorem slHits_succ (x : Node) (j : Nat) (s : Slot) : slHits x (j + 1) s = slHits x j s + if x.bits.testBit j = true ∧ (x.ents j).s = s then 1 else 0 := by
  unfold slHits
  rw [List.range_succ, List.countP_append]
  by_cases h : x.bits.testBit j = true ∧ (x.ents j).s = s
  · rw [if_pos h]; simp [h.1, h.2]
  · rw [if_neg h]; simp; intro h1 h2; exact h ⟨h1, h2⟩
theorem slHits_mono (x : Node) (s : Slot) {j k : Nat} (h : j ≤ k) : slHits x j s ≤ slHits x k s := by
  induction k with
  | zero => obtain rfl : j = 0 := by omega
            exact Nat.le_refl _
  | succ k ih =>
    rw [slHits_succ]
    by_cases e : j = k + 1
    · subst e; rw [slHits_succ]; omega
    · have := ih (by omega); omega
def lessPost (p : Pf) (gb : Nat) (F : Fo) (pend : Nat → Nat) (pendS : Slot → Nat) (n : Nat) (g : List (Slot × Value)) (w : World) (e : Ending) (w' : World) : Prop :=
  e = .returned (.tuple #[]) ∧ ∃ G g', Sub F G ∧ Inv G (dec1 pend n) pendS 0 ∧ (∀ i, i ∈ F.ids → 0 < dec1 pend n i → i ∈ G.ids) ∧ Gone F G g g' ∧ FoAt w' p G ∧ MapIs Tryz.prog 45 encS w' gb g' ∧ OwnP (fun b => p.own F b ∨ b = gb) w w'
def LessC (lev : Nat) : Prop := ∀ (p : Pf) (gb : Nat) (F : Fo) (pend : Nat → Nat) (pendS : Slot → Nat) (n : Nat) (g : List (Slot × Value)) (w : World),
  Inv F pend pendS 0 → n ∈ F.ids → F.lev n = lev → 0 < pend n → F.last ≤ 2 ^ 41 → (∀ i, i ∈ F.ids → (F.nd i).refs ≤ 2 ^ 46) → FoAt w p F → MapIs Tryz.prog 45 encS w gb g → ¬ p.own F gb →
  Calls Tryz.prog 57 #[.pointer (some ⟨p.f, 0, none⟩), .int .i64 (n : Nat), .map (some gb)] w (lessPost p gb F pend pendS n g w)
/-- what stands while kids, and entries, are gone over -/
structure LesIs (w wr : World) (p : Pf) (gb B : Nat) (F F2 : Fo) (x : Node) (g : List (Slot × Value)) (pd : Nat → Nat) (ps : Slot → Nat) (G : Fo) (g' : List (Slot × Value)) : Prop where
  sub : Sub F2 G
  inv : Inv G pd ps 0
  keep : ∀ i, i ∈ F2.ids → 0 < pd i → i ∈ G.ids
  gone : Gone F2 G g g'
  fo : FoAt wr p G
  map : MapIs Tryz.prog 45 encS wr gb g'
  own : OwnP (fun b => p.own F b ∨ b = gb) w wr
  nd : NodeAt wr B x
def LesAt (w wr : World) (p : Pf) (gb B : Nat) (F F2 : Fo) (x : Node) (g : List (Slot × Value)) (pd : Nat → Nat) (ps : Slot → Nat) : Prop := ∃ G g', LesIs w wr p gb B F F2 x g pd ps G g'
/-- what is fixed: what is left when a node went, which one, and where the others lie -/
structure LesC (p : Pf) (gb B lev : Nat) (F F2 : Fo) (x : Node) : Prop where
  sub : Sub F F2
  pos : ∀ i, i ∈ F2.ids → 0 < i
  kid : ∀ j, j < 16 → x.kids j = 0 ∨ (x.kids j ∈ F2.ids ∧ F2.lev (x.kids j) = lev + 1)
  bits : x.bits < 2 ^ 16
  ents : ∀ j, j < 16 → x.bits.testBit j = true → (x.ents j).s.ok
  last : F.last ≤ 2 ^ 41
  refs : ∀ i, i ∈ F.ids → (F.nd i).refs ≤ 2 ^ 46
  gb : ¬ p.own F gb
  nB : ¬ p.own F2 B
  oB : p.own F B
def remK (x : Node) (pd : Nat → Nat) (j : Nat) : Nat → Nat := fun i => pd i + (hits x.kids 16 i - hits x.kids j i)
def remS (x : Node) (ps : Slot → Nat) (j : Nat) : Slot → Nat := fun s => ps s + (slHits x 16 s - slHits x j s)
theorem LesIs.pend {wr : World} {gb B : Nat} {x : Node} {g g' : List (Slot × Value)} {pd2 : Nat → Nat} {ps2 : Slot → Nat} (h : LesIs w wr p gb B F F2 x g pd ps G g') (a : ∀ i, i ∈ F2.ids → pd2 i = pd i) (b : ∀ s, ps2 s = ps s) : LesIs w wr p gb B F F2 x g pd2 ps2 G g' :=
  ⟨h.sub, h.inv.pendEq (fun i hi => a i (h.sub.ext.mem i hi)) b, fun i hi h0 => h.keep i hi (by rw [← a i hi]; exact h0), h.gone, h.fo, h.map, h.own, h.nd⟩
theorem LesIs.calm {wr wq : World} {gb B : Nat} {x : Node} {g g' : List (Slot × Value)} (h : LesIs w wr p gb B F F2 x g pd ps G g') (t : Turned [] wr wq) : LesIs w wq p gb B F F2 x g pd ps G g' :=
  ⟨h.sub, h.inv, h.keep, h.gone, h.fo.calm t, h.map.turned t (by simp), h.own.step t (by simp), h.nd.turned t (by simp)⟩
/-- a kid that is none -/
theorem LesIs.skip {wr : World} {gb B lev : Nat} {x : Node} {g g' : List (Slot × Value)} {j : Nat} (hc : LesC p gb B lev F F2 x) (h : LesIs w wr p gb B F F2 x g (remK x pd j) ps G g') (hj : x.kids j = 0) : LesIs w wr p gb B F F2 x g (remK x pd (j + 1)) ps G g' :=
  h.pend (fun i hi => by
    unfold remK
    have := hc.pos i hi
    rw [hits_succ x.kids j, if_neg (by omega), Nat.add_zero]) (fun _ => rfl)
/-- an entry that is none -/
theorem LesIs.skipE {wr : World} {gb B lev : Nat} {x : Node} {g g' : List (Slot × Value)} {j : Nat} (hc : LesC p gb B lev F F2 x) (h : LesIs w wr p gb B F F2 x g pd (remS x ps j) G g') (hj : x.bits.testBit j = false) : LesIs w wr p gb B F F2 x g pd (remS x ps (j + 1)) G g' :=
  h.pend (fun _ _ => rfl) (fun s => by
    unfold remS
    rw [slHits_succ x j, if_neg (by simp [hj]), Nat.add_zero])
theorem LesIs.call {wr wq : World} {gb B lev : Nat} {x : Node} {g g' : List (Slot × Value)} {j : Nat} {e : Ending} (hc : LesC p gb B lev F F2 x) (h : LesIs w wr p gb B F F2 x g (remK x pd j) ps G g') (hj : j < 16) (hp : lessPost p gb G (remK x pd j) ps (x.kids j) g' wr e wq) :
    e = .returned (.tuple #[]) ∧ LesAt w wq p gb B F F2 x g (remK x pd (j + 1)) ps := by
  obtain ⟨he, H, g2, h1, h2, h3, h4, h5, h6, h7⟩ := hp
  refine ⟨he, H, g2, ?_⟩
  have hm16 : hits x.kids (j + 1) (x.kids j) ≤ hits x.kids 16 (x.kids j) := hits_mono _ _ (by omega)
  have hpd : ∀ i, remK x pd (j + 1) i = dec1 (remK x pd j) (x.kids j) i := fun i => by
    unfold remK dec1
    rw [hits_succ x.kids j]
    by_cases e : i = x.kids j
    · subst e
      rw [hits_succ x.kids j, if_pos rfl] at hm16
      rw [if_pos rfl, if_pos rfl]; show _ = (pd (x.kids j) + (hits x.kids 16 (x.kids j) - hits x.kids j (x.kids j))) - 1; omega
    · rw [if_neg (fun h => e h.symm), if_neg e, Nat.add_zero]
  have hle : ∀ i, 0 < remK x pd (j + 1) i → 0 < remK x pd j i := fun i => by
    rw [hpd]; unfold dec1; split <;> omega
  have hoB : ¬ (p.own G B ∨ B = gb) := by
    rintro (h' | h')
    · exact hc.nB (h.sub.own h')
    · exact hc.gb (h' ▸ hc.oB)
  exact ⟨h.sub.trans h1, h2.pendEq (fun i _ => hpd i) (fun _ => rfl), fun i hi h0 => h3 i (h.keep i hi (hle i h0)) (by rw [← hpd]; exact h0), h.gone.trans h4 h.sub.sl h1.sl, h5, h6,
    h.own.trans h7 (fun b hb => .inr (hb.imp (fun h' => hc.sub.own (h.sub.own h')) id)), h7.nodeAt h.nd hoB⟩
/-- what is asked of a call for a kid -/
theorem LesIs.kid {wr : World} {gb B lev : Nat} {x : Node} {g g' : List (Slot × Value)} {j : Nat} (HC : LessC (lev + 1)) (hc : LesC p gb B lev F F2 x) (h : LesIs w wr p gb B F F2 x g (remK x pd j) ps G g') (hj : j < 16) (h0 : x.kids j ≠ 0) :
    Calls Tryz.prog 57 #[.pointer (some ⟨p.f, 0, none⟩), .int .i64 (x.kids j : Nat), .map (some gb)] wr fun e wq => e = .returned (.tuple #[]) ∧ LesAt w wq p gb B F F2 x g (remK x pd (j + 1)) ps := by
  obtain ⟨k1, k2⟩ := (hc.kid j hj).resolve_left h0
  have hm16 : hits x.kids (j + 1) (x.kids j) ≤ hits x.kids 16 (x.kids j) := hits_mono _ _ (by omega)
  have hpos : 0 < remK x pd j (x.kids j) := by
    unfold remK
    rw [hits_succ x.kids j, if_pos rfl] at hm16
    omega
  have hk := h.keep _ k1 hpos
  exact (HC p gb G _ ps _ g' wr h.inv hk ((h.sub.ext.lev _ hk).symm.trans k2) hpos (by rw [h.sub.last, hc.sub.last]; exact hc.last) (fun i hi => Nat.le_trans (h.sub.refs i hi) (Nat.le_trans (hc.sub.refs i (h.sub.ext.mem i hi)) (hc.refs i (hc.sub.ext.mem i (h.sub.ext.mem i hi))))) h.fo h.map (fun ho => hc.gb (hc.sub.own (h.sub.own ho)))).mono fun e wq hp => h.call hc hj hp
theorem NumL.put0 {α : Type} [DecidableEq α] {l : List (α × Value)} (h : NumL l) (a : α) (v : Value) : NumL (mdel (mput l a v) a) := by
  intro b u hb
  rw [look_del, look_put] at hb
  by_cases e : b = a
  · rw [if_pos e] at hb; cases hb
  · rw [if_neg e, if_neg e] at hb; exact h b u hb
end Go.Proofs.YtmpbhoijkcanmaaGreat.R
