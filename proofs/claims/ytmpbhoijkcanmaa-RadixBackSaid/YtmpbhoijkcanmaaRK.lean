/- Radix: Get. -/
import Derived.Test.YtmpbhoijkcanmaaRJ
namespace Go.Proofs.Ytmpbhoijkcanmaa.R
open Go.ChangeShapes Go.WideShapes Go.ChangeAt Go.RowKit Go.Maps Go.Proofs.Ytmpbhoijkcanmaa.G
set_option linter.unusedVariables false
set_option linter.unusedSimpArgs false
set_option linter.unnecessarySimpa false

variable {w w' : World} {p p' : Pf} {F G : Fo} {pend : Nat → Nat} {pendS : Slot → Nat}
/-- the way down -/
def pathR (F : Fo) (r pg : Nat) : Nat → Nat
  | 0 => r
  | j + 1 => kidOf F (pathR F r pg j) (partN pg j)
theorem getL_path (F : Fo) (r pg : Nat) : getL 2 F r pg = if pathR F r pg 2 = 0 then none else leafE (F.nd (pathR F r pg 2)) pg := rfl
theorem path_zero (F : Fo) (r pg : Nat) {j : Nat} (hj : j ≤ 2) (h : pathR F r pg j = 0) : getL 2 F r pg = none := by
  rw [getL_path, if_pos]
  have up : ∀ i, pathR F r pg i = 0 → pathR F r pg (i + 1) = 0 := fun i hi => by show kidOf F _ _ = 0; rw [hi]; rfl
  have : j = 0 ∨ j = 1 ∨ j = 2 := by omega
  rcases this with rfl | rfl | rfl
  · exact up 1 (up 0 h)
  · exact up 1 h
  · exact h
theorem path_in {exc : Nat} (h : Inv F pend pendS exc) {r : Nat} (hr : r = 0 ∨ (r ∈ F.ids ∧ F.lev r = 0)) (pg : Nat) : ∀ j, pathR F r pg j = 0 ∨ (pathR F r pg j ∈ F.ids ∧ F.lev (pathR F r pg j) = j)
  | 0 => hr
  | j + 1 => by
    show kidOf F (pathR F r pg j) (partN pg j) = 0 ∨ _
    have e : pathR F r pg (j + 1) = kidOf F (pathR F r pg j) (partN pg j) := rfl
    rw [e]
    unfold kidOf
    rcases path_in h hr pg j with h0 | ⟨h1, h2⟩
    · rw [if_pos h0]; exact .inl rfl
    · rw [if_neg (by have := (h.pos _ h1).1; omega)]
      rcases (h.ok _ h1).kid _ (partN_lt pg j) with h' | ⟨a, b, c⟩
      · exact .inl h'
      · exact .inr ⟨a, by omega⟩
def encE' (o : Option Ent) : Value := encE (o.getD zeroE)
/-- what Get answers -/
def getPost (o : Option Ent) (w : World) (e : Ending) (w' : World) : Prop := e = .returned (.tuple #[.agg #[.int .i64 (o.getD zeroE).s.e, .int .i64 (o.getD zeroE).s.c, .int .i64 (o.getD zeroE).s.i, .int .i64 (o.getD zeroE).g], .bool o.isSome]) ∧ Below w.heap.size w w'
theorem ent_new (w : World) (t : TypeId) (x : Ent) : EntAt (w.alloc (.cells #[.int .i64 x.s.e, .int .i64 x.s.c, .int .i64 x.s.i, .int .i64 x.g] t)) w.heap.size x := by
  have hnew := fun q u hq => cells_new w [.int .i64 x.s.e, .int .i64 x.s.c, .int .i64 x.s.i, .int .i64 x.g] t q u hq
  have n0 := hnew 0 _ rfl
  have n1 := hnew 1 _ rfl
  have n2 := hnew 2 _ rfl
  have n3 := hnew 3 _ rfl
  rw [Addr.add_mid, Nat.zero_add] at n0 n1 n2 n3
  exact ⟨n0, n1, n2, n3⟩
theorem leaf_getD {x : Node} {l : Nat} (h : NodeOk F l x) (pg : Nat) : (leafE x pg).getD zeroE = x.ents (partN pg 2) ∧ (leafE x pg).isSome = x.bits.testBit (partN pg 2) := by
  unfold leafE
  cases hb : x.bits.testBit (partN pg 2)
  · simp [h.zero _ (partN_lt _ _) hb]
  · simp

def putE (w : World) (b : Nat) (y : Ent) : World := (((w.setCell ⟨b, 0, none⟩ (.int .i64 y.s.e)).setCell ⟨b, 1, none⟩ (.int .i64 y.s.c)).setCell ⟨b, 2, none⟩ (.int .i64 y.s.i)).setCell ⟨b, 3, none⟩ (.int .i64 y.g)
theorem EntAt.put {b : Nat} {x : Ent} (h : EntAt w b x) (y : Ent) : EntAt (putE w b y) b y ∧ Turned [b] w (putE w b y) := by
  have hne : ∀ i j : Nat, i ≠ j → (⟨b, i, none⟩ : Addr) ≠ ⟨b, j, none⟩ := fun i j h e => h (by simpa using e)
  have so : ∀ (w : World) (i j : Nat) (v u : Value), i ≠ j → w.cell? ⟨b, j, none⟩ = some u → (w.setCell ⟨b, i, none⟩ v).cell? ⟨b, j, none⟩ = some u := fun w i j v u hij hu => (World.cell?_setCell_other _ _ _ _ (hne i j hij)).trans hu
  have ss : ∀ (w : World) (i : Nat) (v u : Value), w.cell? ⟨b, i, none⟩ = some u → (w.setCell ⟨b, i, none⟩ v).cell? ⟨b, i, none⟩ = some v := fun w i v u hu => World.cell?_setCell_same (w := w) _ _ hu
  unfold putE
  refine ⟨⟨?_, ?_, ?_, ?_⟩, ((((Turned.refl [b] w).setCell (p := ⟨b, 0, none⟩) (.inl (by simp)) _).setCell (p := ⟨b, 1, none⟩) (.inl (by simp)) _).setCell (p := ⟨b, 2, none⟩) (.inl (by simp)) _).setCell (p := ⟨b, 3, none⟩) (.inl (by simp)) _⟩
  · exact so _ 3 0 _ _ (by omega) (so _ 2 0 _ _ (by omega) (so _ 1 0 _ _ (by omega) (ss _ 0 _ _ h.c0)))
  · exact so _ 3 1 _ _ (by omega) (so _ 2 1 _ _ (by omega) (ss _ 1 _ _ (so _ 0 1 _ _ (by omega) h.c1)))
  · exact so _ 3 2 _ _ (by omega) (ss _ 2 _ _ (so _ 1 2 _ _ (by omega) (so _ 0 2 _ _ (by omega) h.c2)))
  · exact ss _ 3 _ _ (so _ 2 3 _ _ (by omega) (so _ 1 3 _ _ (by omega) (so _ 0 3 _ _ (by omega) h.c3)))
theorem get_none {o : Option Ent} (ho : o = none) (hb : Below w.heap.size w w') : getPost o w (.returned (.tuple #[.agg #[.int .i64 0, .int .i64 0, .int .i64 0, .int .i64 0], .bool false])) w' := by
  subst ho
  exact ⟨rfl, hb⟩
set_option maxRecDepth 100000 in
set_option maxHeartbeats 4000000 in
theorem get_in {L : Nat} (h : Ok F L) (hL : L ≤ 2 ^ 38) {r pg : Nat} (hr : isB F (r : Int) = true) (hpg : pg < 4096) (w : World) (hF : FoAt w p F) :
    Calls Try.prog 17 #[.pointer (some ⟨p.f, 0, none⟩), .int .i64 (r : Nat), .int .i64 (pg : Nat)] w (getPost (getL 2 F r pg) w) := by
  have hr' := h.inv.root hr
  have hpath := path_in h.inv hr' pg
  have t1 := (Turned.refl [] w).alloc (.cells #[.int .i64 0, .int .i64 0, .int .i64 0, .int .i64 0] 33)
  have hF1 := hF.calm t1
  have hbound : ∀ i, i ∈ F.ids → i < 2 ^ 60 := fun i hi => by have := (h.inv.pos i hi).2; have := h.last; omega
  have hlt : r < 2 ^ 60 := by
    rcases hr' with h0 | ⟨h1, _⟩
    · omega
    · exact hbound r h1
  have hE1 := ent_new w 33 zeroE
  have HB : Hid (Below w.heap.size w (w.alloc (.cells #[.int .i64 0, .int .i64 0, .int .i64 0, .int .i64 0] 33))) := t1.below
  have CN := Lib.hid (none_fn _ hF1)
  have CI := Lib.hid (is_fn (r : Int) (by unfold I64; omega) _ hF1)
  rw [hr] at CI
  have CG : Hid (∀ w, Calls Try.prog 39 #[.int .i64 (pg : Nat)] w fun e w' => e = .returned (.bool true) ∧ w = w') := fun w => by
    have := page_fn (pg : Int) w
    rwa [show pageB (pg : Int) = true by unfold pageB; simp; omega] at this
  have CP : Hid (∀ j, j ≤ 2 → ∀ w, Calls Try.prog 44 #[.int .i64 (pg : Nat), .int .i64 (j : Nat)] w fun e w' => e = .returned (.int .i64 (partN pg j : Nat)) ∧ w' = w) := fun j hj w => (part_fn pg j hpg hj w).mono fun e w' ⟨a, b⟩ => ⟨a, b.symm⟩
  have HIn : Hid (∀ w2, FoAt w2 p F → ∀ j, j ≤ 2 → pathR F r pg j ≠ 0 → w2.cell? ⟨p.f, 0, none⟩ = some (.map (some p.m)) ∧ (Instr.lookup 86 (.map (some p.m)) (.int .i64 (pathR F r pg j : Nat)) false).run Try.prog w2 = .ok (.pointer (some ⟨p.blk (pathR F r pg j), 0, none⟩)) w2 ∧ w2.cell? ⟨p.blk (pathR F r pg j), partN pg j, none⟩ = some (.int .i64 (pathR F r pg (j + 1) : Nat)) ∧ NodeAt w2 (p.blk (pathR F r pg j)) (F.nd (pathR F r pg j)) ∧ p.blk (pathR F r pg j) ≠ w.heap.size) := fun w2 hF2 j hj h0 => by
    have hi := ((hpath j).resolve_left h0).1
    have := (hF2.nd _ hi).kid (partN pg j) (partN_lt _ _)
    have e : (F.nd (pathR F r pg j)).kids (partN pg j) = pathR F r pg (j + 1) := by show _ = kidOf F _ _; unfold kidOf; rw [if_neg h0]
    rw [e] at this
    exact ⟨hF2.c0, hF2.look_node _ (hbound _ hi) hi, this, hF2.nd _ hi, by have := hF.lt (.inr (.inr (.inr (.inr ⟨_, hi, rfl⟩)))); omega⟩
  have HZ : Hid (∀ j, j ≤ 2 → pathR F r pg j = 0 → getL 2 F r pg = none) := fun j hj => path_zero F r pg hj
  have HF1 := Lib.hid hF1
  have HE1 := Lib.hid hE1
  have HLf : Hid (pathR F r pg 2 ≠ 0 → getL 2 F r pg = leafE (F.nd (pathR F r pg 2)) pg ∧ NodeOk F 2 (F.nd (pathR F r pg 2))) := fun h0 => ⟨by rw [getL_path, if_neg h0], by
    have hi := (hpath 2).resolve_left h0
    have := h.inv.ok _ hi.1
    rw [hi.2] at this
    exact this⟩
  have hp0 : pathR F r pg 0 = r := rfl
  have HP0 := Lib.hid hp0
  clear h hL hr hF hr' hpath t1 hF1 hbound hE1 hp0
  go_enter Try.func17, Try.ntmps17
  go_upto_block 1 with (first
    | (go_at_call 37; ((with_reducible refine CN.out.mono ?_); rintro e ww ⟨rfl, rfl⟩))
    | (go_at_call 38; ((with_reducible refine CI.out.mono ?_); rintro e ww ⟨rfl, rfl⟩))
    | (go_at_call 39; ((with_reducible refine (CG.out _).mono ?_); rintro e ww ⟨rfl, rfl⟩)))
  obtain ⟨w1, hw1⟩ : ∃ w1, w.alloc (.cells #[.int .i64 0, .int .i64 0, .int .i64 0, .int .i64 0] 33) = w1 := ⟨_, rfl⟩
  have hE1 : EntAt w1 w.heap.size zeroE := hw1 ▸ HE1.out
  rw [hw1] at HB HF1
  rw [hw1]
  clear HE1 CN CI CG
  have hfz : ∀ j, w1.frozen? ⟨w.heap.size, j, none⟩ = false := fun j => by
    rw [← hw1]
    have := (MapKept.heap_alloc w (.cells #[.int .i64 0, .int .i64 0, .int .i64 0, .int .i64 0] 33)).1
    unfold World.frozen?
    simp only []
    rw [this]
    rfl
  have HE1 := Lib.hid hE1
  have HFz := Lib.hid hfz
  have hBe : ∃ B, w.heap.size = B := ⟨_, rfl⟩
  obtain ⟨B, hBe⟩ := hBe
  have HBe := Lib.hid hBe
  rw [hBe] at HE1 HFz HB
  rw [hBe]
  clear hw1 hE1 hfz hBe
  go_loopw [1, 25] (fun r' v wr => ∃ j N : Nat, j ≤ 2 ∧ v = .int .i64 j ∧ r' = .int .i64 (pathR F r pg j : Nat) ∧ wr = w1.drewN N) (fun _ v _ => 2 - (intOf v).toNat)
  case atStart => exact ⟨0, 0, by omega, rfl, rfl, rfl⟩
  case round =>
    obtain ⟨j, N, hj, rfl, rfl, hwr⟩ := hrel
    have HWr := Lib.hid hwr
    have HFr : Hid (FoAt wr p F) := by
      rw [hwr]
      exact HF1.out.calm ((Turned.refl [] w1).drewN N)
    have HEr : Hid (EntAt wr B zeroE) := by
      rw [hwr]
      exact HE1.out.turned ((Turned.refl [] w1).drewN N) (by simp)
    have HBr : Hid (Below B w wr) := by
      rw [hwr]
      have hb := HB.out
      rw [← HBe.out] at hb ⊢
      exact Turned.below_of hb ((Turned.refl [] w1).drewN N) (by simp)
    have HFzr : Hid (∀ j, wr.frozen? ⟨B, j, none⟩ = false) := by
      rw [hwr]
      exact HFz.out
    clear hwr
    obtain ⟨k, hk⟩ : ∃ k, pathR F r pg j = k := ⟨_, rfl⟩
    have HK := Lib.hid hk
    rw [hk]
    clear hk
    by_cases h0 : k = 0
    · have hg : Hid (getL 2 F r pg = none) := HZ.out j hj (HK.out.trans h0)
      have hE := HEr.out
      have c0 := hE.c0
      have c1 := hE.c1
      have c2 := hE.c2
      have c3 := hE.c3
      obtain ⟨hP, hT⟩ := hE.put zeroE
      have g0 := hP.c0
      have g1 := hP.c1
      have g2 := hP.c2
      have g3 := hP.c3
      unfold putE at g0 g1 g2 g3 hT
      simp only [zeroE] at c0 c1 c2 c3 g0 g1 g2 g3 hT
      have HBf : Hid (Below w.heap.size w ((((wr.setCell ⟨B, 0, none⟩ (.int .i64 0)).setCell ⟨B, 1, none⟩ (.int .i64 0)).setCell ⟨B, 2, none⟩ (.int .i64 0)).setCell ⟨B, 3, none⟩ (.int .i64 0))) := by
        have hb := HBr.out
        rw [← HBe.out] at hb ⊢
        exact Turned.below_of hb (HBe.out.symm ▸ hT) (fun i hi => by simp at hi; omega)
      have f0 := HFzr.out 0
      have f1 := HFzr.out 1
      have f2 := HFzr.out 2
      have f3 := HFzr.out 3
      clear hE hP hT
      subst h0
      by_cases hlt : j < 2
      · go_wp2
        refine bodyPost_ret (v := .tuple #[.agg #[.int .i64 0, .int .i64 0, .int .i64 0, .int .i64 0], .bool false]) (by simp [results, Try.results17, go_sem, g0, g1, g2, g3]) rfl (get_none hg.out HBf.out)
      · go_wp2
        refine bodyPost_ret (v := .tuple #[.agg #[.int .i64 0, .int .i64 0, .int .i64 0, .int .i64 0], .bool false]) (by simp [results, Try.results17, go_sem, g0, g1, g2, g3]) rfl (get_none hg.out HBf.out)
    · have hkb : ((k : Int) == 0) = false := by simpa using h0
      have HKn : Hid (pathR F r pg j ≠ 0) := by
        show pathR F r pg j ≠ 0
        rw [HK.out]; exact h0
      by_cases hlt : j < 2
      · obtain ⟨i0, _, i2, _⟩ := HIn.out wr HFr.out j hj HKn.out
        have i1 : ∀ nn, (Instr.lookup 86 (.map (some p.m)) (.int .i64 (k : Nat)) false).run Try.prog (wr.drewN nn) = .ok (.pointer (some ⟨p.blk k, 0, none⟩)) (wr.drewN nn) := fun nn => by
          have := (HIn.out (wr.drewN nn) (HFr.out.calm ((Turned.refl [] wr).drewN nn)) j hj HKn.out).2.1
          rw [HK.out] at this
          exact this
        rw [HK.out] at i2
        obtain ⟨i, hi⟩ : ∃ i, partN pg j = i := ⟨_, rfl⟩
        have hi0 : (0 : Int) ≤ (i : Int) := by omega
        have hi1 : (i : Int) < 16 := by have := partN_lt pg j; omega
        have HC := Lib.hid (CP.out j hj)
        rw [hi] at i2 HC
        clear hi h0
        obtain ⟨k', hk'⟩ : ∃ k', pathR F r pg (j + 1) = k' := ⟨_, rfl⟩
        have HK' := Lib.hid hk'
        rw [hk'] at i2
        clear hk'
        go_upto_region 7 with fail
        go_quiet ((go_at_call 44; exact Calls.quiet_of_same (HC.out _)))
        go_wp2
        go_roundw
        case rel => exact ⟨j + 1, N + nq, by omega, by go_num, by rw [HK'.out], by rw [HWr.out]; simp⟩
        case measure => simp [intOf]; omega
      · have hj2 : j = 2 := by omega
        subst hj2
        obtain ⟨i0, _, _, iN, iNe⟩ := HIn.out wr HFr.out 2 hj HKn.out
        have i1 : ∀ nn, (Instr.lookup 86 (.map (some p.m)) (.int .i64 (k : Nat)) false).run Try.prog (wr.drewN nn) = .ok (.pointer (some ⟨p.blk k, 0, none⟩)) (wr.drewN nn) := fun nn => by
          have := (HIn.out (wr.drewN nn) (HFr.out.calm ((Turned.refl [] wr).drewN nn)) 2 hj HKn.out).2.1
          rw [HK.out] at this
          exact this
        rw [HK.out] at iN
        obtain ⟨hg1, hok⟩ := HLf.out HKn.out
        rw [HK.out] at hg1 hok
        obtain ⟨hg2, hg3⟩ := leaf_getD hok pg
        rw [← hg1] at hg2 hg3
        obtain ⟨i, hi⟩ : ∃ i, partN pg 2 = i := ⟨_, rfl⟩
        have hi16 := partN_lt pg 2
        have HC : Hid (∀ w, Calls Try.prog 44 #[.int .i64 (pg : Nat), .int .i64 2] w fun e w' => e = .returned (.int .i64 (i : Nat)) ∧ w' = w) := fun w => by
          have := CP.out 2 (by omega) w
          rw [hi] at this
          exact this
        rw [hi] at hg2 hg3 hi16
        have hi0 : (0 : Int) ≤ (i : Int) := by omega
        have hi1 : (i : Int) < 16 := by omega
        have k0 := iN.ent i 0 hi16 (by omega)
        have k1 := iN.ent i 1 hi16 (by omega)
        have k2 := iN.ent i 2 hi16 (by omega)
        have k3 := iN.ent i 3 hi16 (by omega)
        have c80 := iN.bits
        have hbo := bit_ofI (F.nd k).bits i hok.bits.1
        simp only [Nat.add_zero] at k0
        obtain ⟨y, hy⟩ : ∃ y, (F.nd k).ents i = y := ⟨_, rfl⟩
        rw [hy] at k0 k1 k2 k3 hg2
        obtain ⟨o, ho⟩ : ∃ o, getL 2 F r pg = o := ⟨_, rfl⟩
        rw [ho] at hg2 hg3
        have HG : Hid (getL 2 F r pg = o ∧ o.getD zeroE = y ∧ o.isSome = (F.nd k).bits.testBit i) := ⟨ho, hg2, hg3⟩
        generalize (F.nd k).bits = u at *
        obtain ⟨⟨ye, yc, yi⟩, yg⟩ := y
        clear hi h0 hg1 hok hg2 hg3 ho iN hi16
        rw [HK.out, HBe.out] at iNe
        have hne : p.blk k ≠ B := iNe
        have hcases : (u.testBit i = true ∧ bits BinOp.and IntKind.u16 ((u : Int) / 2 ^ i) 1 = 1) ∨ (u.testBit i = false ∧ bits BinOp.and IntKind.u16 ((u : Int) / 2 ^ i) 1 = 0) := by
          cases hb : u.testBit i
          · right; rw [hb] at hbo; exact ⟨rfl, hbo⟩
          · left; rw [hb] at hbo; exact ⟨rfl, hbo⟩
        clear hbo iNe hy
        go_upto_region 11 with fail
        go_quiet ((go_at_call 44; exact Calls.quiet_of_same (HC.out _)))
        go_upto_region 12 with fail
        have q0 : (wr.drewN nq).cell? ⟨p.blk k, 16 + i * 4, none⟩ = some (.int .i64 ye) := k0
        have q1 : (wr.drewN nq).cell? ⟨p.blk k, 16 + i * 4 + 1, none⟩ = some (.int .i64 yc) := k1
        have q2 : (wr.drewN nq).cell? ⟨p.blk k, 16 + i * 4 + 2, none⟩ = some (.int .i64 yi) := k2
        have q3 : (wr.drewN nq).cell? ⟨p.blk k, 16 + i * 4 + 3, none⟩ = some (.int .i64 yg) := k3
        have q8 : (wr.drewN nq).cell? ⟨p.blk k, 80, none⟩ = some (.int .u16 u) := c80
        have hE0 : EntAt (wr.drewN nq) B zeroE := HEr.out.turned ((Turned.refl [] wr).drewN nq) (by simp)
        have hf : ∀ j, (wr.drewN nq).frozen? ⟨B, j, none⟩ = false := HFzr.out
        have HBq : Hid (Below B w (wr.drewN nq)) := by
          have hb := HBr.out
          rw [← HBe.out] at hb ⊢
          exact Turned.below_of hb ((Turned.refl [] wr).drewN nq) (by simp)
        generalize wr.drewN nq = wq at *
        have c0 := hE0.c0
        have c1 := hE0.c1
        have c2 := hE0.c2
        have c3 := hE0.c3
        have f0 := hf 0
        have f1 := hf 1
        have f2 := hf 2
        have f3 := hf 3
        obtain ⟨hP0, hT0⟩ := hE0.put ⟨⟨ye, yc, yi⟩, yg⟩
        have hT := hT0.drew
        have hP := hP0.turned (Turned.refl [] _).drew (by simp)
        have g0 := hP.c0
        have g1 := hP.c1
        have g2 := hP.c2
        have g3 := hP.c3
        have HBf : Hid (Below B w (putE wq B ⟨⟨ye, yc, yi⟩, yg⟩).drew) := by
          have hb := HBq.out
          rw [← HBe.out] at hb ⊢
          exact Turned.below_of hb (HBe.out.symm ▸ hT) (fun i hi => by simp at hi; omega)
        have hK1 := And.intro (hT.cell q0 (by simpa using hne)) (And.intro (hT.cell q1 (by simpa using hne)) (And.intro (hT.cell q2 (by simpa using hne)) (And.intro (hT.cell q3 (by simpa using hne)) (hT.cell q8 (by simpa using hne)))))
        unfold putE at g0 g1 g2 g3 HBf hK1
        simp only [zeroE] at c0 c1 c2 c3
        simp only at hK1
        have K0 : Hid (wq.drew.cell? ⟨p.blk k, 16 + i * 4, none⟩ = some (.int .i64 ye) ∧ wq.drew.cell? ⟨p.blk k, 16 + i * 4 + 1, none⟩ = some (.int .i64 yc) ∧ wq.drew.cell? ⟨p.blk k, 16 + i * 4 + 2, none⟩ = some (.int .i64 yi) ∧ wq.drew.cell? ⟨p.blk k, 16 + i * 4 + 3, none⟩ = some (.int .i64 yg) ∧ wq.drew.cell? ⟨p.blk k, 80, none⟩ = some (.int .u16 u)) := ⟨q0, q1, q2, q3, q8⟩
        have K1 := Lib.hid hK1
        have HFin : Hid (∀ b, u.testBit i = b → getPost (getL 2 F r pg) w (.returned (.tuple #[.agg #[.int .i64 ye, .int .i64 yc, .int .i64 yi, .int .i64 yg], .bool b])) ((((wq.setCell ⟨B, 0, none⟩ (.int .i64 ye)).setCell ⟨B, 1, none⟩ (.int .i64 yc)).setCell ⟨B, 2, none⟩ (.int .i64 yi)).setCell ⟨B, 3, none⟩ (.int .i64 yg)).drew) := fun b hb => by
          obtain ⟨a1, a2, a3⟩ := HG.out
          refine ⟨?_, by rw [HBe.out]; exact HBf.out⟩
          rw [a1, a2, a3, hb]
        have HGs := Lib.hid (And.intro g0 (And.intro g1 (And.intro g2 g3)))
        clear hE0 hf hP hT hP0 hT0 k0 k1 k2 k3 c80 i0 i1 hne hK1 q0 q1 q2 q3 q8 g0 g1 g2 g3
        rcases hcases with ⟨hub, hbo⟩ | ⟨hub, hbo⟩
        all_goals
          have HU := Lib.hid hub
          clear hub
          go_region_held3 (fun w' => w'.cell? ⟨p.blk k, 16 + i * 4, none⟩ = some (.int .i64 ye) ∧ w'.cell? ⟨p.blk k, 16 + i * 4 + 1, none⟩ = some (.int .i64 yc) ∧ w'.cell? ⟨p.blk k, 16 + i * 4 + 2, none⟩ = some (.int .i64 yi) ∧ w'.cell? ⟨p.blk k, 16 + i * 4 + 3, none⟩ = some (.int .i64 yg) ∧ w'.cell? ⟨p.blk k, 80, none⟩ = some (.int .u16 u)) (first | with_reducible exact K0.out | with_reducible exact K1.out | go_keep) (fail)
        all_goals
          obtain ⟨g0, g1, g2, g3⟩ := HGs.out
          go_wp2
        · refine bodyPost_ret (v := .tuple #[.agg #[.int .i64 ye, .int .i64 yc, .int .i64 yi, .int .i64 yg], .bool true]) (by simp [results, Try.results17, go_sem, g0, g1, g2, g3]) rfl (HFin.out true HU.out)
        · refine bodyPost_ret (v := .tuple #[.agg #[.int .i64 ye, .int .i64 yc, .int .i64 yi, .int .i64 yg], .bool false]) (by simp [results, Try.results17, go_sem, g0, g1, g2, g3]) rfl (HFin.out false HU.out)
end Go.Proofs.Ytmpbhoijkcanmaa.R
