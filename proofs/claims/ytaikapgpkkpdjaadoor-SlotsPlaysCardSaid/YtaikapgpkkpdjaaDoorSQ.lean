/- Slots: those that are due are free. -/
import Derived.Test.YtaikapgpkkpdjaaDoorSP
import Derived.StillTailTactics
namespace Go.Proofs.YtaikapgpkkpdjaaDoor.L
open Go.ChangeShapes Go.WideShapes Go.ChangeAt Go.RowKit Go.Maps Go.Proofs.YtaikapgpkkpdjaaDoor.G Go.Sort Go.Shelf Go.Lib
set_option linter.unusedVariables false
set_option linter.unusedSimpArgs false

/-- a number without a bit -/
def clr (u t : Nat) : Nat := u &&& (2 ^ 64 - (2 ^ t + 1))
theorem clr_lt (u t : Nat) (hu : u < 2 ^ 64) : clr u t < 2 ^ 64 := Nat.lt_of_le_of_lt Nat.and_le_left hu
theorem clr_bit (u t j : Nat) (hu : u < 2 ^ 64) (ht : t < 64) : (clr u t).testBit j = (u.testBit j && decide (j ≠ t)) := by
  have hp : 2 ^ t < 2 ^ 64 := Nat.pow_lt_pow_right (by omega) ht
  unfold clr
  rw [Nat.testBit_and, Nat.testBit_two_pow_sub_succ hp, Nat.testBit_two_pow]
  by_cases hj : j < 64
  · simp [hj, eq_comm]
  · have : u.testBit j = false := Nat.testBit_lt_two_pow (Nat.lt_of_lt_of_le hu (Nat.pow_le_pow_right (by omega) (by omega)))
    simp [this]
theorem andnot_bit (u t : Nat) (hu : u < 2 ^ 64) (ht : t < 64) : bits BinOp.andNot IntKind.u64 (u : Int) (IntKind.u64.wrap (2 ^ t)) = ((clr u t : Nat) : Int) := by
  have hp : 2 ^ t < 2 ^ 64 := Nat.pow_lt_pow_right (by omega) ht
  have hw : IntKind.u64.wrap (2 ^ t) = ((2 ^ t : Nat) : Int) := by
    have : ((2 : Int) ^ t) = ((2 ^ t : Nat) : Int) := by rw [Int.natCast_pow]; rfl
    rw [this, IntKind.wrap_u64]
    generalize 2 ^ t = P at *
    omega
  rw [hw]
  show IntKind.u64.wrap ((BitVec.ofInt 64 (u : Int) &&& ~~~ BitVec.ofInt 64 ((2 ^ t : Nat) : Int)).toNat : Int) = _
  rw [BitVec.toNat_and, BitVec.toNat_not, BitVec.ofInt_natCast, BitVec.ofInt_natCast, BitVec.toNat_ofNat, BitVec.toNat_ofNat, Nat.mod_eq_of_lt hu, Nat.mod_eq_of_lt hp, IntKind.wrap_u64]
  have := clr_lt u t hu
  unfold clr at *
  rw [show 2 ^ 64 - 1 - 2 ^ t = 2 ^ 64 - (2 ^ t + 1) by omega]
  omega

/-- a slot is freed -/
def dropX (ex : Exts) (x : Slot) : Exts := upd ex x.e.toNat (if clr (ex x.e.toNat).2 x.i.toNat = 0 then 0 else (ex x.e.toNat).1, clr (ex x.e.toNat).2 x.i.toNat)
def exD (ex : Exts) (ys : List Slot) : Exts := ys.foldl dropX ex
def lD (l : States) (ys : List Slot) : States := ys.foldl mdel l
theorem take_snoc {α : Type} (ys : List α) (k : Nat) (h : k < ys.length) : ys.take (k + 1) = ys.take k ++ [ys[k]] := by rw [List.take_succ_eq_append_getElem h]

structure DueOn (w wr : World) (bs be bm n : Nat) (pg : Int) (ex : Exts) (l : States) (v : Value) (ys : List Slot) : Prop where
  slots : SlotsAt wr bs be bm n pg ex l
  row : wr.ownsRow (w.heap.size + 1) 24 3 v ys.length (flat ys)
  turned : Turned [be, bm] w wr
  old : bs < w.heap.size ∧ be < w.heap.size ∧ bm < w.heap.size
theorem DueOn.calm {w wr w3 : World} {bs be bm n : Nat} {pg : Int} {ex : Exts} {l : States} {v : Value} {ys : List Slot} (h : DueOn w wr bs be bm n pg ex l v ys) (t : Turned [] wr w3) : DueOn w w3 bs be bm n pg ex l v ys :=
  ⟨h.slots.calm t, owns_turned h.row t (by simp), h.turned.trans t.nil_mono, h.old⟩
theorem DueOn.setX {w ww : World} {bs be bm n : Nat} {pg : Int} {ex ex' : Exts} {l : States} {v : Value} {ys : List Slot} (h : DueOn w ww bs be bm n pg ex l v ys) {j : Nat} {u : Value} (hr : ExtsAt (ww.setCell ⟨be, j, none⟩ u) be n ex') : DueOn w (ww.setCell ⟨be, j, none⟩ u) bs be bm n pg ex' l v ys := by
  have t : Turned [be] ww (ww.setCell ⟨be, j, none⟩ u) := (Turned.refl [be] ww).setCell (.inl (by simp)) _
  have := h.old
  exact ⟨h.slots.rowset hr, owns_turned h.row t (by simp; omega), h.turned.trans (t.mono fun k _ hk => by simp at hk; simp [hk]), h.old⟩
theorem DueOn.setM {w ww w9 : World} {bs be bm n : Nat} {pg : Int} {ex : Exts} {l l' : States} {v : Value} {ys : List Slot} (hh : DueOn w ww bs be bm n pg ex l v ys) (hm : MapIs Tryd.prog 24 encS w9 bm l') (ht : Turned [bm] ww w9) : DueOn w w9 bs be bm n pg ex l' v ys := by
  have h := hh.slots
  have := hh.old
  exact ⟨⟨ht.cell h.page (by simpa using h.n2.symm), ht.cell h.exts (by simpa using h.n2.symm), ht.cell h.states (by simpa using h.n2.symm), h.rows.turned ht (by simpa using h.n3), hm, h.tab.turned ht (by simpa using h.z2), h.n1, h.n2, h.n3, h.z1, h.z2⟩,
    owns_turned hh.row ht (by simp; omega), hh.turned.trans (ht.mono fun k _ hk => by simp at hk; simp [hk]), hh.old⟩
theorem DueOn.cells {w wr : World} {bs be bm n : Nat} {pg : Int} {ex : Exts} {l : States} {a : Option Addr} {m cap : Nat} {ys : List Slot} (h : DueOn w wr bs be bm n pg ex l (.slice a m cap) ys) (i : Nat) (hi : i < ys.length) :
    ∃ g, a = some ⟨g, 0, none⟩ ∧ m ≤ cap ∧ w.heap.size + 1 ≤ g ∧ wr.cell? ⟨g, i * 3, none⟩ = some (.int .i64 ys[i].e) ∧ wr.cell? ⟨g, i * 3 + 1, none⟩ = some (.int .i64 ys[i].c) ∧ wr.cell? ⟨g, i * 3 + 2, none⟩ = some (.int .i64 ys[i].i) := by
  have hown := h.row
  rcases hown.2 with ⟨e, h0⟩ | ⟨g, cap', cur, e, hg, _, hcap, _⟩
  · omega
  · simp only [Value.slice.injEq] at e
    obtain ⟨rfl, e1, rfl⟩ := e
    obtain ⟨a', cap'', e, hs, _⟩ := sl3_of_owns h.row
    simp only [Value.slice.injEq] at e
    obtain ⟨rfl, e2, rfl⟩ := e
    rcases hs.2 with h0 | ⟨b, off, e, hc⟩
    · omega
    · simp only [Option.some.injEq, Addr.mk.injEq] at e
      obtain ⟨rfl, rfl, _⟩ := e
      have := hc i hi
      exact ⟨_, rfl, by omega, hg, by simpa using this⟩

/-- what is answered, and stands then -/
def duePost (bs be bm n : Nat) (pg : Int) (ex : Exts) (l : States) (ep : Nat) (w : World) (e : Ending) (w' : World) : Prop :=
  ∃ v ys, e = .returned v ∧ ys.Perm (pick (dueV ep) l) ∧ ys.Pairwise leS ∧ w'.ownsRow w.heap.size 24 3 v ys.length (flat ys) ∧ SlotsAt w' bs be bm n pg (exD ex ys) (lD l ys) ∧ Turned [be, bm] w w'

set_option maxRecDepth 100000 in
set_option maxHeartbeats 4000000 in
theorem due_fn (bs be bm n : Nat) (pg : Int) (ex : Exts) (l : States) (ep : Nat) (w : World) (h : SlotsAt w bs be bm n pg ex l) (hst : Stated l) (hl : l.length ≤ 1048576)
    (hin : ∀ p ∈ l, (0 ≤ p.1.e ∧ p.1.e < n) ∧ (0 ≤ p.1.i ∧ p.1.i < 64)) :
    Calls Tryd.prog 23 #[.pointer (some ⟨bs, 0, none⟩), .int .u64 ep] w (duePost bs be bm n pg ex l ep w) := by
  have T1 : Turned [] w (w.alloc (.cells #[.int .u64 ep] 38)) := (Turned.refl [] w).alloc _
  have hbs : bs < w.heap.size := lt_of_cell h.states
  have hold : bs < w.heap.size ∧ be < w.heap.size ∧ bm < w.heap.size := ⟨hbs, h.rows.row.lt, h.map.lt⟩
  have C := Lib.hid (those43 bs be bm n pg ex l (w.alloc (.cells #[.int .u64 ep] 38)) ep ⟨w.heap.size, 0, none⟩ (cell_new0 w _ 38 _ rfl) (h.calm T1) hst hl)
  have HIn : Hid (∀ ys : List Slot, ys.Perm (pick (dueV ep) l) → ys.length ≤ 1048576 ∧ ∀ x ∈ ys, ((0 ≤ x.e ∧ x.e < n) ∧ (0 ≤ x.i ∧ x.i < 64)) ∧ (I64 x.e ∧ I64 x.c ∧ I64 x.i)) := by
    intro ys hp
    refine ⟨by rw [hp.length_eq]; exact Nat.le_trans (pick_len _ _) hl, fun x hx => ?_⟩
    have hx2 := hp.subset hx
    unfold pick at hx2
    obtain ⟨p, hp1, rfl⟩ := List.mem_map.1 hx2
    have hp2 := (List.mem_filter.1 hp1).1
    exact ⟨hin p hp2, (hst p hp2).1⟩
  have H0 := Lib.hid (h.calm T1)
  have HT1 := Lib.hid T1
  have hn := h.rows.few
  have HOld := Lib.hid hold
  clear h hst hl hin hold
  unfold duePost
  go_enter Tryd.func23, Tryd.ntmps23
  go_wp2_with (go_at_call 35; ((with_reducible refine C.out.mono ?_); rintro e' w5 ⟨v, ys, rfl, hrest⟩; have HR := Lib.hid hrest; clear hrest; obtain ⟨a, cap, rfl, _⟩ := sl3_of_owns HR.out.2.2.1))
  obtain ⟨y1, y2, y3, y4⟩ := HR.out
  have hbase : (w.alloc (.cells #[.int .u64 ep] 38)).heap.size = w.heap.size + 1 := by simp
  rw [hbase] at y3
  obtain ⟨m, hm⟩ : ∃ m, ys.length = m := ⟨_, rfl⟩
  have D0 : Hid (DueOn w w5 bs be bm n pg ex l (.slice a m cap) ys) := ⟨H0.out.calm (Turned.of_below y4), hm ▸ y3, (HT1.out.trans (Turned.of_below y4)).nil_mono, HOld.out⟩
  have hys := HIn.out ys y1
  have HYs := Lib.hid hys.2
  have HY := Lib.hid (And.intro y1 y2)
  have hyl := hys.1
  rw [hm] at hyl
  rw [hm]
  have HM := Lib.hid hm
  clear hm hys y1 y2 y3 y4 HIn HR C H0 hbase HT1 T1
  go_loopw [14] (fun i wr => ∃ k : Nat, k ≤ m ∧ i = .int .i64 k ∧ Hid (DueOn w wr bs be bm n pg (exD ex (ys.take k)) (lD l (ys.take k)) (.slice a m cap) ys)) (fun i _ => m - (intOf i).toNat)
  case atStart => exact ⟨0, Nat.zero_le _, rfl, D0.out⟩
  case round =>
    obtain ⟨k, hk, rfl, hD⟩ := hrel
    by_cases hlt : k < m
    · have hlt' : k < ys.length := by rw [HM.out]; exact hlt
      obtain ⟨g, rfl, hcap, hgw, c0, c1, c2⟩ := hD.out.cells k hlt'
      have hx := HYs.out ys[k] (List.getElem_mem hlt')
      have HTk := Lib.hid (take_snoc ys k hlt')
      obtain ⟨x, hxx⟩ : ∃ x, ys[k] = x := ⟨_, rfl⟩
      rw [hxx] at c0 c1 c2 hx HTk
      obtain ⟨xe, xc, xi⟩ := x
      simp only at hx c0 c1 c2
      obtain ⟨E, rfl⟩ : ∃ E : Nat, xe = E := ⟨xe.toNat, by omega⟩
      obtain ⟨I, rfl⟩ : ∃ I : Nat, xi = I := ⟨xi.toNat, by omega⟩
      have hE : E < n := by omega
      have hI : I < 64 := by omega
      have hkl : k < 1048576 := by omega
      clear hxx hlt' D0
      have DA : Hid (DueOn w (wr.alloc (.cells #[.int .i64 E, .int .i64 xc, .int .i64 I] 24)) bs be bm n pg (exD ex (ys.take k)) (lD l (ys.take k)) (.slice (some ⟨g, 0, none⟩) m cap) ys) := hD.out.calm ((Turned.refl [] wr).alloc _)
      have RA : Hid (ResAt (wr.alloc (.cells #[.int .i64 E, .int .i64 xc, .int .i64 I] 24)) wr.heap.size ⟨E, xc, I⟩) := res_new wr ⟨E, xc, I⟩
      have HWR : Hid (w.heap.size ≤ wr.heap.size) := hD.out.turned.size
      go_upto_region 5 with fail
      clear hD c0 c1 c2
      generalize wr.alloc (.cells #[.int .i64 E, .int .i64 xc, .int .i64 I] 24) = w1 at *
      obtain ⟨b7, hb7⟩ : ∃ b7, wr.heap.size = b7 := ⟨_, rfl⟩
      rw [hb7] at RA HWR
      rw [hb7]
      clear hb7
      have DB := Lib.hid (DA.out.calm (Turned.refl [] w1).drew)
      have RB := Lib.hid (RA.out.turned (Turned.refl [] w1).drew (by simp))
      have s1 := DA.out.slots.states
      have s2 := RA.out.c0
      have s3 := RA.out.c1
      have s4 := RA.out.c2
      simp only at s2 s3 s4
      go_still_tail 5, (by kernel_rfl)
      change wpList _ _ _ _ _ w1.drew
      generalize w1.drew = w2 at *
      clear s1 s2 s3 s4 DA RA
      obtain ⟨kk, hkk⟩ := key24 ⟨E, xc, I⟩ hx.2
      have HKK := Lib.hid hkk
      clear hkk
      have HN9 : Hid (∀ w9 : World, MapIs Tryd.prog 24 encS w9 bm (mdel (lD l (ys.take k)) ⟨E, xc, I⟩) → Turned [bm] w2 w9 → DueOn w w9 bs be bm n pg (exD ex (ys.take k)) (mdel (lD l (ys.take k)) ⟨E, xc, I⟩) (.slice (some ⟨g, 0, none⟩) m cap) ys ∧ ResAt w9 b7 ⟨E, xc, I⟩) := by
        intro w9 hm9 ht9
        exact ⟨DB.out.setM hm9 ht9, RB.out.turned ht9 (by have := DB.out.old; have := HWR.out; simp; omega)⟩
      go_upto_region 6 with (first | (at_delete; refine wp_del _ rfl _ _ 64 24 rfl keyed24 encS_inj Tryd.underlying64 bm _ rfl DB.out.slots.map ⟨E, xc, I⟩ rfl HKK.out ?_; intro w9 hm9 ht9; obtain ⟨h9, h9'⟩ := HN9.out w9 hm9 ht9; have D9 := Lib.hid h9; have R9 := Lib.hid h9'; clear hm9 ht9 h9 h9'))
      go_frame
      clear HN9 DB RB HKK
      have s1 := D9.out.slots.exts
      have s2 := R9.out.c0
      have s3 := R9.out.c1
      have s4 := R9.out.c2
      simp only at s2 s3 s4
      go_quiet (fail)
      have D10 := Lib.hid (D9.out.calm ((Turned.refl [] w9).drewN nq))
      have R10 := Lib.hid (R9.out.turned ((Turned.refl [] w9).drewN nq) (by simp))
      generalize w9.drewN nq = w10 at *
      go_upto_region 7 with fail
      clear s1 s2 s3 s4 D9 R9
      obtain ⟨X, hX⟩ : ∃ X, exD ex (ys.take k) = X := ⟨_, rfl⟩
      obtain ⟨Y, hY⟩ : ∃ Y, mdel (lD l (ys.take k)) ⟨E, xc, I⟩ = Y := ⟨_, rfl⟩
      rw [hX, hY] at D10
      have HXY : Hid (dropX X ⟨E, xc, I⟩ = exD ex (ys.take (k + 1)) ∧ Y = lD l (ys.take (k + 1))) := by
        rw [HTk.out, ← hX, ← hY]
        exact ⟨by unfold exD; rw [List.foldl_append]; rfl, by unfold lD; rw [List.foldl_append]; rfl⟩
      clear hX hY HTk
      have s1 := D10.out.slots.rows.c1 E hE
      have s2 := R10.out.c2
      simp only at s2
      have hfit := D10.out.slots.rows.fit E hE
      have HDr : Hid (dropX X ⟨E, xc, I⟩ = upd X E (if clr (X E).2 I = 0 then 0 else (X E).1, clr (X E).2 I)) := Lib.hid (by unfold dropX; simp)
      have D11 := Lib.hid (D10.out.calm (Turned.refl [] w10).drew)
      have s5 := D11.out.slots.rows.row.frozen (E * 2 + 1)
      have s6 := D11.out.slots.rows.c1 E hE
      obtain ⟨U, hU⟩ : ∃ U, (X E).2 = U := ⟨_, rfl⟩
      obtain ⟨cl, hcl⟩ : ∃ cl, (X E).1 = cl := ⟨_, rfl⟩
      rw [hU] at s1 s6
      rw [hU, hcl] at hfit HDr
      have hor := andnot_bit U I hfit.2 hI
      have HU := Lib.hid (And.intro hU hcl)
      clear hU hcl
      obtain ⟨V, hV⟩ : ∃ V, clr U I = V := ⟨_, rfl⟩
      have hV64 := clr_lt U I hfit.2
      rw [hV] at hV64 hor HDr
      clear hV
      have HV64 : Hid (V < 2 ^ 64) := hV64
      go_still_tail 10, (by kernel_rfl)
      change wpList _ _ _ _ _ w10.drew
      generalize w10.drew = w11 at *
      have D12 : Hid (DueOn w (w11.setCell ⟨be, E * 2 + 1, none⟩ (.int .u64 V)) bs be bm n pg (upd X E (cl, V)) Y (.slice (some ⟨g, 0, none⟩) m cap) ys) := by
        have := D11.out.slots.rows.set1 E V hV64 hE
        rw [HU.out.2] at this
        exact D11.out.setX this
      clear D10 D11 R10 s1 s2
      go_upto_region 8 with fail
      clear s5 s6 hor
      generalize w11.setCell ⟨be, E * 2 + 1, none⟩ (.int .u64 V) = w12 at *
      have t1 := D12.out.slots.rows.c1 E hE
      rw [upd_same] at t1
      simp only at t1
      by_cases hv0 : V = 0
      · subst hv0
        have t2 := D12.out.slots.rows.c0 E hE
        have t3 := D12.out.slots.rows.row.frozen (E * 2)
        rw [upd_same] at t2
        simp only at t2
        have D13 : Hid (DueOn w (w12.setCell ⟨be, E * 2, none⟩ (.int .i64 0)) bs be bm n pg (upd X E (0, 0)) Y (.slice (some ⟨g, 0, none⟩) m cap) ys) := by
          have := D12.out.slots.rows.set0 E 0 (by omega) hE
          rw [upd_upd, upd_same] at this
          exact D12.out.setX this
        go_wp2
        go_roundw
        case rel => exact ⟨k + 1, by omega, by go_num, by
          have := D13.out
          rw [← HXY.out.1, ← HXY.out.2, HDr.out, if_pos rfl]
          exact this⟩
        case measure => simp [intOf]; omega
      · have hv1 : ((V : Int) == 0) = false := by simpa using hv0
        have HV0 := Lib.hid hv0
        clear hv0
        go_wp2
        go_roundw
        case rel => exact ⟨k + 1, by omega, by go_num, by
          have := D12.out
          rw [← HXY.out.1, ← HXY.out.2, HDr.out, if_neg HV0.out]
          exact this⟩
        case measure => simp [intOf]; omega
    · have hke : k = m := by omega
      subst hke
      clear hlt
      go_wp2
      go_ret
      have e1 : ys.take k = ys := by rw [← HM.out]; exact List.take_length
      have hD := hD.out
      rw [e1] at hD
      refine ⟨_, ys, rfl, HY.out.1, HY.out.2, ?_, hD.slots, hD.turned⟩
      have := owns_mono hD.row (show w.heap.size ≤ _ by omega)
      rw [HM.out] at this ⊢
      exact this
end Go.Proofs.YtaikapgpkkpdjaaDoor.L
