/- Slots: do they lie apart: the walk. -/
import Derived.Test.YtaikapgpkkpdjaaDoorTF
import Derived.Deep.DeepCutAuto
import Derived.Deep.CutBlock
import Derived.Deep.RegionHeld3
import Derived.IntWalk
namespace Go.Proofs.YtaikapgpkkpdjaaDoor.L
open Go.ChangeShapes Go.WideShapes Go.ChangeAt Go.RowKit Go.Maps Go.Proofs.YtaikapgpkkpdjaaDoor.G Go.Sort Go.Shelf Go.Lib Go.Deep
set_option linter.unusedVariables false
set_option linter.unusedSimpArgs false

theorem info4 : (Tryd.prog.info? 4).map (fun i => (i.zero, i.size, i.bytes)) = some (some (.bool false), 1, 1) := by kernel_rfl

/-- what the law keeps beside slots: all of them, which extents are used, which units -/
structure Ap (w wr : World) (bs be bm n : Nat) (pg : Int) (ex : Exts) (l : States) (g : Option Addr) (m : Nat) (bu bq : Nat) (fu fq : Nat → Bool) : Prop where
  st : St wr bs be bm n pg ex l
  row : RowIs wr g m (allS n ex l) w.heap.size
  used : wr.rowIs bu 4 n (fun k => .bool (fu k))
  units : wr.rowIs bq 4 (64 * n) (fun k => .bool (fq k))
  ne : bu ≠ bq
  far : ∀ x, g = some x → x.block ≠ bu ∧ x.block ≠ bq
  old : bs < w.heap.size ∧ be < w.heap.size ∧ bm < w.heap.size ∧ 0 < w.heap.size
  new : w.heap.size ≤ bu ∧ w.heap.size ≤ bq
  bel : Below w.heap.size w wr
variable {w wr w3 : World} {bs be bm n : Nat} {pg : Int} {ex : Exts} {l : States} {g : Option Addr} {m bu bq : Nat} {fu fq : Nat → Bool}
theorem Ap.calm (h : Ap w wr bs be bm n pg ex l g m bu bq fu fq) (t : Turned [] wr w3) : Ap w w3 bs be bm n pg ex l g m bu bq fu fq :=
  ⟨h.st.calm t, h.row.turned t (by simp), h.used.of_block (t.block _ h.used.lt (by simp)), h.units.of_block (t.block _ h.units.lt (by simp)), h.ne, h.far, h.old, h.new, h.bel.trans (t.below.mono h.bel.size)⟩
theorem Ap.setU (h : Ap w wr bs be bm n pg ex l g m bu bq fu fq) (k : Nat) (fu' : Nat → Bool) (hf : ∀ j, j < n → fu' j = if j = k then true else fu j) : Ap w (wr.setCell ⟨bu, k, none⟩ (.bool true)) bs be bm n pg ex l g m bu bq fu' fq := by
  have t : Turned [bu] wr (wr.setCell ⟨bu, k, none⟩ (.bool true)) := (Turned.refl [bu] wr).setCell (.inl (by simp)) _
  have ho := h.old
  have hn := h.new
  refine ⟨h.st.turned t (by simp; omega) (by simp; omega) (by simp; omega) (by simp; omega), ⟨h.row.1.turned t (fun x hx => by have := (h.far x hx).1; simpa using this), h.row.2.1, h.row.2.2⟩, (h.used.set k _).congr fun j hj => ?_,
    h.units.of_block (t.block _ h.units.lt (by simpa using h.ne.symm)), h.ne, h.far, h.old, h.new, Turned.below_of h.bel t (by intro i hi; simp only [List.mem_singleton] at hi; omega)⟩
  rw [hf j hj]
  by_cases e : j = k
  · rw [if_pos e, if_pos e]
  · rw [if_neg e, if_neg e]
theorem Ap.setQ (h : Ap w wr bs be bm n pg ex l g m bu bq fu fq) (k : Nat) (fq' : Nat → Bool) (hf : ∀ j, j < 64 * n → fq' j = if j = k then true else fq j) : Ap w (wr.setCell ⟨bq, k, none⟩ (.bool true)) bs be bm n pg ex l g m bu bq fu fq' := by
  have t : Turned [bq] wr (wr.setCell ⟨bq, k, none⟩ (.bool true)) := (Turned.refl [bq] wr).setCell (.inl (by simp)) _
  have ho := h.old
  have hn := h.new
  refine ⟨h.st.turned t (by simp; omega) (by simp; omega) (by simp; omega) (by simp; omega), ⟨h.row.1.turned t (fun x hx => by have := (h.far x hx).2; simpa using this), h.row.2.1, h.row.2.2⟩, h.used.of_block (t.block _ h.used.lt (by simpa using h.ne)),
    (h.units.set k _).congr fun j hj => ?_, h.ne, h.far, h.old, h.new, Turned.below_of h.bel t (by intro i hi; simp only [List.mem_singleton] at hi; omega)⟩
  rw [hf j hj]
  by_cases e : j = k
  · rw [if_pos e, if_pos e]
  · rw [if_neg e, if_neg e]
theorem Ap.congr (h : Ap w wr bs be bm n pg ex l g m bu bq fu fq) {fu' fq' : Nat → Bool} (h1 : ∀ j, j < n → fu' j = fu j) (h2 : ∀ j, j < 64 * n → fq' j = fq j) : Ap w wr bs be bm n pg ex l g m bu bq fu' fq' :=
  ⟨h.st, h.row, h.used.congr (fun j hj => by rw [h1 j hj]), h.units.congr (fun j hj => by rw [h2 j hj]), h.ne, h.far, h.old, h.new, h.bel⟩
/-- where a slot of theirs lies -/
theorem Ap.at_call (h : Ap w wr bs be bm n pg ex l g m bu bq fu fq) (u : Int) (hu : pg / 16 = u) (x : Slot) (hx : x ∈ allS n ex l) :
    Calls Tryd.prog 15 #[.pointer (some ⟨bs, 0, none⟩), .agg #[.int .i64 x.e, .int .i64 x.c, .int .i64 x.i]] wr fun e w' => e = .returned (.tuple #[.int .i64 (u * startU x), .int .i64 (u * unitsC x.c), .int .i64 0]) ∧ Ap w w' bs be bm n pg ex l g m bu bq fu fq := by
  have hk := allS_ok h.st.inv hx
  have hk' := hk
  obtain ⟨k1, k2, k3, k4, k5⟩ := hk
  have hs := slotsC_le x.c
  have hn := h.st.at_.rows.few
  have ht : thereB n ex x = true := by
    unfold thereB
    have : classX n ex x.e = x.c := by unfold classX; rw [if_neg (by omega), k4]; omega
    rw [this]
    simp
    omega
  have := at_fn bs be bm n pg ex l x ⟨by unfold I64; omega, by unfold I64; omega, by unfold I64; omega⟩ h.st.pg wr h.st.at_
  rw [if_pos ht] at this
  have e2 : sizeC x.c pg = u * unitsC x.c := by unfold sizeC; rw [h.st.pg, if_pos rfl, hu, Int.mul_comm]
  have e1 : x.e * (pg / 16) * 64 + x.i * sizeC x.c pg = u * startU x := by
    rw [hu, e2]
    unfold startU
    have a1 : x.e * u * 64 = u * (x.e * 64) := by rw [Int.mul_comm x.e u, Int.mul_assoc]
    have a2 : x.i * (u * unitsC x.c) = u * (x.i * unitsC x.c) := by rw [← Int.mul_assoc, Int.mul_comm x.i u, Int.mul_assoc]
    rw [a1, a2, Int.mul_add]
  rw [e1, e2] at this
  exact this.mono fun e w' ⟨h1, h2⟩ => ⟨h1, h.calm (Turned.of_below h2)⟩

theorem Sl3.cellsAt {w : World} {b off n : Nat} {ys : List Slot} (h : Sl3 w (some ⟨b, off, none⟩) n ys) (i : Nat) (hi : i < ys.length) (x : Slot) (hx : ys[i] = x) : w.cell? ⟨b, off + i * 3, none⟩ = some (.int .i64 x.e) ∧ w.cell? ⟨b, off + i * 3 + 1, none⟩ = some (.int .i64 x.c) ∧ w.cell? ⟨b, off + i * 3 + 2, none⟩ = some (.int .i64 x.i) := by
  subst hx
  obtain ⟨b', off', e, c⟩ := h.at i hi
  simp only [Option.some.injEq, Addr.mk.injEq] at e
  obtain ⟨rfl, rfl, _⟩ := e
  exact c
theorem made_bool (W : World) (k : Nat) : (W.alloc (.cells (madeCells #[.bool false] k) 4)).rowIs W.heap.size 4 k (fun _ => .bool false) := World.rowIs_made W (.bool false) k 4

set_option pp.maxSteps 300000 in
set_option maxRecDepth 100000 in
set_option maxHeartbeats 8000000 in
theorem apart_fn (u : Int) (hu : u = 64 ∨ u = 128) (hpg : pg = 16 * u) (hn5 : n ≤ 5) (h : St w bs be bm n pg ex l) :
    Calls Tryd.prog 26 #[.pointer (some ⟨bs, 0, none⟩), .int .i64 n, .int .i64 pg] w fun e w' => e = .returned (.bool true) ∧ Below w.heap.size w w' := by
  have hpu : pg / 16 = u := by omega
  have hpb : 0 ≤ pg ∧ pg ≤ 2048 := by omega
  have HU := Lib.hid (And.intro hu hpg)
  have hub : 64 ≤ u ∧ u ≤ 128 := by omega
  clear hpg hu
  have hlt := h.lt
  have h0 := h.at_.tab.lt
  have hfa := canon_few (so := liveV) h.inv (by omega)
  have hfw := canon_few (so := waitV) h.inv (by omega)
  have HH := Lib.hid h
  have C1 : Hid (∀ ww, St ww bs be bm n pg ex l → Calls Tryd.prog 18 #[.pointer (some ⟨bs, 0, none⟩)] ww fun e w' => ∃ v, e = .returned v ∧ w'.ownsRow ww.heap.size 24 3 v (canon liveV n ex l).length (flat (canon liveV n ex l)) ∧ Below ww.heap.size ww w') := fun ww h => live_any bs be bm n pg ex l ww h
  have C2 : Hid (∀ ww, St ww bs be bm n pg ex l → Calls Tryd.prog 20 #[.pointer (some ⟨bs, 0, none⟩)] ww fun e w' => ∃ v, e = .returned v ∧ w'.ownsRow ww.heap.size 24 3 v (canon waitV n ex l).length (flat (canon waitV n ex l)) ∧ Below ww.heap.size ww w') := fun ww h => waiting_any bs be bm n pg ex l ww h
  have hal := allS_len h.inv
  have hall : (canon liveV n ex l).length + (canon waitV n ex l).length = (allS n ex l).length := by unfold allS; rw [List.length_append]
  have HAll := Lib.hid hall
  obtain ⟨q, hq⟩ : ∃ q : Nat, 64 * n = q := ⟨_, rfl⟩
  have hq1 : (64 : Int) * n = q := by omega
  have HQ := Lib.hid hq
  have hmk1 := fun w => run_make_row' 88 4 (.bool false) 1 Tryd.underlying88 info4 rfl .i64 .i64 n (by omega) (by omega) w
  have hmk2 := fun w => run_make_row' 88 4 (.bool false) 1 Tryd.underlying88 info4 rfl .i64 .i64 q (by omega) (by omega) w
  have HFF := Lib.hid (And.intro hfa hfw)
  have HLt := Lib.hid (And.intro hlt h0)
  have HHal := Lib.hid hal
  clear h hlt h0 hfa hfw hall hq hal
  go_enter Tryd.func26, Tryd.ntmps26
  go_upto_region 2 with (first
    | (go_at_call 18; ((with_reducible refine (C1.out _ HH.out).mono ?_); rintro e w1 ⟨v1, rfl, ho1, hb1⟩; have S1 := Lib.hid (HH.out.calm (Turned.of_below hb1)); have O1 := Lib.hid (And.intro ho1 hb1); clear ho1 hb1))
    | (go_at_call 20; ((with_reducible refine (C2.out _ S1.out).mono ?_); rintro e w2 ⟨v2, rfl, ho2, hb2⟩; have S2 := Lib.hid (S1.out.calm (Turned.of_below hb2)); have O2 := Lib.hid (And.intro (owns_turned O1.out.1 (Turned.of_below hb2) (by simp)) (And.intro ho2 (And.intro (O1.out.2.trans (hb2.mono O1.out.2.size)) O1.out.2.size))); clear ho2 hb2))
    | (at_builtin; refine wpList_append_rows rfl _ _ rfl w.heap.size w1.heap.size _ _ _ _ _ _ rfl O2.out.1 rfl O2.out.2.1 HFF.out.1 HFF.out.2 O2.out.2.2.1.size ?_; intro v3 w3 ho3 hg3; have O3 := Lib.hid (And.intro ho3 hg3); clear ho3 hg3))
  have ho3 := O3.out.1
  rw [HAll.out] at ho3
  have ho3' : w3.ownsRow w.heap.size 24 3 v3 (allS n ex l).length (flat (allS n ex l)) := ho3
  obtain ⟨g, cap, rfl, hs3, hb3⟩ := sl3_of_owns ho3'
  have hbel3 : Below w.heap.size w w3 := O2.out.2.2.1.grown O3.out.2 O2.out.2.2.1.size (fun k hk => own_above O1.out.1 k hk)
  have S3 : Hid (St w3 bs be bm n pg ex l) := HH.out.calm (Turned.of_below hbel3)
  obtain ⟨m, hm⟩ : ∃ m, (allS n ex l).length = m := ⟨_, rfl⟩
  have HM := Lib.hid hm
  have hm2 : m ≤ 320 := by have := HHal.out; omega
  have R3 : Hid (RowIs w3 g m (allS n ex l) w.heap.size) := ⟨hm ▸ hs3, by omega, fun x hx => (hb3 x hx).1⟩
  have B3 := Lib.hid hbel3
  have HG : Hid (∀ x, g = some x → x.block < w3.heap.size) := fun x hx => (hb3 x hx).2
  rw [hm]
  clear hm hs3 hb3 hbel3 ho3 ho3' O1 O2 O3 S1 S2 C1 C2 HAll HFF
  go_upto_block 1 with fail
  have A0 : Hid (Ap w ((w3.alloc (.cells (madeCells #[.bool false] n) 4)).alloc (.cells (madeCells #[.bool false] q) 4)) bs be bm n pg ex l g m w3.heap.size (w3.heap.size + 1) (usedB (allS n ex l) 0) (unitB (allS n ex l) 0)) := by
    have t1 := (Turned.refl [] w3).alloc (.cells (madeCells #[.bool false] n) 4)
    have t2 := (Turned.refl [] (w3.alloc (.cells (madeCells #[.bool false] n) 4))).alloc (.cells (madeCells #[.bool false] q) 4)
    have r1 := made_bool w3 n
    have r2 := made_bool (w3.alloc (.cells (madeCells #[.bool false] n) 4)) q
    have hlt := HLt.out
    refine ⟨S3.out.calm (t1.trans t2), R3.out.turned (t1.trans t2) (by simp), (r1.of_block (t2.block _ r1.lt (by simp))).congr (fun k _ => by simp [usedB]), ?_, by omega, fun x hx => by have := HG.out x hx; omega, ⟨hlt.1.1, hlt.1.2.1, hlt.1.2.2, hlt.2⟩, ⟨B3.out.size, by have := B3.out.size; omega⟩, B3.out.trans ((t1.trans t2).below.mono B3.out.size)⟩
    rw [HQ.out]
    have hsz : (w3.alloc (.cells (madeCells #[.bool false] n) 4)).heap.size = w3.heap.size + 1 := by simp
    rw [hsz] at r2
    exact r2.congr (fun k _ => by simp [unitB])
  generalize (w3.alloc (.cells (madeCells #[.bool false] n) 4)).alloc (.cells (madeCells #[.bool false] q) 4) = W2 at *
  obtain ⟨bu, hbu⟩ : ∃ bu, w3.heap.size = bu := ⟨_, rfl⟩
  rw [hbu] at A0
  rw [hbu]
  clear hbu S3 R3 B3 HG hmk1 hmk2 hq1 HH
  obtain ⟨ubig, h64⟩ : ∃ ubig : Int, 64 * u = ubig := ⟨_, rfl⟩
  have hu64 : 4096 ≤ ubig ∧ ubig ≤ 8192 := by omega
  have hun0 : 0 ≤ ubig * (n : Int) ∧ ubig * (n : Int) ≤ 8192 * 5 := ⟨Int.mul_nonneg (by omega) (by omega), Int.mul_le_mul (by omega) (by omega) (by omega) (by omega)⟩
  obtain ⟨utot, hun⟩ : ∃ utot : Int, ubig * (n : Int) = utot := ⟨_, rfl⟩
  rw [hun] at hun0
  have HUN := Lib.hid (And.intro h64 hun)
  clear h64 hun
  go_loopw [10] (fun v wr => ∃ i : Nat, i ≤ m ∧ v = .int .i64 i ∧ Hid (Ap w wr bs be bm n pg ex l g m bu (bu + 1) (usedB (allS n ex l) i) (unitB (allS n ex l) i))) (fun v _ => m - (intOf v).toNat)
  case atStart => exact ⟨0, Nat.zero_le _, rfl, A0.out⟩
  case round =>
    obtain ⟨i, hi, rfl, hA⟩ := hrel
    by_cases hlt : i < m
    · have him : i < (allS n ex l).length := by rw [HM.out]; exact hlt
      have hxm : (allS n ex l)[i] ∈ allS n ex l := List.getElem_mem him
      obtain ⟨b, off, rfl, k0, k1, k2⟩ := hA.out.row.1.at i him
      have hI := hA.out.st.inv
      have hok := allS_ok hI hxm
      have hin := start_in hok
      have huc := used_succ (allS n ex l) i him
      have hqc := unit_succ (allS n ex l) i him
      have hfree := fun k => unit_free hI i him k
      obtain ⟨x, hx⟩ : ∃ x, (allS n ex l)[i] = x := ⟨_, rfl⟩
      rw [hx] at k0 k1 k2 hxm hok hin huc hqc
      simp only [hx] at hfree
      have hke := hok.1
      obtain ⟨e, he⟩ : ∃ e : Nat, x.e = e := ⟨x.e.toNat, by omega⟩
      obtain ⟨t, ht⟩ : ∃ t : Nat, startU x = t := ⟨(startU x).toNat, by omega⟩
      obtain ⟨v, hv⟩ : ∃ v : Nat, startU x + unitsC x.c = v := ⟨(startU x + unitsC x.c).toNat, by omega⟩
      have CA := hA.out.at_call u hpu x hxm
      have CZ := fun ww => size x.c pg ww
      have hszc : sizeC x.c pg = u * unitsC x.c := by unfold sizeC; rw [hA.out.st.pg, if_pos rfl, hpu, Int.mul_comm]
      rw [hszc] at CZ
      obtain ⟨A, hAe⟩ : ∃ A : Int, u * startU x = A := ⟨_, rfl⟩
      obtain ⟨Z, hZe⟩ : ∃ Z : Int, u * unitsC x.c = Z := ⟨_, rfl⟩
      rw [hAe, hZe] at CA
      rw [hZe] at CZ
      have hen : e < n := by omega
      have hnums : (0 ≤ A ∧ A ≤ 8192 * 5) ∧ (0 ≤ Z ∧ Z ≤ 128 * 17) ∧ A % u = 0 ∧ Z % u = 0 ∧ ¬ Z < u ∧ ¬ utot < A ∧ ¬ utot - A < Z ∧ A / ubig = e ∧ A / u = t ∧ (A + Z) / u = v ∧ t ≤ v ∧ v ≤ 64 * n := by
        obtain ⟨h64, hun⟩ := HUN.out
        have h1 := HU.out.1
        have hen' : (e : Int) < n := by omega
        generalize unitsC x.c = U at *
        generalize startU x = T at *
        subst ht
        rcases h1 with rfl | rfl
        · obtain rfl : ubig = 4096 := by omega
          omega
        · obtain rfl : ubig = 8192 := by omega
          omega
      rw [hv, ht] at hqc
      simp only [hv] at hfree
      simp only [ht] at hfree
      have HCl : Hid (∀ ww, Sl3 ww (some ⟨b, off, none⟩) m (allS n ex l) → ww.cell? ⟨b, off + i * 3, none⟩ = some (.int .i64 e) ∧ ww.cell? ⟨b, off + i * 3 + 1, none⟩ = some (.int .i64 x.c) ∧ ww.cell? ⟨b, off + i * 3 + 2, none⟩ = some (.int .i64 x.i)) := fun ww h => by rw [← he]; exact h.cellsAt i him x hx
      rw [he] at k0 CA huc
      have HUC := Lib.hid huc
      have HQC := Lib.hid hqc
      have HFr := Lib.hid hfree
      have HA := Lib.hid hA.out
      have hbA := hA.out.row.2.2 _ rfl
      obtain ⟨xe, xc, xi⟩ := x
      simp only at k0 k1 k2 CA CZ
      have HCA := Lib.hid CA
      have HCZ := Lib.hid CZ
      obtain ⟨hA0, hZ0, f2, f3, hf4, hf7, hf8, f9, f10, f11, htv, hv64⟩ := hnums
      have f1 : decide (A < 0) = false := by simp; omega
      have f4 : decide (Z < u) = false := by simp; omega
      have f7 : decide (utot < A) = false := by simp; omega
      have f8 : decide (utot - A < Z) = false := by simp; omega
      have f12 : decide ((n : Int) ≤ e) = false := by simp; omega
      obtain ⟨f5, f6⟩ := HUN.out
      clear CA CZ hA hxm hok hin huc hqc hfree hx hke he ht hv hszc hAe hZe him hI A0 hf4 hf7 hf8
      go_upto_region 9 with (first
        | (go_at_call 15; ((with_reducible refine HCA.out.mono ?_); rintro e' w5 ⟨rfl, hA5⟩; have HA5 := Lib.hid hA5; clear hA5 HA)))
      obtain ⟨m0, m1, m2⟩ := HCl.out _ HA5.out.row.1
      clear k0 k1 k2
      go_upto_region 11 with (first
        | (go_at_call 32; ((with_reducible refine (HCZ.out _).mono ?_); rintro e' w6 ⟨rfl, hb6⟩; have HA6 := Lib.hid (HA5.out.calm (Turned.of_below hb6)); clear hb6 m0 m1 m2 HA5)))
      obtain ⟨m0, m1, m2⟩ := HCl.out _ HA6.out.row.1
      clear m1 m2
      have g0 : 0 ≤ A := hA0.1
      have g1 : IntKind.i64.wrap ubig = ubig := IntWalk.i64_in _ (by omega)
      have g2 : decide (n ≤ e) = false := by simp; omega
      have g3 : A.tdiv ubig = e := by rw [Int.tdiv_eq_ediv_of_nonneg g0, f9]
      have g4 : decide ((e : Int) < 0) = false := by simp
      have g5 : (0 : Int) ≤ i := by omega
      have g6 : (i : Int) < m := by omega
      have g7 : (i : Int) ≤ m := by omega
      go_quiet (fail)
      clear g0 g1 g2 g3 g4 g5 g6 g7
      have HA7 := Lib.hid (HA6.out.calm ((Turned.refl [] w6).drewN nq))
      generalize w6.drewN nq = w7 at *
      clear m0 HA6 f1 f2 f3 f4 f5 f6 f7 f8 f12 f9
      obtain ⟨m0, m1, m2⟩ := HCl.out _ HA7.out.row.1
      have hfr := HA7.out.used.frozen e
      have hcu := HA7.out.used.cell (i := e) hen
      have HA8 : Hid (Ap w (w7.setCell ⟨bu, e, none⟩ (.bool true)) bs be bm n pg ex l (some ⟨b, off, none⟩) m bu (bu + 1) (usedB (allS n ex l) (i + 1)) (unitB (allS n ex l) i)) := HA7.out.setU e _ (fun j _ => by
        rw [HUC.out]
        by_cases hje : j = e
        · subst hje; simp
        · rw [if_neg hje]
          have : ((e : Int) == (j : Int)) = false := by rw [beq_eq_false_iff_ne]; omega
          rw [this, Bool.or_false])
      clear m1 m2
      go_upto_block 3 with fail
      clear m0 hfr hcu HA7
      generalize w7.setCell ⟨bu, e, none⟩ (.bool true) = w8 at *
      have HA9 : Hid (Ap w w8 bs be bm n pg ex l (some ⟨b, off, none⟩) m bu (bu + 1) (usedB (allS n ex l) (i + 1)) (fun k => unitB (allS n ex l) i k || (decide (t ≤ k) && decide (k < t)))) :=
        HA8.out.congr (fun _ _ => rfl) (fun j _ => by
          have : (decide (t ≤ j) && decide (j < t)) = false := by simp
          rw [this, Bool.or_false])
      clear HA8
      have hvq : v ≤ q := by have := HQ.out; omega
      go_loopw [15] (fun y wr => ∃ kk : Nat, t ≤ kk ∧ kk ≤ v ∧ y = .int .i64 kk ∧ Hid (Ap w wr bs be bm n pg ex l (some ⟨b, off, none⟩) m bu (bu + 1) (usedB (allS n ex l) (i + 1)) (fun k => unitB (allS n ex l) i k || (decide (t ≤ k) && decide (k < kk))))) (fun y _ => v - (intOf y).toNat)
      case atStart => exact ⟨t, Nat.le_refl _, htv, by rw [f10], HA9.out⟩
      case round =>
        obtain ⟨kk, hk1, hk2, rfl, hAk⟩ := hrel
        by_cases hkv : kk < v
        · have hkq : kk < q := by omega
          have hfr := hAk.out.units.frozen kk
          have hcu := hAk.out.units.cell (i := kk) (by rw [HQ.out]; exact hkq)
          rw [HFr.out kk (by omega) (by omega)] at hcu
          have hd : (false || (decide (t ≤ kk) && decide (kk < kk))) = false := by simp
          rw [hd] at hcu
          clear hd
          have HAn : Hid (Ap w (wr.setCell ⟨bu + 1, kk, none⟩ (.bool true)) bs be bm n pg ex l (some ⟨b, off, none⟩) m bu (bu + 1) (usedB (allS n ex l) (i + 1)) (fun k => unitB (allS n ex l) i k || (decide (t ≤ k) && decide (k < kk + 1)))) := hAk.out.setQ kk _ (fun j _ => by
            by_cases hje : j = kk
            · subst hje; rw [if_pos rfl]; simp; right; omega
            · rw [if_neg hje]
              have : decide (j < kk + 1) = decide (j < kk) := by rw [decide_eq_decide]; omega
              rw [this])
          clear hAk f10
          go_wp2
          go_roundw
          case rel => exact ⟨kk + 1, by omega, by omega, by go_num, HAn.out⟩
          case measure => simp [intOf]; omega
        · have hke : kk = v := by omega
          subst hke
          have HAe : Hid (Ap w wr bs be bm n pg ex l (some ⟨b, off, none⟩) m bu (bu + 1) (usedB (allS n ex l) (i + 1)) (unitB (allS n ex l) (i + 1))) := hAk.out.congr (fun _ _ => rfl) (fun j _ => by
            rw [HQC.out]
            have e1 : decide ((t : Int) ≤ (j : Int)) = decide (t ≤ j) := by rw [decide_eq_decide]; omega
            have e2 : decide ((j : Int) < (kk : Int)) = decide (j < kk) := by rw [decide_eq_decide]; omega
            rw [e1, e2])
          clear hAk f10 hkv
          go_wp2
          go_roundw
          case rel => exact ⟨i + 1, by omega, by go_num, HAe.out⟩
          case measure => simp [intOf]; omega
    · have hie : i = m := by omega
      have HAm : Hid (Ap w wr bs be bm n pg ex l g m bu (bu + 1) (usedB (allS n ex l) (allS n ex l).length) (unitB (allS n ex l) i)) := by
        have e : (allS n ex l).length = i := by rw [HM.out, hie]
        rw [e]; exact hA.out
      clear hA hie A0
      go_upto_block 5 with fail
      go_loopw [16] (fun y wr => ∃ k : Nat, k ≤ n ∧ y = .int .i64 k ∧ Hid (Ap w wr bs be bm n pg ex l g m bu (bu + 1) (usedB (allS n ex l) (allS n ex l).length) (unitB (allS n ex l) i))) (fun y _ => n - (intOf y).toNat)
      case atStart => exact ⟨0, Nat.zero_le _, rfl, HAm.out⟩
      case round =>
        obtain ⟨k, hk, rfl, hA⟩ := hrel
        by_cases hkn : k < n
        · have hcu := hA.out.used.cell (i := k) hkn
          have huc := used_class hA.out.st.inv k hkn
          have CC : Hid (∀ ww, SlotsAt ww bs be bm n pg ex l → Calls Tryd.prog 13 #[.pointer (some ⟨bs, 0, none⟩), .int .i64 k] ww fun e w' => e = .returned (.int .i64 ((ex k).1 - 1)) ∧ w' = ww) := by
            intro ww h
            have := class_ bs be bm n pg ex l k ww h
            rw [show classX n ex k = (ex k).1 - 1 by unfold classX; rw [if_neg (by omega)]; simp] at this
            exact this.mono fun e w' ⟨a, b⟩ => ⟨a, b.symm⟩
          rw [← huc] at hcu
          generalize (ex k).1 - 1 = cx at *
          obtain ⟨Bb, hB⟩ : ∃ Bb, decide (0 ≤ cx) = Bb := ⟨_, rfl⟩
          rw [hB] at hcu
          clear huc
          go_upto_region 23 with fail
          have g5 : (0 : Int) ≤ k := by omega
          have g6 : (k : Int) < n := by omega
          go_quiet ((go_at_call 13; exact Calls.quiet_of_same (CC.out _ (hA.out.st.at_.calm ((Turned.refl [] _).drewN _)))))
          have HAn := Lib.hid (hA.out.calm ((Turned.refl [] wr).drewN nq))
          clear hcu hB g5 g6 CC hA
          go_wp2
          go_roundw
          case rel => exact ⟨k + 1, by omega, by go_num, HAn.out⟩
          case measure => simp [intOf]; omega
        · go_wp2
          go_ret
          exact ⟨rfl, hA.out.bel⟩
end Go.Proofs.YtaikapgpkkpdjaaDoor.L
