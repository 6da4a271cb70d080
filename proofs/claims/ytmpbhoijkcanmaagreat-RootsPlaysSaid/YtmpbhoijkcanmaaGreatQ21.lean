/- Maps of pages, and versions of them: lemmas, part 21 of 23. -/
import Derived.Test.YtmpbhoijkcanmaaGreatQ20

/- Roots: alive: the walk. -/
namespace Go.Proofs.YtmpbhoijkcanmaaGreat.R
open Go.ChangeShapes Go.WideShapes Go.ChangeAt Go.RowKit Go.Maps Go.Proofs.YtmpbhoijkcanmaaGreat.G
set_option linter.unusedVariables false
set_option linter.unusedSimpArgs false
set_option linter.unnecessarySimpa false

variable {w ww w' : World} {rb L T n : Nat} {R R' : Ro} {F F' G : Fo} {Kx : List (Nat × Obj)}
theorem RtM.putK (h : RtM w ww rb L R F Kx) (o : Obj) : RtM w (ww.alloc o) rb L R F ((ww.heap.size, o) :: Kx) := by
  obtain ⟨f, mb, mo, blk, h⟩ := h
  exact ⟨f, mb, mo, blk, h.putK o⟩
theorem chsK_one {B : Nat} {c : ChD} (hm : (B, cobj c.page c.x.s.e c.x.s.c c.x.s.i c.x.g c.gone) ∈ Kx) : ChsK w Kx (some ⟨B, 0, none⟩) 1 [c] := fun wr hK hb => by
  have := hK _ hm
  obtain ⟨q0, q1, q2, q3, q4, q5⟩ := cobj_at this
  refine ⟨rfl, .inr ⟨B, 0, rfl, lt_of_at this, fun i hi j u hu => ?_⟩⟩
  obtain rfl : i = 0 := by simp at hi; omega
  simp only [Nat.zero_mul, Nat.zero_add, List.getElem_cons_zero] at hu ⊢
  match j, hu with
  | 0, hu => simp [encCh] at hu; rw [← hu]; exact q0
  | 1, hu => simp [encCh] at hu; rw [← hu]; exact q1
  | 2, hu => simp [encCh] at hu; rw [← hu]; exact q2
  | 3, hu => simp [encCh] at hu; rw [← hu]; exact q3
  | 4, hu => simp [encCh] at hu; rw [← hu]; exact q4
  | 5, hu => simp [encCh] at hu; rw [← hu]; exact q5
theorem c24_ok (n : Nat) (hn : n ≤ 2) : (c24 n).ok ∧ (c24 n).val := by
  unfold c24 ChD.ok ChD.val Ent.ok Slot.ok I64
  simp only
  omega
/-- Publish, of the newest version -/
theorem rpub_m (h : RtM w ww rb L R F Kx) (hR : RoOk R F T) (hT : T ≤ 2 ^ 34) (hL : L ≤ 2 ^ 33) (a : Option Addr) (len cap : Nat) (l : List ChD) (hl : ChsK w Kx a len l) (hok : ∀ x, x ∈ l → x.ok) (hn : len ≤ 1048576) (hval : ∀ x, x ∈ l → x.val) {v : Vr} (hv : vget R.vs R.now = some v) :
    Calls Tryz.prog 20 #[.pointer (some ⟨rb, 0, none⟩), .int .u64 (R.now : Nat), .slice a len cap] ww fun e w' => ∃ (a : Option Addr) (len cap : Nat) (R' : Ro) (G : Fo) (ys : List Slot), len = ys.length ∧ e = .returned (.tuple #[.int .u64 ((R.now + 1 : Nat) : Int), .slice a len cap, .int .i64 0]) ∧ PubIs R F v l T R' G (L + 1 + 3 * l.length) ys ∧ (0 < v.held → ys = []) ∧ w'.ownsRow w.heap.size 45 3 (.slice a len cap) len (flat ys) ∧ RtM w w' rb (L + 1 + 3 * l.length) R' G Kx := by
  obtain ⟨f, mb, mo, blk, h⟩ := h
  refine (rpub_ok h hR hT hL a len cap l hl hok hn hval hv).mono fun e w' ⟨a', len', cap', F', r, R', G, ys, e1, e2, e3, e4, _, e5, e6, e7⟩ => ⟨a', len', cap', R', G, ys, e1, e2, pub_is hR hv e3 e4 e5, fun hh => ?_, e6, e7⟩
  rcases e5 with ⟨_, _, _, h⟩ | ⟨⟨_, h⟩, _⟩
  · exact h
  · omega
set_option maxRecDepth 100000 in
set_option maxHeartbeats 4000000 in
theorem alive24 (w : World) : Calls Tryz.prog 5 #[] w fun e w' => e = .returned (.bool true) ∧ Below w.heap.size w w' := by
  have CN := Lib.hid (rnew_fn w (Below.refl w.heap.size w))
  have P1 : Hid (∀ rb w4 B Kx, RtM w w4 rb 0 ro0 fo0 ((B, cobj 1 1 0 0 0 false) :: Kx) → Calls Tryz.prog 20 #[.pointer (some ⟨rb, 0, none⟩), .int .u64 0, .slice (some ⟨B, 0, none⟩) 1 1] w4 fun e w' => ∃ a len cap R1 G1 r1, e = .returned (.tuple #[.int .u64 1, .slice a len cap, .int .i64 0]) ∧ RtM w w' rb 4 R1 G1 ((B, cobj 1 1 0 0 0 false) :: Kx) ∧ RoOk R1 G1 1 ∧ vget R1.vs 1 = some ⟨r1, 0⟩ ∧ R1.now = 1 ∧ (∀ x, x ∈ R1.vs → x = (1, ⟨r1, 0⟩)) ∧ ∀ q, q < 4096 → getL 2 G1 r1 q = if q = 1 then some ⟨⟨1, 0, 0⟩, 0⟩ else none) := fun rb w4 B Kx h => by
    refine (rpub_m h ro0_ok (by omega) (by omega) (some ⟨B, 0, none⟩) 1 1 [c24 1] (chsK_one List.mem_cons_self) (fun x hx => by simp at hx; subst hx; exact (c24_ok 1 (by omega)).1) (by omega) (fun x hx => by simp at hx; subst hx; exact (c24_ok 1 (by omega)).2) (v := ⟨0, 0⟩) rfl).mono fun e w' ⟨a, len, cap, R', G, ys, e1, e2, e3, _, _, e6⟩ => ?_
    obtain ⟨r1, h1, h2, h3, h4⟩ := a1_is e3
    exact ⟨a, len, cap, R', G, r1, e2, e6, e3.ok, h1, h2, h3, h4⟩
  have P2 : Hid (∀ rb ww Kx R1 G1 r1, RtM w ww rb 4 R1 G1 Kx → vget R1.vs 1 = some ⟨r1, 0⟩ → Calls Tryz.prog 21 #[.pointer (some ⟨rb, 0, none⟩), .int .u64 1] ww fun e w' => e = .returned (.int .i64 0) ∧ RtM w w' rb 4 ⟨vset R1.vs 1 ⟨r1, 1⟩, R1.now⟩ G1 Kx) := fun rb ww Kx R1 G1 r1 h hv => by
    obtain ⟨f, mb, mo, blk, h⟩ := h
    exact (rhold_yes h (n := 1) (by omega) hv (by simp)).mono fun e w' ⟨e1, e2⟩ => ⟨e1, f, mb, mo, blk, e2⟩
  have P3 : Hid (∀ rb w4 B Kx R1 G1 r1, RtM w w4 rb 4 ⟨vset R1.vs 1 ⟨r1, 1⟩, R1.now⟩ G1 ((B, cobj 1 2 0 0 0 false) :: Kx) → RoOk R1 G1 1 → vget R1.vs 1 = some ⟨r1, 0⟩ → R1.now = 1 → (∀ x, x ∈ R1.vs → x = (1, ⟨r1, 0⟩)) → (∀ q, q < 4096 → getL 2 G1 r1 q = if q = 1 then some ⟨⟨1, 0, 0⟩, 0⟩ else none) →
      Calls Tryz.prog 20 #[.pointer (some ⟨rb, 0, none⟩), .int .u64 1, .slice (some ⟨B, 0, none⟩) 1 1] w4 fun e w' => ∃ a cap R3 G3 r2, e = .returned (.tuple #[.int .u64 2, .slice a 0 cap, .int .i64 0]) ∧ RtM w w' rb 8 R3 G3 ((B, cobj 1 2 0 0 0 false) :: Kx) ∧ A3 R3 G3 8 r1 r2) := fun rb w4 B Kx R1 G1 r1 h hok hv hn ha hg => by
    have hok2 := hok.hold hv
    have hv2 : vget (vset R1.vs 1 ⟨r1, 1⟩) R1.now = some ⟨r1, 1⟩ := by rw [hn]; exact vget_vset hok.keys hv
    have hc := rpub_m h hok2 (by omega) (by omega) (some ⟨B, 0, none⟩) 1 1 [c24 2] (chsK_one List.mem_cons_self) (fun x hx => by simp at hx; subst hx; exact (c24_ok 2 (by omega)).1) (by omega) (fun x hx => by simp at hx; subst hx; exact (c24_ok 2 (by omega)).2) (v := ⟨r1, 1⟩) hv2
    simp only [hn] at hc
    refine hc.mono fun e w' ⟨a, len, cap, R', G, ys, e1, e2, e3, e4, _, e6⟩ => ?_
    obtain rfl := e4 Nat.one_pos
    obtain rfl : len = 0 := e1
    have e3' : PubIs ⟨vset R1.vs 1 ⟨r1, 1⟩, R1.now⟩ G1 ⟨r1, 1⟩ [c24 2] 2 R' G 8 [] := by rw [hn]; exact e3
    obtain ⟨r2, h3⟩ := a3_is hv hn ha hg e3'
    exact ⟨a, cap, R', G, r2, e2, e6, h3⟩
  have P4 : Hid (∀ rb ww Kx R3 G3 r1 r2, RtM w ww rb 8 R3 G3 Kx → A3 R3 G3 8 r1 r2 → Calls Tryz.prog 20 #[.pointer (some ⟨rb, 0, none⟩), .int .u64 1, .slice none 0 0] ww fun e w' => e = .returned (.tuple #[.int .u64 0, .slice none 0 0, .int .i64 240]) ∧ ww = w') := fun rb ww Kx R3 G3 r1 r2 h a => by
    obtain ⟨f, mb, mo, blk, h⟩ := h
    exact rpub_stale h (base := 1) (by rw [a.now]; decide) none 0 0
  have P5 : Hid (∀ rb ww Kx R3 G3 r1 r2, RtM w ww rb 8 R3 G3 Kx → A3 R3 G3 8 r1 r2 → Calls Tryz.prog 16 #[.pointer (some ⟨rb, 0, none⟩), .int .u64 1, .int .i64 1] ww fun e w' => e = .returned (.tuple #[.agg #[.int .i64 1, .int .i64 0, .int .i64 0, .int .i64 0], .bool true, .int .i64 0]) ∧ RtM w w' rb 8 R3 G3 Kx) := fun rb ww Kx R3 G3 r1 r2 h a => by
    obtain ⟨f, mb, mo, blk, h⟩ := h
    have hg := a.g1 1 (by omega)
    rw [if_pos rfl] at hg
    have := rget_yes h (by omega) (n := 1) (by omega) a.v1 (a.ok.root a.v1) (pg := 1) (by omega) (x := ⟨⟨1, 0, 0⟩, 0⟩) (by show (getL 2 G3 r1 1).getD zeroE = _; rw [hg]; rfl)
    rw [show getL 2 G3 (Vr.root ⟨r1, 1⟩) 1 = some ⟨⟨1, 0, 0⟩, 0⟩ from hg] at this
    exact this.mono fun e w' ⟨e1, e2⟩ => ⟨e1, f, mb, mo, blk, h.calm e2⟩
  have P6 : Hid (∀ rb ww Kx R3 G3 r1 r2, RtM w ww rb 8 R3 G3 Kx → A3 R3 G3 8 r1 r2 → Calls Tryz.prog 22 #[.pointer (some ⟨rb, 0, none⟩), .int .u64 1] ww fun e w' => ∃ gb cap R4 G4, e = .returned (.tuple #[.slice (some ⟨gb, 0, none⟩) 1 cap, .int .i64 0]) ∧ RtM w w' rb 8 R4 G4 Kx ∧ A4 R4 G4 8 r2 [⟨1, 0, 0⟩] ∧ w'.cell? ⟨gb, 0, none⟩ = some (.int .i64 1) ∧ w'.cell? ⟨gb, 1, none⟩ = some (.int .i64 0) ∧ w'.cell? ⟨gb, 2, none⟩ = some (.int .i64 0)) := fun rb ww Kx R3 G3 r1 r2 h a => by
    obtain ⟨f, mb, mo, blk, h⟩ := h
    refine (rrel_yes h (by omega) (n := 1) (by omega) a.ok.keys a.v1 (hd := 0) rfl (by simp) (a.ok.root a.v1)).mono fun e w' ⟨a9, len, cap, R', G, ys, mo', e1, e2, e3, e4, e5⟩ => ?_
    have hr := rel_is a.ok a.fo a.v1 (hd := 0) rfl e3
    have h4 := a4_is a hr
    obtain rfl := h4.gone
    obtain rfl : len = 1 := e1
    obtain ⟨_, e4⟩ := e4
    rcases e4 with ⟨_, h0⟩ | ⟨g, c', cur, e, hg, hh, hn, hc, hs, ht⟩
    · omega
    · simp only [Value.slice.injEq] at e
      obtain ⟨rfl, _, rfl⟩ := e
      have hcell : ∀ i, i < 3 → w'.cell? ⟨g, i, none⟩ = (flat [(⟨1, 0, 0⟩ : Slot)])[i]? := fun i hi => by
        rw [← ht, List.getElem?_take, if_pos (by omega)]
        simp [World.cell?, hh]
      exact ⟨g, cap, R', G, e2, ⟨f, mb, mo', blk, e5⟩, h4, hcell 0 (by omega), hcell 1 (by omega), hcell 2 (by omega)⟩
  have P7 : Hid (∀ rb ww Kx R4 G4 r2 ys, RtM w ww rb 8 R4 G4 Kx → A4 R4 G4 8 r2 ys → Calls Tryz.prog 16 #[.pointer (some ⟨rb, 0, none⟩), .int .u64 1, .int .i64 1] ww fun e w' => e = .returned (.tuple #[.agg #[.int .i64 0, .int .i64 0, .int .i64 0, .int .i64 0], .bool false, .int .i64 3]) ∧ RtM w w' rb 8 R4 G4 Kx ∧ Below ww.heap.size ww w') := fun rb ww Kx R4 G4 r2 ys h a => by
    obtain ⟨f, mb, mo, blk, h⟩ := h
    exact (rget_no h (n := 1) (by omega) a.none 1).mono fun e w' ⟨e1, e2⟩ => ⟨e1, ⟨f, mb, mo, blk, h.calm e2⟩, e2⟩
  have P8 : Hid (∀ rb ww Kx R4 G4 r2 ys, RtM w ww rb 8 R4 G4 Kx → A4 R4 G4 8 r2 ys → Calls Tryz.prog 9 #[.pointer (some ⟨rb, 0, none⟩)] ww fun e w' => e = .returned (.int .u64 2) ∧ ww = w') := fun rb ww Kx R4 G4 r2 ys h a => by
    obtain ⟨f, mb, mo, blk, h⟩ := h
    have := rnow_fn h
    rw [a.now] at this
    exact this
  have P9 : Hid (∀ rb ww Kx R4 G4 r2 ys, RtM w ww rb 8 R4 G4 Kx → A4 R4 G4 8 r2 ys → Calls Tryz.prog 11 #[.pointer (some ⟨rb, 0, none⟩)] ww fun e w' => ∃ a cap, e = .returned (.slice a 1 cap) ∧ RtM w w' rb 8 R4 G4 Kx ∧ Below ww.heap.size ww w') := fun rb ww Kx R4 G4 r2 ys h a => by
    obtain ⟨f, mb, mo, blk, h⟩ := h
    exact (rvers_one h a.vs).mono fun e w' ⟨a9, cap, e1, _, e2⟩ => ⟨a9, cap, e1, ⟨f, mb, mo, blk, h.calm e2⟩, e2⟩
  have P10 : Hid (∀ rb ww Kx R4 G4 r2 ys, RtM w ww rb 8 R4 G4 Kx → A4 R4 G4 8 r2 ys → Calls Tryz.prog 14 #[.pointer (some ⟨rb, 0, none⟩)] ww fun e w' => ∃ a cap, e = .returned (.slice a 1 cap) ∧ RtM w w' rb 8 R4 G4 Kx ∧ Below ww.heap.size ww w') := fun rb ww Kx R4 G4 r2 ys h a => by
    obtain ⟨f, mb, mo, blk, h⟩ := h
    refine (rslots_fn h (by omega)).mono fun e w' ⟨v, zs, e1, e2, e3, e4⟩ => ?_
    rw [a.slots zs e2] at e3
    obtain ⟨a9, cap, rfl⟩ := slice_of_owns e3
    exact ⟨a9, cap, e1, ⟨f, mb, mo, blk, h.calm e4⟩, e4⟩
  have P11 : Hid (∀ rb ww Kx R4 G4 r2 ys, RtM w ww rb 8 R4 G4 Kx → A4 R4 G4 8 r2 ys → Calls Tryz.prog 23 #[.pointer (some ⟨rb, 0, none⟩)] ww fun e w' => e = .returned (.int .i64 3) ∧ ww = w') := fun rb ww Kx R4 G4 r2 ys h a => by
    obtain ⟨f, mb, mo, blk, h⟩ := h
    have := rnodes_fn h
    rw [a.nodes] at this
    exact this
  have PU : Hid (∀ rb (w1 : World), RtM w w1 rb 0 ro0 fo0 [] → RtM w (((w1.alloc (varE 1 0 0 0)).alloc (varE 2 0 0 0)).alloc (cobj 1 1 0 0 0 false)) rb 0 ro0 fo0 [(w1.heap.size + 1 + 1, cobj 1 1 0 0 0 false), (w1.heap.size + 1, varE 2 0 0 0), (w1.heap.size, varE 1 0 0 0)]) := fun rb w1 h => by
    have := ((h.putK (varE 1 0 0 0)).putK (varE 2 0 0 0)).putK (cobj 1 1 0 0 0 false)
    simp only [World.size_alloc] at this
    exact this
  have PC : Hid (∀ rb ww L R F (Kx : List (Nat × Obj)) b e c i g, RtM w ww rb L R F Kx → (b, varE e c i g) ∈ Kx → ww.cell? ⟨b, 0, none⟩ = some (.int .i64 e) ∧ ww.cell? ⟨b, 1, none⟩ = some (.int .i64 c) ∧ ww.cell? ⟨b, 2, none⟩ = some (.int .i64 i) ∧ ww.cell? ⟨b, 3, none⟩ = some (.int .i64 g)) := fun rb ww L R F Kx b e c i g h hm => by
    have := varE_at (h.at hm)
    exact ⟨this.c0, this.c1, this.c2, this.c3⟩
  go_enter Tryz.func5, Tryz.ntmps5
  go_upto_region 8 with (first
    | (go_at_call 6; ((with_reducible refine CN.out.mono ?_); rintro e w1 ⟨rb, rfl, hs⟩; have S1 := Lib.hid (PU.out _ _ hs); clear hs CN PU))
    | (go_at_call 20; ((with_reducible refine (P1.out _ _ _ _ S1.out).mono ?_); rintro e w5 ⟨a5, len5, cap5, R1, G1, r1, rfl, hm, ho, hv, hn, ha, hg⟩; have S2 := Lib.hid hm; have Q2 := Lib.hid (And.intro ho (And.intro hv (And.intro hn (And.intro ha hg)))); clear hm ho hv hn ha hg S1 P1))
    | (go_at_call 21; ((with_reducible refine (P2.out _ _ _ _ _ _ S2.out Q2.out.2.1).mono ?_); rintro e w6 ⟨rfl, hm⟩; have S3 := Lib.hid hm; clear hm S2 P2)))
  obtain ⟨b2, hb2⟩ : ∃ b2, w1.heap.size = b2 := ⟨_, rfl⟩
  rw [hb2] at S3
  rw [hb2]
  clear hb2
  obtain ⟨y0, y1, y2, y3⟩ := PC.out _ _ _ _ _ _ (b2 + 1) 2 0 0 0 S3.out (by simp)
  have S4 := Lib.hid (S3.out.putK (cobj 1 2 0 0 0 false))
  clear S3
  go_upto_region 10 with (first
    | (go_at_call 20; ((with_reducible refine (P3.out _ _ _ _ _ _ _ S4.out Q2.out.1 Q2.out.2.1 Q2.out.2.2.1 Q2.out.2.2.2.1 Q2.out.2.2.2.2).mono ?_); rintro e w7 ⟨a7, cap7, R3, G3, r2, rfl, hm, hA⟩; have S5 := Lib.hid hm; have A5 := Lib.hid hA; clear hm hA S4 P3 y0 y1 y2 y3))
    | (go_at_call 20; ((with_reducible refine (P4.out _ _ _ _ _ _ _ S5.out A5.out).mono ?_); rintro e w8 ⟨rfl, rfl⟩)))
  go_upto_region 12 with (first
    | (go_at_call 16; ((with_reducible refine (P5.out _ _ _ _ _ _ _ S5.out A5.out).mono ?_); rintro e w9 ⟨rfl, hm⟩; have S6 := Lib.hid (hm.putK (varE 1 0 0 0)); clear hm S5 P5))
    | (go_at_call 22; ((with_reducible refine (P6.out _ _ _ _ _ _ _ S6.out A5.out).mono ?_); rintro e w10 ⟨gb, cap10, R4, G4, rfl, hm, hA, m0, m1, m2⟩; have S7 := Lib.hid hm; have A7 := Lib.hid hA; have M7 := Lib.hid (And.intro m0 (And.intro m1 m2)); clear hm hA m0 m1 m2 S6 P6)))
  obtain ⟨bz, hbz⟩ : ∃ bz, w9.heap.size = bz := ⟨_, rfl⟩
  rw [hbz] at S7
  rw [hbz]
  clear hbz
  go_upto_region 13 with (first
    | (go_at_call 16; ((with_reducible refine (P7.out _ _ _ _ _ _ _ S7.out A7.out).mono ?_); rintro e w11 ⟨rfl, hm, hb⟩; have S8 := Lib.hid (hm.putK (varE 0 0 0 0)); have M8 : Hid (∀ a v, w10.cell? a = some v → (w11.alloc (varE 0 0 0 0)).cell? a = some v) := (fun a v h => ((Turned.of_below hb).alloc _).cell h (by simp)); clear hm hb S7 P7)))
  simp only [List.append_eq, List.cons_append, List.nil_append]
  have hM := S8.out
  have g0 := M8.out _ _ M7.out.1
  have g1 := M8.out _ _ M7.out.2.1
  have g2 := M8.out _ _ M7.out.2.2
  generalize w11.alloc (varE 0 0 0 0) = w12 at *
  obtain ⟨K12, hK12⟩ : ∃ K12, (w11.heap.size, varE 0 0 0 0) :: (bz, varE 1 0 0 0) :: (w6.heap.size, cobj 1 2 0 0 0 false) :: [(b2 + 1 + 1, cobj 1 1 0 0 0 false), (b2 + 1, varE 2 0 0 0), (b2, varE 1 0 0 0)] = K12 := ⟨_, rfl⟩
  rw [hK12] at hM
  have hm2 : (b2, varE 1 0 0 0) ∈ K12 := by rw [← hK12]; simp
  have hmz : (bz, varE 1 0 0 0) ∈ K12 := by rw [← hK12]; simp
  have HS : Hid (∀ ww w' : World, ww.cell? ⟨gb, 0, none⟩ = some (.int .i64 1) → ww.cell? ⟨gb, 1, none⟩ = some (.int .i64 0) → ww.cell? ⟨gb, 2, none⟩ = some (.int .i64 0) → RtM w w' rb 8 R4 G4 K12 → Below ww.heap.size ww w' → RtM w w' rb 8 R4 G4 K12 ∧ w'.cell? ⟨b2, 0, none⟩ = some (.int .i64 1) ∧ w'.cell? ⟨b2, 1, none⟩ = some (.int .i64 0) ∧ w'.cell? ⟨b2, 2, none⟩ = some (.int .i64 0) ∧ w'.cell? ⟨b2, 3, none⟩ = some (.int .i64 0) ∧ w'.cell? ⟨bz, 0, none⟩ = some (.int .i64 1) ∧ w'.cell? ⟨bz, 1, none⟩ = some (.int .i64 0) ∧ w'.cell? ⟨bz, 2, none⟩ = some (.int .i64 0) ∧ w'.cell? ⟨bz, 3, none⟩ = some (.int .i64 0) ∧ w'.cell? ⟨gb, 0, none⟩ = some (.int .i64 1) ∧ w'.cell? ⟨gb, 1, none⟩ = some (.int .i64 0) ∧ w'.cell? ⟨gb, 2, none⟩ = some (.int .i64 0)) := fun ww w' h0 h1 h2 hm hb => by
    have t := Turned.of_below hb
    obtain ⟨p0, p1, p2, p3⟩ := PC.out _ _ _ _ _ _ b2 1 0 0 0 hm hm2
    obtain ⟨q0, q1, q2, q3⟩ := PC.out _ _ _ _ _ _ bz 1 0 0 0 hm hmz
    exact ⟨hm, p0, p1, p2, p3, q0, q1, q2, q3, t.cell h0 (by simp), t.cell h1 (by simp), t.cell h2 (by simp)⟩
  have hA1 : ∀ ww : World, RtM w ww rb 8 R4 G4 K12 → RtM w ww.drew rb 8 R4 G4 K12 := fun ww h => h.calm (Turned.refl [] ww).drew.below
  obtain ⟨_, p0, p1, p2, p3, q0, q1, q2, q3, _⟩ := HS.out w12 w12 g0 g1 g2 hM (Below.refl _ _)
  clear S8 M8 M7 hK12 hm2 hmz PC P4 A5 Q2
  go_region_held3 (fun w' => RtM w w' rb 8 R4 G4 K12 ∧ w'.cell? ⟨b2, 0, none⟩ = some (.int .i64 1) ∧ w'.cell? ⟨b2, 1, none⟩ = some (.int .i64 0) ∧ w'.cell? ⟨b2, 2, none⟩ = some (.int .i64 0) ∧ w'.cell? ⟨b2, 3, none⟩ = some (.int .i64 0) ∧ w'.cell? ⟨bz, 0, none⟩ = some (.int .i64 1) ∧ w'.cell? ⟨bz, 1, none⟩ = some (.int .i64 0) ∧ w'.cell? ⟨bz, 2, none⟩ = some (.int .i64 0) ∧ w'.cell? ⟨bz, 3, none⟩ = some (.int .i64 0) ∧ w'.cell? ⟨gb, 0, none⟩ = some (.int .i64 1) ∧ w'.cell? ⟨gb, 1, none⟩ = some (.int .i64 0) ∧ w'.cell? ⟨gb, 2, none⟩ = some (.int .i64 0)) (first | exact hKp | go_keep)
    (first
      | (go_at_call 9; ((with_reducible refine (P8.out _ _ K12 _ _ _ _ ?_ A7.out).mono ?_); (go_split_ands; assumption); rintro e w3 ⟨rfl, rfl⟩))
      | (go_at_call 23; ((with_reducible refine (P11.out _ _ K12 _ _ _ _ ?_ A7.out).mono ?_); (go_split_ands; assumption); rintro e w3 ⟨rfl, rfl⟩))
      | (go_at_call 11; ((with_reducible refine (P9.out _ _ K12 _ _ _ _ ?_ A7.out).mono ?_); (go_split_ands; assumption); rintro e w3 ⟨a3, cap3, rfl, hm3, hb3⟩; go_split_ands; have hKp := HS.out _ _ (by assumption) (by assumption) (by assumption) hm3 hb3))
      | (go_at_call 14; ((with_reducible refine (P10.out _ _ K12 _ _ _ _ ?_ A7.out).mono ?_); (go_split_ands; assumption); rintro e w3 ⟨a4, cap4, rfl, hm4, hb4⟩; go_split_ands; have hKp := HS.out _ _ (by assumption) (by assumption) (by assumption) hm4 hb4)))
  all_goals
    go_wp2
    go_ret
    exact ⟨rfl, RtM.bel (L := 8) (R := R4) (F := G4) (Kx := K12) (by assumption)⟩
end Go.Proofs.YtmpbhoijkcanmaaGreat.R
