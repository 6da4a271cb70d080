/- Maps of pages, and versions of them: lemmas, part 11 of 23. -/
import Derived.Deep.DeepCutAuto
import Derived.Test.YtmpbhoijkcanmaaGreatQ10

/- Roots: changes; what comes of them: the plain law. -/
namespace Go.Proofs.YtmpbhoijkcanmaaGreat.R
open Go.ChangeShapes Go.WideShapes Go.ChangeAt Go.RowKit Go.Maps Go.Proofs.YtmpbhoijkcanmaaGreat.G Go.Joins
set_option linter.unusedVariables false
set_option linter.unusedSimpArgs false
set_option linter.unnecessarySimpa false

variable {w ww w' : World} {rb L T n : Nat} {R : Ro} {F G : Fo} {Kx : List (Nat × Obj)} {f mb : Nat} {mo : Obj} {blk : Nat → Nat}
structure ChD where
  page : Int
  x : Ent
  gone : Bool
deriving Inhabited
def ChD.ok (c : ChD) : Prop := I64 c.page ∧ c.x.ok
def ChD.val (c : ChD) : Prop := 0 ≤ c.page ∧ c.page < 4096
def encCh (c : ChD) : List Value := [.int .i64 c.page, .int .i64 c.x.s.e, .int .i64 c.x.s.c, .int .i64 c.x.s.i, .int .i64 c.x.g, .bool c.gone]
abbrev ChsAt (w : World) (a : Option Addr) (len : Nat) (l : List ChD) : Prop := RowsAt w 6 encCh a len l
theorem ChsAt.cells {w : World} {a : Option Addr} {len : Nat} {l : List ChD} (h : ChsAt w a len l) (i : Nat) (hi : i < len) : ∃ b off x, a = some ⟨b, off, none⟩ ∧ b < w.heap.size ∧ l[i]? = some x ∧ w.cell? ⟨b, off + i * 6, none⟩ = some (.int .i64 x.page) ∧ w.cell? ⟨b, off + i * 6 + 1, none⟩ = some (.int .i64 x.x.s.e) ∧ w.cell? ⟨b, off + i * 6 + 2, none⟩ = some (.int .i64 x.x.s.c) ∧ w.cell? ⟨b, off + i * 6 + 3, none⟩ = some (.int .i64 x.x.s.i) ∧ w.cell? ⟨b, off + i * 6 + 4, none⟩ = some (.int .i64 x.x.g) ∧ w.cell? ⟨b, off + i * 6 + 5, none⟩ = some (.bool x.gone) := by
  obtain ⟨b, off, x, e, hb, hx, hc⟩ := RowsAt.at h i hi
  exact ⟨b, off, x, e, hb, hx, hc 0 _ rfl, hc 1 _ rfl, hc 2 _ rfl, hc 3 _ rfl, hc 4 _ rfl, hc 5 _ rfl⟩
section
variable {H : Type} {enc : TypeId × Value → H} {w : World} {base : Nat} {spare : Nat → Bool} {held : Bool}
theorem chg_trod {fuel : Nat} {cs : List Value} {y : DataW H × List MemPlace} (hl : cs.length = 6) (h : DataW.trod enc Tryz.prog w base spare held fuel 64 cs = some y) : ∃ x : ChD, x.ok ∧ cs = encCh x := by
  have eB : Tryz.prog.cellsOf 4 = 1 := by kernel_rfl
  obtain ⟨c0, c1, c2, c3, c4, c5, rfl⟩ : ∃ c0 c1 c2 c3 c4 c5, cs = [c0, c1, c2, c3, c4, c5] := by
    match cs, hl with
    | [c0, c1, c2, c3, c4, c5], _ => exact ⟨c0, c1, c2, c3, c4, c5, rfl⟩
  obtain ⟨y0, y1, y2, n, rfl, _, h0, h1, h2⟩ := Go.Deep.trod_struct3 Tryz.underlying64 h
  simp only [eI, eB, eE, List.drop_zero, List.drop_succ_cons, List.take_succ_cons, List.take_zero] at h0 h1 h2
  obtain ⟨p, e0, rfl, w0⟩ := DataW.trod_int Tryz.underlying3 h0
  obtain ⟨x, hx, e1, e2, e3, e4, rfl⟩ := ent_trod h1
  obtain ⟨g, e5, _⟩ := DataW.trod_bool Tryz.underlying4 h2
  simp only [List.cons.injEq, and_true] at e0 e5
  exact ⟨⟨p, x, g⟩, ⟨wf_i64 w0, hx⟩, by rw [e0, e1, e2, e3, e4, e5]; rfl⟩
theorem chgs_of {fuel : Nat} {a : Option Addr} {len cap : Nat} {y : DataW H × List MemPlace} (h : DataW.trod enc Tryz.prog w base spare held fuel 31 [.slice a len cap] = some y) : ∃ l, ChsAt w a len l ∧ (∀ x ∈ l, x.ok) ∧ len ≤ maxLen ∧ len ≤ cap :=
  rows_of (by omega) encCh (fun _ => rfl) ChD.ok Tryz.underlying31 (by kernel_rfl) (fun _ _ _ => chg_trod) h
end
/-- what changes make of a map -/
def chg (g : Nat → Option Ent) (c : ChD) (q : Nat) : Option Ent := if (q : Int) = c.page then (if c.gone then none else some c.x) else g q
def chgs (g : Nat → Option Ent) (l : List ChD) : Nat → Option Ent := l.foldl chg g
theorem chgs_snoc (g : Nat → Option Ent) (l : List ChD) (c : ChD) : chgs g (l ++ [c]) = chg (chgs g l) c := by unfold chgs; rw [List.foldl_append]; rfl
/-- what came of a call that makes a map, each hold told -/
structure MkX (F : Fo) (L : Nat) (G : Fo) (r' : Nat) (g : Nat → Option Ent) : Prop where
  ok : Ok G (L + 3)
  ext : Ext F G
  held : ∀ i : Int, cnt G.held i = cnt F.held i + if r' ≠ 0 ∧ i = r' then 1 else 0
  get : ∀ q, q < 4096 → getL 2 G r' q = g q
def setX (F : Fo) (r pg : Nat) (o : Option Ent) (q : Nat) : Option Ent := if q = pg then o else getL 2 F r q
theorem rset_fn (h : RtA w ww rb L R F Kx f mb mo blk) (hL : L ≤ 2 ^ 34) {r pg : Nat} (hr : isB F (r : Int) = true) (hpg : pg < 4096) (x : Ent) (hx : x.ok) :
    Calls Tryz.prog 37 #[.pointer (some ⟨f, 0, none⟩), .int .i64 (r : Nat), .int .i64 (pg : Nat), encE x] ww fun e w' => ∃ (G : Fo) (r' : Nat), e = .returned (.tuple #[.int .i64 (r' : Nat), .int .i64 0]) ∧ RtA w w' rb (L + 3) R G Kx f mb mo blk ∧ MkX F L G r' (setX F r pg (some x)) :=
  (set_lv h.lk.1 hL hr hpg x hx).mono fun e w' ⟨e1, e2⟩ => by
    have his := setF_is h.ok (by omega) (h.ok.inv.root hr) hpg (.set 0 x) hx
    exact ⟨_, _, e1, h.fo e2, his.ok, his.ext, his.held, his.get⟩
theorem rclear_fn (h : RtA w ww rb L R F Kx f mb mo blk) (hL : L ≤ 2 ^ 34) {r pg : Nat} (hr : isB F (r : Int) = true) (hpg : pg < 4096) :
    Calls Tryz.prog 36 #[.pointer (some ⟨f, 0, none⟩), .int .i64 (r : Nat), .int .i64 (pg : Nat)] ww fun e w' => ∃ (G : Fo) (r' : Nat), e = .returned (.tuple #[.int .i64 (r' : Nat), .int .i64 0]) ∧ RtA w w' rb (L + 3) R G Kx f mb mo blk ∧ MkX F L G r' (setX F r pg none) :=
  (clear_lv h.lk.1 hL hr hpg).mono fun e w' ⟨e1, e2⟩ => by
    obtain ⟨h1, h2, h3, h4, h5, h6⟩ := clearF_is h.ok (by omega) (h.ok.inv.root hr) hpg
    exact ⟨_, _, e1, h.fo e2, h1, h3, h4, h6⟩
/-- behind some of the changes -/
structure PuP (vs : List (Nat × Vr)) (F0 F : Fo) (r : Nat) (g : Nat → Option Ent) : Prop where
  held : ∀ i : Nat, i ≠ 0 → cnt F.held (i : Int) = (rootsV vs).count i + if i = r then 1 else 0
  get : ∀ q, q < 4096 → getL 2 F r q = g q
  old : ∀ x, x ∈ vs → ∀ q, getL 2 F x.2.root q = getL 2 F0 x.2.root q
variable {vs : List (Nat × Vr)} {F0 : Fo} {r : Nat} {g : Nat → Option Ent}
theorem PuP.root (h : PuP vs F0 F r g) : isB F (r : Int) = true := by
  rw [isB_iff]
  by_cases h0 : r = 0
  · exact .inl h0
  · right; rw [h.held r h0, if_pos rfl]; omega
theorem PuP.step (h : PuP vs F0 F r g) (k : Ok F L) {F1 : Fo} {r' pg : Nat} {o : Option Ent} (m : MkX F L F1 r' (setX F r pg o)) {L' : Nat} {ys : List Slot} (d : DropIs F1 L' r G ys) : PuP vs F0 G r' (fun q => if q = pg then o else g q) := by
  have hH : ∀ i : Nat, i ≠ 0 → cnt G.held (i : Int) = (rootsV vs).count i + if i = r' then 1 else 0 := fun i h0 => by
    rw [d.held, m.held, h.held i h0]
    by_cases e : i = r
    · subst e
      rw [if_pos ⟨h0, rfl⟩, if_pos rfl]
      by_cases e2 : i = r'
      · subst e2; rw [if_pos ⟨h0, rfl⟩, if_pos rfl]; omega
      · rw [if_neg (by omega), if_neg e2]; omega
    · rw [if_neg (by omega), if_neg e]
      by_cases e2 : i = r'
      · subst e2; rw [if_pos ⟨h0, rfl⟩, if_pos rfl]
      · rw [if_neg (by omega), if_neg e2]
  have hin : ∀ i : Nat, i = 0 ∨ 0 < cnt G.held (i : Int) → ∀ q, getL 2 G i q = getL 2 F1 i q := fun i hi q => (getL_ext d.ok.inv d.ext 2 i q (hi.imp id fun h => d.ok.root h)).symm
  refine ⟨hH, fun q hq => ?_, fun x hx q => ?_⟩
  · rw [hin r' (by
      by_cases h0 : r' = 0
      · exact .inl h0
      · right; rw [hH r' h0, if_pos rfl]; omega), m.get q hq]
    unfold setX
    split
    · rfl
    · exact h.get q hq
  · have hxr : x.2.root ∈ rootsV vs := List.mem_map_of_mem hx
    rw [hin x.2.root (by
      by_cases h0 : x.2.root = 0
      · exact .inl h0
      · right; rw [hH _ h0]; have := List.count_pos_iff.2 hxr; omega)]
    rw [getL_ext k.inv m.ext 2 x.2.root q (by
      by_cases h0 : x.2.root = 0
      · exact .inl h0
      · right
        refine k.root ?_
        rw [h.held _ h0]; have := List.count_pos_iff.2 hxr; omega)]
    exact h.old x hx q
theorem PuP.congr {g' : Nat → Option Ent} (h : PuP vs F0 F r g) (e : ∀ q, q < 4096 → g q = g' q) : PuP vs F0 F r g' := ⟨h.held, fun q hq => (h.get q hq).trans (e q hq), h.old⟩
theorem PuP.start (h : RoOk R F T) (k : Ok F L) {v : Vr} (hv : vget R.vs n = some v) : PuP R.vs F (madeF F v.root) v.root (getL 2 F v.root) := by
  have hr := k.inv.root (h.root hv)
  have e := madeF_ext F v.root
  refine ⟨fun i h0 => ?_, fun q _ => getL_ext k.inv e 2 v.root q (hr.imp id fun h => h.1), fun x hx q => ?_⟩
  · rw [madeF_held, h.held i h0]
    by_cases e : i = v.root
    · rw [if_pos e, if_pos ⟨by omega, by omega⟩]
    · rw [if_neg e, if_neg (by omega)]
  · refine getL_ext k.inv e 2 x.2.root q ?_
    by_cases h0 : x.2.root = 0
    · exact .inl h0
    · right
      refine k.root ?_
      rw [h.held _ h0]
      exact List.count_pos_iff.2 (List.mem_map_of_mem hx)
end Go.Proofs.YtmpbhoijkcanmaaGreat.R

/- Roots: Publish. -/
namespace Go.Proofs.YtmpbhoijkcanmaaGreat.R
open Go.ChangeShapes Go.WideShapes Go.ChangeAt Go.RowKit Go.Maps Go.Proofs.YtmpbhoijkcanmaaGreat.G Go.Joins
set_option linter.unusedVariables false
set_option linter.unusedSimpArgs false
set_option linter.unnecessarySimpa false

variable {w ww w' : World} {rb L T n : Nat} {R : Ro} {F G : Fo} {Kx : List (Nat × Obj)} {f mb : Nat} {mo : Obj} {blk : Nat → Nat}
theorem RtA.putK (h : RtA w ww rb L R F Kx f mb mo blk) (o : Obj) : RtA w (ww.alloc o) rb L R F ((ww.heap.size, o) :: Kx) f mb mo blk := by
  have a := h.apart
  have hk : ∀ b, b ∈ keysK ((rb, robj f mb R.now) :: (mb, mo) :: (vK blk R.vs ++ Kx)) → b < ww.heap.size := fun b hb => h.lk.1.lt hb
  have kk : keysK ((rb, robj f mb R.now) :: (mb, mo) :: (vK blk R.vs ++ Kx)) = rb :: mb :: ((keysV R.vs).map blk ++ keysK Kx) := by
    rw [← keys_vK]; unfold keysK; simp
  rw [kk] at hk
  refine ⟨lk_mk ((h.lk.1.put o).sub fun y hy => ?_) ?_, h.map.alloc o, h.rb0, h.mb0, h.vb0⟩
  · simp only [List.mem_cons, List.mem_append] at hy ⊢
    rcases hy with h | h | h | h | h
    · exact .inr (.inl h)
    · exact .inr (.inr (.inl h))
    · exact .inr (.inr (.inr (.inl h)))
    · exact .inl h
    · exact .inr (.inr (.inr (.inr h)))
  · have e : keysK ((ww.heap.size, o) :: Kx) = ww.heap.size :: keysK Kx := rfl
    rw [e]
    refine ⟨a.rm, a.rv, ?_, a.mv, ?_, a.vv, List.nodup_cons.2 ⟨fun hm => ?_, a.xx⟩, fun c hc hx => ?_⟩
    · simp only [List.mem_cons, not_or]; exact ⟨fun e => by have := hk rb (by simp); omega, a.rx⟩
    · simp only [List.mem_cons, not_or]; exact ⟨fun e => by have := hk mb (by simp); omega, a.mx⟩
    · have := hk _ (List.mem_cons_of_mem _ (List.mem_cons_of_mem _ (List.mem_append.2 (.inr hm)))); omega
    · rcases List.mem_cons.1 hx with rfl | hx
      · have := hk _ (List.mem_cons_of_mem _ (List.mem_cons_of_mem _ (List.mem_append.2 (.inl hc)))); omega
      · exact a.vx c hc hx
abbrev cobj (p e c i g : Int) (b : Bool) : Obj := .cells #[.int .i64 p, .int .i64 e, .int .i64 c, .int .i64 i, .int .i64 g, .bool b] 64 (0, 0)
theorem bne_of {a b : Int} (h : (a == b) = false) : (a != b) = true := by simpa using h
set_option maxRecDepth 100000 in
theorem rpub_stale (h : RtA w ww rb L R F Kx f mb mo blk) {base : Nat} (hb : base ≠ R.now) (a : Option Addr) (len cap : Nat) :
    Calls Tryz.prog 20 #[.pointer (some ⟨rb, 0, none⟩), .int .u64 (base : Nat), .slice a len cap] ww fun e w' => e = .returned (.tuple #[.int .u64 0, .slice none 0 0, .int .i64 240]) ∧ ww = w' := by
  have c2 := h.c2
  have CN := Lib.hid (rnone_fn h)
  obtain ⟨nw, hnw⟩ : ∃ nw, R.now = nw := ⟨_, rfl⟩
  rw [hnw] at c2 hb
  have hq : ((base : Int) == (nw : Int)) = false := by simp; omega
  have hq2 := bne_of hq
  clear h hnw hb
  go_enter Tryz.func20, Tryz.ntmps20
  go_wp2_with (go_at_call 28; ((with_reducible refine CN.out.mono ?_); rintro e ww ⟨rfl, rfl⟩))
  go_ret3
  exact ⟨rfl, rfl⟩
/-- behind some changes, in memory -/
def PuS (w wr : World) (rb L0 : Nat) (R : Ro) (F0 : Fo) (Kx : List (Nat × Obj)) (f mb : Nat) (mo : Obj) (blk : Nat → Nat) (g0 : Nat → Option Ent) (v0 : Nat) (l : List ChD) (k : Nat) (rv : Value) : Prop :=
  ∃ (Fk : Fo) (r : Nat), rv = .int .i64 ((r : Nat) : Int) ∧ RtA w wr rb (L0 + 3 * k) R Fk Kx f mb mo blk ∧ PuP R.vs F0 Fk r (chgs g0 (l.take k)) ∧ (k = 0 → Fk = madeF F0 v0 ∧ r = v0)
structure PuV (w wr : World) (rb L : Nat) (R : Ro) (Fk : Fo) (Kx : List (Nat × Obj)) (f mb : Nat) (mo : Obj) (blk : Nat → Nat) (r : Nat) (g : Nat → Option Ent) (G : Fo) (r' : Nat) : Prop where
  mem : RtA w wr rb (L + 3) R G Kx f mb mo blk
  is : MkX Fk L G r' g
theorem take_snoc {l : List ChD} {k : Nat} {c : ChD} (h : l[k]? = some c) : l.take (k + 1) = l.take k ++ [c] := by
  obtain ⟨hk, e⟩ := List.getElem?_eq_some_iff.1 h
  rw [List.take_succ_eq_append_getElem hk, e]
set_option maxRecDepth 100000 in
set_option maxHeartbeats 4000000 in
theorem rpub_loop (h : RtA w ww rb L R F Kx f mb mo blk) (a : Option Addr) (len cap : Nat) (l : List ChD) (hl : ChsAt ww a len l) (hok : ∀ x, x ∈ l → x.ok) (hn : len ≤ maxLen) (hval : ¬ ∀ x, x ∈ l → x.val) :
    Calls Tryz.prog 20 #[.pointer (some ⟨rb, 0, none⟩), .int .u64 (R.now : Nat), .slice a len cap] ww fun e w' => e = .returned (.tuple #[.int .u64 0, .slice none 0 0, .int .i64 2]) ∧ Below ww.heap.size ww w' := by
  have c2 := h.c2
  have CN := Lib.hid (rnone_fn h)
  have HL := Lib.hid (And.intro hl (And.intro hok hval))
  have HB0 := Lib.hid (Below.refl ww.heap.size ww)
  obtain ⟨nw, hnw⟩ : ∃ nw, R.now = nw := ⟨_, rfl⟩
  rw [hnw] at c2
  rw [hnw]
  unfold maxLen at hn
  clear h hl hok hval hnw
  go_enter Tryz.func20, Tryz.ntmps20
  go_wp2_with (go_at_call 28; ((with_reducible refine CN.out.mono ?_); rintro e ww2 ⟨rfl, rfl⟩))
  go_loopw [27] (fun v wr => ∃ k : Nat, k ≤ len ∧ v = .int .i64 k ∧ Hid ((∀ j x, j < k → l[j]? = some x → x.val) ∧ Below ww.heap.size ww wr)) (fun v _ => len - (intOf v).toNat)
  case atStart => exact ⟨0, Nat.zero_le _, rfl, fun j x hj => by omega, HB0.out⟩
  case round =>
    obtain ⟨k, hk, rfl, hB⟩ := hrel
    by_cases hlt : k < len
    · obtain ⟨pb, poff, x, rfl, hpb, hx, k0, k1, k2, k3, k4, k5⟩ := ChsAt.cells (RowsAt.below HL.out.1 hB.out.2) k hlt
      obtain ⟨pn, ⟨⟨xe, xc, xi⟩, xg⟩, gone⟩ := x
      simp only at k0 k1 k2 k3 k4 k5
      have hnew := fun j u hu => cells_new wr [.int .i64 pn, .int .i64 xe, .int .i64 xc, .int .i64 xi, .int .i64 xg, .bool gone] 64 j u hu
      have g0 := hnew 0 _ rfl
      rw [addr_add_none, Nat.zero_add] at g0
      have HB : Hid (Below ww.heap.size ww (wr.alloc (cobj pn xe xc xi xg gone))) := (hB.out.2).alloc hB.out.2.size _
      have HX := Lib.hid hx
      have hb64 : -9223372036854775808 ≤ pn ∧ pn ≤ 9223372036854775807 := (HL.out.2.1 _ (List.mem_of_getElem? hx)).1
      clear hnew hx
      by_cases hv : 0 ≤ pn ∧ pn < 4096
      · obtain ⟨hv0, hv1⟩ := hv
        go_wp2
        go_roundw
        case rel =>
          refine ⟨k + 1, by omega, by go_num, fun j x hj hx => ?_, HB.out⟩
          rcases Nat.lt_or_ge j k with h' | h'
          · exact hB.out.1 j x h' hx
          · obtain rfl : j = k := by omega
            rw [HX.out] at hx
            simp only [Option.some.injEq] at hx
            subst hx
            exact ⟨hv0, hv1⟩
        case measure => simp [intOf]; omega
      · by_cases hv0 : pn < 0
        · go_wp2
          go_ret3
          exact ⟨rfl, HB.out⟩
        · have hv1 : 4096 ≤ pn := by omega
          go_wp2
          go_ret3
          exact ⟨rfl, HB.out⟩
    · obtain rfl : k = len := by omega
      exfalso
      refine HL.out.2.2 fun x hx => ?_
      obtain ⟨j, hj, e⟩ := List.getElem_of_mem hx
      exact hB.out.1 j x (by rw [← HL.out.1.1]; exact hj) (by rw [← e]; exact List.getElem?_eq_getElem hj)
end Go.Proofs.YtmpbhoijkcanmaaGreat.R

/- Roots: Publish: a version comes. -/
namespace Go.Proofs.YtmpbhoijkcanmaaGreat.R
open Go.ChangeShapes Go.WideShapes Go.ChangeAt Go.RowKit Go.Maps Go.Proofs.YtmpbhoijkcanmaaGreat.G Go.Joins
set_option linter.unusedVariables false
set_option linter.unusedSimpArgs false
set_option linter.unnecessarySimpa false

variable {w ww w' : World} {rb L T n : Nat} {R : Ro} {F G : Fo} {Kx : List (Nat × Obj)} {f mb : Nat} {mo : Obj} {blk : Nat → Nat}
/-- a version came; the one ahead of it may have gone -/
def pubPost (w : World) (rb L : Nat) (R : Ro) (F : Fo) (Kx : List (Nat × Obj)) (v : Vr) (l : List ChD) (e : Ending) (w' : World) : Prop :=
  ∃ (a : Option Addr) (len cap : Nat) (F' : Fo) (r : Nat) (R' : Ro) (G : Fo) (ys : List Slot), len = ys.length ∧ e = .returned (.tuple #[.int .u64 ((R.now + 1 : Nat) : Int), .slice a len cap, .int .i64 0]) ∧
    Ok F' (L + 1 + 3 * l.length) ∧ PuP R.vs F F' r (chgs (getL 2 F v.root) l) ∧ (l = [] → F' = madeF F v.root ∧ r = v.root) ∧ Sw ⟨R.vs ++ [(R.now + 1, ⟨r, 0⟩)], R.now + 1⟩ F' (L + 1 + 3 * l.length) R.now v R' G ys ∧ w'.ownsRow w.heap.size 45 3 (.slice a len cap) len (flat ys) ∧ RtM w w' rb (L + 1 + 3 * l.length) R' G Kx
theorem cobj_at {wv : World} {B : Nat} {p e c i g : Int} {b : Bool} (h : wv.heap[B]? = some (cobj p e c i g b)) : wv.cell? ⟨B, 0, none⟩ = some (.int .i64 p) ∧ wv.cell? ⟨B, 1, none⟩ = some (.int .i64 e) ∧ wv.cell? ⟨B, 2, none⟩ = some (.int .i64 c) ∧ wv.cell? ⟨B, 3, none⟩ = some (.int .i64 i) ∧ wv.cell? ⟨B, 4, none⟩ = some (.int .i64 g) ∧ wv.cell? ⟨B, 5, none⟩ = some (.bool b) := by
  refine ⟨?_, ?_, ?_, ?_, ?_, ?_⟩ <;> simp [World.cell?, h]
/-- changes that lie in what was there, or beside -/
def ChsK (w : World) (Kx : List (Nat × Obj)) (a : Option Addr) (len : Nat) (l : List ChD) : Prop := ∀ wr : World, (∀ x, x ∈ Kx → wr.heap[x.1]? = some x.2) → Below w.heap.size w wr → ChsAt wr a len l
theorem ChsK.at {a : Option Addr} {len : Nat} {l : List ChD} (hl : ChsK w Kx a len l) (h : RtA w ww rb L R F Kx f mb mo blk) : ChsAt ww a len l :=
  hl ww (fun x hx => h.lk.1.at (List.mem_cons_of_mem _ (List.mem_cons_of_mem _ (List.mem_append.2 (.inr hx))))) h.bel
theorem cast_succU (n : Nat) : (Value.int .u64 ((n : Int) + 1)) = .int .u64 ((n + 1 : Nat) : Int) := by rw [Int.natCast_add]; rfl
theorem wrapU (n : Int) : IntKind.u64.wrap n = n % 18446744073709551616 := by rfl
theorem vget_append_old {vs : List (Nat × Vr)} {n m : Nat} {v u : Vr} (h : vget vs n = some v) : vget (vs ++ [(m, u)]) n = some v := by
  unfold vget at *
  obtain ⟨x, hx, rfl⟩ := Option.map_eq_some_iff.1 h
  rw [List.find?_append, hx]; rfl
set_option maxRecDepth 100000 in
set_option maxHeartbeats 4000000 in
theorem rpub_ok (h : RtA w ww rb L R F Kx f mb mo blk) (hR : RoOk R F T) (hT : T ≤ 2 ^ 34) (hL : L ≤ 2 ^ 33) (a : Option Addr) (len cap : Nat) (l : List ChD) (hl : ChsK w Kx a len l) (hok : ∀ x, x ∈ l → x.ok) (hn : len ≤ 1048576) (hval : ∀ x, x ∈ l → x.val) {v : Vr} (hv : vget R.vs R.now = some v) :
    Calls Tryz.prog 20 #[.pointer (some ⟨rb, 0, none⟩), .int .u64 (R.now : Nat), .slice a len cap] ww (pubPost w rb L R F Kx v l) := by
  obtain ⟨v0, hd⟩ := v
  have hT2 := hR.small.1
  have hn64 : R.now < 2 ^ 64 := by omega
  have hll := (hl.at h).1
  have HRt := Lib.hid h
  have HRo := Lib.hid hR
  have HV := Lib.hid hv
  have CN := Lib.hid (fun ww (h : RtA w ww rb L R F Kx f mb mo blk) => rnone_fn h)
  have CNow := CN.out ww h
  have HL := Lib.hid (And.intro hl (And.intro hok hval))
  have HB0 := Lib.hid (Below.refl ww.heap.size ww)
  have CH : Hid (∀ wr, RtA w wr rb L R F Kx f mb mo blk → Calls Tryz.prog 35 #[.pointer (some ⟨f, 0, none⟩), .int .i64 (v0 : Nat)] wr fun e w' => e = .returned (.int .i64 0) ∧ PuS w w' rb (L + 1) R F Kx f mb mo blk (getL 2 F v0) v0 l 0 (.int .i64 (v0 : Nat))) := fun wr hw =>
    (hold_lv hw.lk.1 (by omega) (hR.root hv)).mono fun e w' ⟨e1, e2⟩ => ⟨e1, _, v0, rfl, hw.fo e2, PuP.start hR hw.ok hv, fun _ => ⟨rfl, rfl⟩⟩
  have HRd : Hid (∀ wr, RtA w wr rb L R F Kx f mb mo blk → Reads wr rb f mb R.now (blk R.now) v0 hd) := fun wr hw => hw.reads hn64 hv
  have c2 := h.c2
  obtain ⟨nw, hnw⟩ : ∃ nw, R.now = nw := ⟨_, rfl⟩
  obtain ⟨bn, hbn⟩ : ∃ bn, blk nw = bn := ⟨_, rfl⟩
  rw [hnw] at c2 HRd
  rw [hbn] at HRd
  rw [hnw]
  have HNw := Lib.hid (And.intro hnw hbn)
  have hnw64 : nw < 2 ^ 64 := hnw ▸ hn64
  have hnwT : nw ≤ 2 ^ 34 := by omega
  clear h hR hl hok hval hnw hbn hv hn64 hT2
  go_enter Tryz.func20, Tryz.ntmps20
  go_wp2_with (go_at_call 28; ((with_reducible refine CNow.mono ?_); rintro e ww2 ⟨rfl, rfl⟩))
  clear CNow c2
  go_loopw [27] (fun v wr => ∃ k : Nat, k ≤ len ∧ v = .int .i64 k ∧ Hid (RtA w wr rb L R F Kx f mb mo blk)) (fun v _ => len - (intOf v).toNat)
  case atStart => exact ⟨0, Nat.zero_le _, rfl, HRt.out⟩
  case round =>
    obtain ⟨k, hk, rfl, hB⟩ := hrel
    by_cases hlt : k < len
    · obtain ⟨pb, poff, x, rfl, hpb, hx, k0, k1, k2, k3, k4, k5⟩ := ChsAt.cells (HL.out.1.at hB.out) k hlt
      obtain ⟨pn, ⟨⟨xe, xc, xi⟩, xg⟩, gone⟩ := x
      simp only at k0 k1 k2 k3 k4 k5
      have hnew := fun j u hu => cells_new wr [.int .i64 pn, .int .i64 xe, .int .i64 xc, .int .i64 xi, .int .i64 xg, .bool gone] 64 j u hu
      have g0 := hnew 0 _ rfl
      rw [addr_add_none, Nat.zero_add] at g0
      have HB : Hid (RtA w (wr.alloc (cobj pn xe xc xi xg gone)) rb L R F Kx f mb mo blk) := hB.out.calm ((Turned.refl [] wr).alloc _).below
      obtain ⟨hv0, hv1⟩ : 0 ≤ pn ∧ pn < 4096 := HL.out.2.2 _ (List.mem_of_getElem? hx)
      clear hnew hx
      go_wp2
      go_roundw
      case rel => exact ⟨k + 1, by omega, by go_num, HB.out⟩
      case measure => simp [intOf]; omega
    · obtain rfl : k = len := by omega
      clear hlt hk
      obtain ⟨c0, c1, hlk, d0, d1⟩ := HRd.out wr hB.out
      go_wp2_with (go_at_call 35; ((with_reducible refine (CH.out _ hB.out).mono ?_); rintro e w3 ⟨rfl, hs⟩; have S3 := Lib.hid hs; clear hs c0 c1 hlk d0 d1))
      obtain ⟨L1, hL1⟩ : ∃ L1, L + 1 = L1 := ⟨_, rfl⟩
      rw [hL1] at S3
      have hL2 : L1 + 3 * k ≤ 2 ^ 34 - 10 := by omega
      have HL1 := Lib.hid hL1
      clear hB CH HRd hL1
      go_loopw [57, 11] (fun v rv wr => ∃ j : Nat, j ≤ k ∧ v = .int .i64 j ∧ Hid (PuS w wr rb L1 R F Kx f mb mo blk (getL 2 F v0) v0 l j rv)) (fun v _ _ => k - (intOf v).toNat)
      case atStart => exact ⟨0, Nat.zero_le _, rfl, S3.out⟩
      case round =>
        obtain ⟨j, hj, rfl, hB⟩ := hrel
        clear S3
        obtain ⟨Fk, r, rfl, hM, hP, hE⟩ := hB.out
        have HE := Lib.hid hE
        clear hE
        by_cases hlt : j < k
        · obtain ⟨pb, poff, x, rfl, hpb, hx, k0, k1, k2, k3, k4, k5⟩ := ChsAt.cells (HL.out.1.at hM) j hlt
          have hxo := (HL.out.2.1 _ (List.mem_of_getElem? hx)).2
          obtain ⟨hv0, hv1⟩ := HL.out.2.2 _ (List.mem_of_getElem? hx)
          have hsn := take_snoc hx
          obtain ⟨pz, ⟨⟨xe, xc, xi⟩, xg⟩, gone⟩ := x
          simp only at k0 k1 k2 k3 k4 k5 hxo hv0 hv1
          obtain ⟨pn, rfl⟩ : ∃ pn : Nat, pz = pn := ⟨pz.toNat, by omega⟩
          have hpn4 : pn < 4096 := by omega
          have hM1 := hM.putK (cobj (pn : Nat) xe xc xi xg gone)
          have hPn : ∀ o L' G ys F1 r', MkX Fk (L1 + 3 * j) F1 r' (setX Fk r pn o) → (if gone then none else some ⟨⟨xe, xc, xi⟩, xg⟩) = o → DropIs F1 L' r G ys → PuP R.vs F G r' (chgs (getL 2 F v0) (l.take (j + 1))) := fun o L' G ys F1 r' m ho d => by
            refine (hP.step hM.ok m d).congr fun q hq => ?_
            rw [hsn, chgs_snoc]
            unfold chg
            by_cases e : q = pn
            · rw [if_pos e, if_pos (by simp [e]), ← ho]
            · rw [if_neg e, if_neg (by simp; omega)]
          have hLj : L1 + 3 * j ≤ 2 ^ 34 - 10 := by omega
          have HM1 := Lib.hid hM1
          have HXO := Lib.hid hxo
          have HPn := Lib.hid hPn
          have HRB := Lib.hid hP.root
          have HOk := Lib.hid hM.ok
          clear hM hP hB hM1 hxo hPn hsn hx hv0 hv1
          go_upto_if 62 with fail
          generalize wr.alloc (cobj (pn : Nat) xe xc xi xg gone) = wv at *
          generalize wr.heap.size = B at *
          clear k0 k1 k2 k3 k4 k5
          obtain ⟨Lj, hLj'⟩ : ∃ Lj, L1 + 3 * j = Lj := ⟨_, rfl⟩
          rw [hLj'] at HM1 hLj HPn
          have HLJ := Lib.hid hLj'
          clear hLj'
          have HS : Hid (∀ w', RtA w w' rb (Lj + 3) R F Kx f mb mo blk → True) := fun _ _ => trivial
          have HV1 : Hid (∀ w' L' G', RtA w w' rb L' R G' ((B, cobj (pn : Nat) xe xc xi xg gone) :: Kx) f mb mo blk → w'.cell? ⟨rb, 0, none⟩ = some (.pointer (some ⟨f, 0, none⟩)) ∧ w'.cell? ⟨B, 0, none⟩ = some (.int .i64 (pn : Nat)) ∧ w'.cell? ⟨B, 1, none⟩ = some (.int .i64 xe) ∧ w'.cell? ⟨B, 2, none⟩ = some (.int .i64 xc) ∧ w'.cell? ⟨B, 3, none⟩ = some (.int .i64 xi) ∧ w'.cell? ⟨B, 4, none⟩ = some (.int .i64 xg)) := fun w' L' G' h => by
            have hb := h.lk.1.at (x := (B, cobj (pn : Nat) xe xc xi xg gone)) (by simp)
            obtain ⟨q0, q1, q2, q3, q4, q5⟩ := cobj_at hb
            exact ⟨h.c0, q0, q1, q2, q3, q4⟩
          obtain ⟨c0, q0, q1, q2, q3, q4⟩ := HV1.out _ _ _ HM1.out
          go_cut [14] (fun u wc => ∃ (F1 : Fo) (r' : Nat), u = .int .i64 ((r' : Nat) : Int) ∧ RtA w wc rb (Lj + 3) R F1 ((B, cobj (pn : Nat) xe xc xi xg gone) :: Kx) f mb mo blk ∧ MkX Fk Lj F1 r' (setX Fk r pn (if gone then none else some ⟨⟨xe, xc, xi⟩, xg⟩)))
          case first =>
            cases gone
            · go_upto_region 19 with fail
              have CSt0 := rset_fn HM1.out.drew (by omega) HRB.out hpn4 ⟨⟨xe, xc, xi⟩, xg⟩ HXO.out
              simp only [encE] at CSt0
              have CSt := Lib.hid CSt0
              clear CSt0
              go_region_held3 (fun w' => w'.cell? ⟨rb, 0, none⟩ = some (.pointer (some ⟨f, 0, none⟩)) ∧ w'.cell? ⟨B, 0, none⟩ = some (.int .i64 (pn : Nat)) ∧ w'.cell? ⟨B, 1, none⟩ = some (.int .i64 xe) ∧ w'.cell? ⟨B, 2, none⟩ = some (.int .i64 xc) ∧ w'.cell? ⟨B, 3, none⟩ = some (.int .i64 xi) ∧ w'.cell? ⟨B, 4, none⟩ = some (.int .i64 xg)) (first | exact K3.out | go_keep)
                (first
                  | (go_at_call 37; ((with_reducible refine CSt.out.mono ?_); rintro e w4 ⟨F1, r', rfl, hm4, hx4⟩; have S4 := Lib.hid (And.intro hm4 hx4); have K3 := Lib.hid (HV1.out _ _ _ hm4); clear hm4 hx4)))
              go_wp2
              go_meet
              exact ⟨F1, r', rfl, S4.out.1, S4.out.2⟩
            · go_upto_region 18 with fail
              have CCl := Lib.hid (rclear_fn HM1.out.drew (by omega) HRB.out hpn4)
              go_region_held3 (fun w' => w'.cell? ⟨rb, 0, none⟩ = some (.pointer (some ⟨f, 0, none⟩)) ∧ w'.cell? ⟨B, 0, none⟩ = some (.int .i64 (pn : Nat))) (first | exact K3.out | go_keep)
                (first
                  | (go_at_call 36; ((with_reducible refine CCl.out.mono ?_); rintro e w4 ⟨F1, r', rfl, hm4, hx4⟩; have S4 := Lib.hid (And.intro hm4 hx4); have K3 : Hid (w4.cell? ⟨rb, 0, none⟩ = some (.pointer (some ⟨f, 0, none⟩)) ∧ w4.cell? ⟨B, 0, none⟩ = some (.int .i64 (pn : Nat))) := ⟨(HV1.out _ _ _ hm4).1, (HV1.out _ _ _ hm4).2.1⟩; clear hm4 hx4)))
              go_wp2
              go_meet
              exact ⟨F1, r', rfl, S4.out.1, S4.out.2⟩
          case rest =>
            obtain ⟨F1, r', rfl, hm4, hx4⟩ := hcut
            have c0 := hm4.c0
            have CD : Hid (Calls Tryz.prog 38 #[.pointer (some ⟨f, 0, none⟩), .int .i64 (r : Nat)] wc fun e w' => ∃ a9 n9 cap9, e = .returned (.tuple #[.slice a9 n9 cap9, .int .i64 0]) ∧ PuS w w' rb L1 R F Kx f mb mo blk (getL 2 F v0) v0 l (j + 1) (.int .i64 (r' : Nat))) := by
              have hrB : isB F1 (r : Int) = true := by
                have h1 := HRB.out
                rw [isB_iff] at h1 ⊢
                refine h1.imp id fun h1 => ?_
                rw [hx4.held]; omega
              refine (drop_lv hm4.lk.1 (by omega) hrB).mono fun e w' ⟨v, G, ys, e1, e2, e3, e4⟩ => ?_
              obtain ⟨a9, cap9, rfl⟩ := slice_of_owns e3
              refine ⟨a9, _, cap9, e1, G, r', rfl, ?_, HPn.out _ _ _ _ _ _ hx4 rfl e2, fun h => absurd h (by omega)⟩
              rw [show L1 + 3 * (j + 1) = Lj + 3 by have := HLJ.out; omega]
              exact (hm4.fo e4).lessK
            clear hm4 hx4
            go_wp2_with (go_at_call 38; ((with_reducible refine CD.out.mono ?_); rintro e w5 ⟨a9, n9, cap9, rfl, hs⟩; have S5 := Lib.hid hs; clear hs))
            go_roundw
            case rel => exact ⟨j + 1, by omega, by go_num, S5.out⟩
            case measure => simp [intOf]; omega
        · obtain rfl : j = k := by omega
          have hlk : l.take j = l := List.take_of_length_le (by omega)
          rw [hlk] at hP
          have c2 := hM.c2
          have f2 := hM.fz 2
          rw [HNw.out.1] at c2
          have hM2 := hM.setNow (nw + 1)
          rw [← cast_succU] at hM2
          have hwr : IntKind.u64.wrap ((nw : Int) + 1) = (nw : Int) + 1 := by rw [wrapU]; omega
          have HM2 := Lib.hid hM2
          have HP := Lib.hid hP
          clear hM hP hB hlk hlt hj hM2
          go_upto_region 24 with fail
          generalize wr.setCell ⟨rb, 2, none⟩ (.int .u64 ((nw : Int) + 1)) = wn at *
          have hM3 := HM2.out
          have d1 := hM3.c1
          have d2 := hM3.c2
          rw [show (Ro.now ⟨R.vs, nw + 1⟩) = nw + 1 from rfl, ← cast_succU] at d2
          have hmapB : MapIs Tryz.prog 23 encU (wn.alloc (vobj ⟨r, 0⟩)).drew mb (vL blk R.vs) := (hM3.map.alloc _).drew
          obtain ⟨ky, hky⟩ := keyU (nw + 1) (by omega)
          obtain ⟨w6, hrun, hm6, ht6⟩ := hmapB.run_put keyedU encU_inj Tryz.underlying74 (nw + 1) hky (ptrV wn.heap.size)
          have hrun2 : (Instr.mapUpdate 74 (.map (some mb)) (.int .u64 ((nw : Int) + 1)) (.pointer (some ⟨wn.heap.size, 0, none⟩))).run Tryz.prog (wn.alloc (.cells #[.int .i64 (r : Nat), .int .i64 0] 73)).drew = .ok () w6 := by
            rw [cast_succU]; exact hrun
          have htn : Turned [mb] wn w6 := (((Turned.refl [mb] wn).alloc (vobj ⟨r, 0⟩)).drew).trans ht6
          have hmne : mb ≠ wn.heap.size := by have := hM3.map.lt; omega
          have hB6 : w6.heap[wn.heap.size]? = some (vobj ⟨r, 0⟩) := ht6.at (World.alloc_heap_new wn (vobj ⟨r, 0⟩)) (by simpa using hmne.symm)
          have hnk : nw + 1 ∉ keysV R.vs := fun hm => by
            have := HRo.out.le _ hm
            rw [HNw.out.1] at this; omega
          obtain ⟨mo6, hM6⟩ := hM3.addV (n := nw + 1) hnk ⟨r, 0⟩ (Nat.le_refl _) htn hB6 hm6
          have hrm : rb ∉ [mb] := by simpa using hM3.apart.rm
          have K6 : Hid (w6.cell? ⟨rb, 1, none⟩ = some (.map (some mb)) ∧ w6.cell? ⟨rb, 2, none⟩ = some (.int .u64 ((nw : Int) + 1))) := ⟨htn.cell d1 hrm, htn.cell d2 hrm⟩
          have hv6 : vget (R.vs ++ [(nw + 1, ⟨r, 0⟩)]) nw = some ⟨v0, hd⟩ := vget_append_old (by rw [← HNw.out.1]; exact HV.out)
          have hrr : isB Fk (v0 : Int) = true := by
            rw [isB_iff]
            by_cases h0 : v0 = 0
            · exact .inl h0
            · right
              rw [HP.out.held v0 h0]
              have := List.count_pos_iff.2 (show v0 ∈ rootsV R.vs from List.mem_map.2 ⟨_, vget_some HV.out, rfl⟩)
              omega
          have CSw : Hid (Calls Tryz.prog 39 #[.pointer (some ⟨rb, 0, none⟩), .int .u64 (nw : Nat)] w6.drew fun e w' => ∃ a9 n9 cap9, e = .returned (.slice a9 n9 cap9) ∧ w'.cell? ⟨rb, 2, none⟩ = some (.int .u64 ((nw : Int) + 1)) ∧ pubPost w rb L R F Kx ⟨v0, hd⟩ l (.returned (.tuple #[.int .u64 ((nw : Int) + 1), .slice a9 n9 cap9, .int .i64 0])) w') := by
            refine (rsweep_fn hM6.drew (by omega) hnw64 hv6 hrr).mono fun e w' ⟨a9, n9, cap9, R', G, ys, mo9, e0, e1, e2, e3, e4⟩ => ⟨a9, n9, cap9, e1, ?_, ?_⟩
            · have hnow : R'.now = nw + 1 := by
                rcases e2 with ⟨_, rfl, _⟩ | ⟨_, rfl, _⟩ <;> rfl
              have := e4.c2
              rw [hnow, ← cast_succU] at this
              exact this
            · have hLj0 : l.length = j := hll
              have hLL : L + 1 + 3 * l.length = L1 + 3 * j := by have := HL1.out; omega
              refine ⟨a9, n9, cap9, Fk, r, R', G, ys, e0, ?_, ?_, HP.out, fun hl => HE.out (by rw [← hLj0, hl]; rfl), ?_, e3, ?_⟩
              · rw [HNw.out.1, cast_succU]
              · rw [hLL]; exact hM6.ok
              · rw [hLL, HNw.out.1]; exact e2
              · rw [hLL]; exact ⟨_, _, _, _, e4⟩
          have c6 := K6.out.2
          clear hM3 hmapB hky hrun htn hmne hB6 hnk hM6 hrm hv6 hrr hm6 ht6 c6
          go_region_held3 (fun w' => w'.cell? ⟨rb, 1, none⟩ = some (.map (some mb)) ∧ w'.cell? ⟨rb, 2, none⟩ = some (.int .u64 ((nw : Int) + 1))) (first | exact K6.out | go_keep) (fail)
          clear hrun2 d1 d2
          have c6 := K6.out.2
          go_upto_region 25 with fail
          go_region_held3 (fun w' => w'.cell? ⟨rb, 2, none⟩ = some (.int .u64 ((nw : Int) + 1))) (first | exact K7.out | go_keep)
            (first
              | (go_at_call 39; ((with_reducible refine CSw.out.mono ?_); rintro e w7 ⟨a9, n9, cap9, rfl, hc7, hp7⟩; have K7 := Lib.hid hc7; have HP7 := Lib.hid hp7; clear hc7 hp7)))
          go_wp2
          go_ret3
          exact HP7.out
end Go.Proofs.YtmpbhoijkcanmaaGreat.R

/- Roots: New; what none answers. -/
namespace Go.Proofs.YtmpbhoijkcanmaaGreat.R
open Go.ChangeShapes Go.WideShapes Go.ChangeAt Go.RowKit Go.Maps Go.Proofs.YtmpbhoijkcanmaaGreat.G Go.Joins
set_option linter.unusedVariables false
set_option linter.unusedSimpArgs false
set_option linter.unnecessarySimpa false

variable {w ww w' : World} {rb L T n : Nat} {R : Ro} {F G : Fo} {Kx : List (Nat × Obj)} {f mb : Nat} {mo : Obj} {blk : Nat → Nat}
def ro0 : Ro := ⟨[(0, ⟨0, 0⟩)], 0⟩
theorem ro0_ok : RoOk ro0 fo0 0 :=
  ⟨by decide, fun n hn => by simp [ro0, keysV] at hn; omega, by decide, fun r h0 => by
    have : (rootsV ro0.vs).count r = 0 := by
      rw [List.count_eq_zero]
      simp [rootsV, ro0]; exact h0
    rw [this]; rfl, ⟨Nat.le_refl _, fun x hx => by simp [ro0] at hx; subst hx; exact Nat.le_refl _⟩, fun x hx => by simp [ro0] at hx; subst hx; exact .inl rfl⟩
theorem rnew_step {w1 : World} (h : LV w w1 f fo0 0 []) : ∃ w3, (Instr.mapUpdate 74 (.map (some w1.heap.size)) (.int .u64 0) (.pointer (some ⟨w1.heap.size + 1, 0, none⟩))).run Tryz.prog ((w1.alloc (.map #[] 0)).alloc (.cells #[.int .i64 0, .int .i64 0] 73)) = .ok () w3 ∧
    RtM w (w3.alloc (.cells #[.pointer (some ⟨f, 0, none⟩), .map (some w1.heap.size), .int .u64 0] 76)) w3.heap.size 0 ro0 fo0 [] := by
  have h2 := (h.put (.map #[] 0)).put (vobj ⟨0, 0⟩)
  obtain ⟨m, hm⟩ : ∃ m, w1.heap.size = m := ⟨_, rfl⟩
  have hm0 : w.heap.size ≤ m := by have := h.bel.size; omega
  have hmap : MapIs Tryz.prog 23 encU ((w1.alloc (.map #[] 0)).alloc (vobj ⟨0, 0⟩)) m ([] : List (Nat × Value)) := by
    have : MapIs Tryz.prog 23 encU (w1.alloc (.map #[] 0)) w1.heap.size ([] : List (Nat × Value)) := MapIs.made w1
    rw [hm] at this
    exact this.alloc _
  have hs1 : (w1.alloc (.map #[] 0)).heap.size = m + 1 := by simp [hm]
  rw [hs1, hm] at h2
  obtain ⟨ky, hky⟩ := keyU 0 (by omega)
  obtain ⟨w3, hrun, hm3, ht3⟩ := hmap.run_put keyedU encU_inj Tryz.underlying74 0 hky (ptrV (m + 1))
  rw [hm]
  refine ⟨w3, hrun, ?_⟩
  obtain ⟨mo', hmo⟩ := at_some hm3.lt
  have e1 : w3.heap[m + 1]? = some (vobj ⟨0, 0⟩) := ht3.at (h2.at (x := (m + 1, vobj ⟨0, 0⟩)) (by simp)) (by simp)
  have h3 : LV w w3 f fo0 0 [(m + 1, vobj ⟨0, 0⟩), (m, mo')] := h2.turn ht3 (fun b hb => by simp at hb; subst hb; exact ⟨hm0, by simp [keysK]⟩) fun x hx => by
    simp only [List.mem_cons, List.not_mem_nil, or_false] at hx
    rcases hx with rfl | rfl
    · exact ⟨e1, .inr (by simp [keysK])⟩
    · exact ⟨hmo, .inr (by simp [keysK])⟩
  have hl1 := lt_of_at e1
  have h4 := h3.put (robj f m 0)
  refine ⟨f, m, mo', fun _ => m + 1, lk_mk (R := ro0) (h4.sub fun x hx => ?_) ?_, ?_, ?_, hm0, fun x hx => by omega⟩
  · simp only [ro0, vK, List.map_cons, List.map_nil, List.append_nil, List.mem_cons, List.not_mem_nil, or_false] at hx ⊢
    rcases hx with h | h | h
    · exact .inl h
    · exact .inr (.inr h)
    · exact .inr (.inl h)
  · simp only [ro0, keysV, keysK, List.map_cons, List.map_nil]
    exact ⟨by omega, by simp; omega, by simp, by simp, by simp, by simp, by simp, by simp⟩
  · exact hm3.alloc _
  · have := h3.bel.size; omega
set_option maxRecDepth 100000 in
theorem rnew_fn (ww : World) (hb : Below w.heap.size w ww) : Calls Tryz.prog 6 #[] ww fun e w' => ∃ rb, e = .returned (.pointer (some ⟨rb, 0, none⟩)) ∧ RtM w w' rb 0 ro0 fo0 [] := by
  have CN := Lib.hid (new_lv hb)
  have hmm := @run_makeMap Tryz.prog
  go_enter Tryz.func6, Tryz.ntmps6
  go_wp2_with (go_at_call 24; ((with_reducible refine CN.out.mono ?_); rintro e w1 ⟨f, rfl, hs⟩; obtain ⟨w3, hrun, hr⟩ := rnew_step hs; have HR := Lib.hid hr; clear hs hr))
  go_ret
  exact ⟨_, rfl, HR.out⟩
set_option maxRecDepth 100000 in
theorem rnow_nil (w : World) : Calls Tryz.prog 9 #[.pointer none] w fun e w' => e = .returned (.int .u64 0) ∧ w = w' := by
  have CN := Lib.hid (rnone_nil w)
  go_enter Tryz.func9, Tryz.ntmps9
  go_wp2_with (go_at_call 28; ((with_reducible refine CN.out.mono ?_); rintro e ww ⟨rfl, rfl⟩))
  go_ret
  exact ⟨rfl, rfl⟩
set_option maxRecDepth 100000 in
theorem rnodes_nil (w : World) : Calls Tryz.prog 23 #[.pointer none] w fun e w' => e = .returned (.int .i64 0) ∧ w = w' := by
  have CN := Lib.hid (rnone_nil w)
  go_enter Tryz.func23, Tryz.ntmps23
  go_wp2_with (go_at_call 28; ((with_reducible refine CN.out.mono ?_); rintro e ww ⟨rfl, rfl⟩))
  go_ret
  exact ⟨rfl, rfl⟩
set_option maxRecDepth 100000 in
theorem rslots_nil (w : World) : Calls Tryz.prog 14 #[.pointer none] w fun e w' => e = .returned (.slice none 0 0) ∧ w = w' := by
  have CN := Lib.hid (rnone_nil w)
  go_enter Tryz.func14, Tryz.ntmps14
  go_wp2_with (go_at_call 28; ((with_reducible refine CN.out.mono ?_); rintro e ww ⟨rfl, rfl⟩))
  go_ret
  exact ⟨rfl, rfl⟩
set_option maxRecDepth 100000 in
theorem rvers_nil (w : World) : Calls Tryz.prog 11 #[.pointer none] w fun e w' => e = .returned (.slice none 0 0) ∧ w = w' := by
  have CN := Lib.hid (rnone_nil w)
  go_enter Tryz.func11, Tryz.ntmps11
  go_wp2_with (go_at_call 28; ((with_reducible refine CN.out.mono ?_); rintro e ww ⟨rfl, rfl⟩))
  go_ret
  exact ⟨rfl, rfl⟩
set_option maxRecDepth 100000 in
theorem rhold_nil (n : Nat) (w : World) : Calls Tryz.prog 21 #[.pointer none, .int .u64 (n : Nat)] w fun e w' => e = .returned (.int .i64 1) ∧ w = w' := by
  have CN := Lib.hid (rnone_nil w)
  go_enter Tryz.func21, Tryz.ntmps21
  go_wp2_with (go_at_call 28; ((with_reducible refine CN.out.mono ?_); rintro e ww ⟨rfl, rfl⟩))
  go_ret
  exact ⟨rfl, rfl⟩
set_option maxRecDepth 100000 in
theorem rrel_nil (n : Nat) (w : World) : Calls Tryz.prog 22 #[.pointer none, .int .u64 (n : Nat)] w fun e w' => e = .returned (.tuple #[.slice none 0 0, .int .i64 1]) ∧ w = w' := by
  have CN := Lib.hid (rnone_nil w)
  go_enter Tryz.func22, Tryz.ntmps22
  go_wp2_with (go_at_call 28; ((with_reducible refine CN.out.mono ?_); rintro e ww ⟨rfl, rfl⟩))
  go_ret2
  exact ⟨rfl, rfl⟩
set_option maxRecDepth 100000 in
theorem rall_nil (n : Nat) (w : World) : Calls Tryz.prog 18 #[.pointer none, .int .u64 (n : Nat)] w fun e w' => e = .returned (.tuple #[.slice none 0 0, .int .i64 1]) ∧ w = w' := by
  have CN := Lib.hid (rnone_nil w)
  go_enter Tryz.func18, Tryz.ntmps18
  go_wp2_with (go_at_call 28; ((with_reducible refine CN.out.mono ?_); rintro e ww ⟨rfl, rfl⟩))
  go_ret2
  exact ⟨rfl, rfl⟩
set_option maxRecDepth 100000 in
theorem rpub_nil (n : Nat) (a : Option Addr) (len cap : Nat) (w : World) : Calls Tryz.prog 20 #[.pointer none, .int .u64 (n : Nat), .slice a len cap] w fun e w' => e = .returned (.tuple #[.int .u64 0, .slice none 0 0, .int .i64 1]) ∧ w = w' := by
  have CN := Lib.hid (rnone_nil w)
  go_enter Tryz.func20, Tryz.ntmps20
  go_wp2_with (go_at_call 28; ((with_reducible refine CN.out.mono ?_); rintro e ww ⟨rfl, rfl⟩))
  go_ret3
  exact ⟨rfl, rfl⟩
set_option maxRecDepth 100000 in
theorem rget_nil (n : Nat) (pg : Int) (w : World) : Calls Tryz.prog 16 #[.pointer none, .int .u64 (n : Nat), .int .i64 pg] w (rgetPost w zeroE false 1) := by
  have CN := Lib.hid (rnone_nil (w.alloc (varE 0 0 0 0)))
  have hnw := ent_new w 47 ⟨⟨0, 0, 0⟩, 0⟩
  have g0 := hnw.c0
  have g1 := hnw.c1
  have g2 := hnw.c2
  have g3 := hnw.c3
  simp only at g0 g1 g2 g3
  have HB : Hid (Below w.heap.size w (w.alloc (varE 0 0 0 0))) := ((Turned.refl [] w).alloc _).below
  clear hnw
  go_enter Tryz.func16, Tryz.ntmps16
  go_wp2_with (go_at_call 28; ((with_reducible refine CN.out.mono ?_); rintro e ww ⟨rfl, rfl⟩))
  exact bodyPost_ret (v := .tuple #[.agg #[.int .i64 0, .int .i64 0, .int .i64 0, .int .i64 0], .bool false, .int .i64 1]) (by simp [results, Tryz.results16, go_sem, g0, g1, g2, g3]) rfl ⟨rfl, HB.out⟩
end Go.Proofs.YtmpbhoijkcanmaaGreat.R

/- Roots: maps.Keys, slices.AppendSeq, slices.Collect over versions' numbers. -/
namespace Go.Proofs.YtmpbhoijkcanmaaGreat.R
open Go.ChangeShapes Go.WideShapes Go.ChangeAt Go.RowKit Go.Maps Go.Proofs.YtmpbhoijkcanmaaGreat.G Go.Sort Go.Shelf Go.Lib
set_option linter.unusedVariables false
set_option linter.unusedSimpArgs false
set_option linter.unnecessarySimpa false

def uAB : { p : Code × Code // Tryz.f59.body.bind rfOf = some p } := ⟨_, rfl⟩
def uAssign : Code := uAB.1.1
def uBody : Code := uAB.1.2
/-- the loop's record -/
def uRec (fn : FuncId) (sv : Value) (Bs D : Nat) (st : LoopState) (pend : Option Code) : Loop :=
  { state := st, pending := pend, fn, tmps := #[.slice none 0 0, sv, .pointer (some ⟨Bs, 0, none⟩), undef, .slice none 0 0, undef, sv, undef, undef, undef, undef, undef, undef], params := #[7], assign := uAssign, body := uBody, defers := D }
/-- between two rounds -/
structure UAt (w0 : World) (fn : FuncId) (sv : Value) (Bs l D : Nat) (ss : List Nat) (W : World) : Prop where
  box : ∃ v, W.heap[Bs]? = some (.cells #[v] 39 (0, 0)) ∧ W.ownsRow w0.heap.size 23 1 v ss.length (ss.map encU) ∧ (v = .slice none 0 0 ↔ ss = [])
  L : W.heap[l]? = some (.loop (uRec fn sv Bs D .ready none))
  K : W.heap[D]? = some (.deferred (some []))
  below : Below w0.heap.size w0 W
theorem u_abides (w0 : World) (fn : FuncId) (sv : Value) (Bs l D B : Nat) (hB : w0.heap.size ≤ B) : AbidesFrom B (UAt w0 fn sv Bs l D) := fun s W W' row h hg hrow => by
  have hrow' : ∀ r, row = some r → ∃ o : Obj, W.heap[r]? = some o ∧ o.isWalk = true := fun r e => (hrow r e).2
  obtain ⟨v, hv, hr, hn⟩ := h.box
  exact ⟨⟨v, (grownBy_keeps hg hrow' hv rfl).trans hv, ownsRow_abides_a hr hg hrow', hn⟩, (grownBy_keeps hg hrow' h.L rfl).trans h.L, (grownBy_keeps hg hrow' h.K rfl).trans h.K,
    h.below.grown hg h.below.size (fun k e => Nat.le_trans hB (hrow k e).1)⟩
theorem infoU : ∃ i0, Tryz.prog.info? 23 = some i0 ∧ i0.zero = some (.int .u64 0) ∧ i0.size = 1 ∧ i0.bytes = 8 := by
  have h : (Tryz.prog.info? 23).map (fun i => (i.zero, i.size, i.bytes)) = some (some (.int .u64 0), 1, 8) := by kernel_rfl
  cases e : Tryz.prog.info? 23 with
  | none => rw [e] at h; simp at h
  | some i =>
    rw [e] at h
    simp only [Option.map_some, Option.some.injEq, Prod.mk.injEq] at h
    exact ⟨i, rfl, h.1, h.2.1, h.2.2⟩
set_option maxRecDepth 100000 in
set_option maxHeartbeats 2000000 in
theorem uYield (F : Fence) (m : Nat) (w0 : World) (fn : FuncId) (hfn : F.fn fn) (sv : Value) (Bs l D : Nat) (hBl : Bs ≠ l) (hDl : D ≠ l) (hDB : D ≠ Bs) (h0B : w0.heap.size ≤ Bs) (h0l : w0.heap.size ≤ l)
    (N : Nat) (hN : N ≤ maxLen) (hNb : N * 8 ≤ 140737488355328) (ss : List Nat) (x : Nat) (W : World) (h : UAt w0 fn sv Bs l D ss W) (hlen : ss.length < N) :
    YieldAt F m Tryz.prog l #[encU x] W fun e W' => e = .returned (.bool true) ∧ UAt w0 fn sv Bs l D (ss ++ [x]) W' ∧ KeepsWalks W W' := by
  have hne : (39 : Nat) ≠ 23 := by decide
  obtain ⟨i0, hi, hz0, hz1, hz2⟩ := infoU
  have hl0 : l < W.heap.size := (Array.getElem?_eq_some_iff.1 h.L).1
  refine ⟨fn, #[.slice none 0 0, sv, .pointer (some ⟨Bs, 0, none⟩), undef, .slice none 0 0, undef, sv, encU x, undef, undef, undef, undef, undef], uAssign, uBody, by simpa [uRec] using run_yield (P := Tryz.prog) (args := #[encU x]) h.L rfl, roundIn_of_wpIn hfn ?_⟩
  unfold encU
  unfold uAssign uAB
  dsimp only
  gi_wp2_with gi_round_op_a
  obtain ⟨W1, hW1⟩ : ∃ W1, W = W1 := ⟨_, rfl⟩
  subst hW1
  have hkA : KeepsWalks W W := KeepsWalks.refl _
  have h1 := h
  have h := h1
  obtain ⟨v, hv, hrow, _⟩ := h.box
  have hl : l < W.heap.size := (Array.getElem?_eq_some_iff.1 h.L).1
  have hbr := run_beginRound (P := Tryz.prog) h.L rfl
  obtain ⟨W2, hW2⟩ : ∃ W2, W.putObj l (.loop { uRec fn sv Bs D .ready none with state := .busy }) = W2 := ⟨_, rfl⟩
  rw [hW2] at hbr
  have hg2 : W.grownBy W2 (some l) := by rw [← hW2]; exact grownBy_putObj_a _ _ _
  have hk2 : KeepsWalks W W2 := by rw [← hW2]; exact KeepsWalks.putObj _ h.L rfl
  have hv2 : W2.heap[Bs]? = some (.cells #[v] 39 (0, 0)) := by rw [← hW2]; exact (World.putObj_heap_other hBl).trans hv
  have hK2 : W2.heap[D]? = some (.deferred (some [])) := by rw [← hW2]; exact (World.putObj_heap_other hDl).trans h.K
  have hL2 : W2.heap[l]? = some (.loop { uRec fn sv Bs D .ready none with state := .busy }) := by rw [← hW2]; exact World.putObj_heap_same hl
  have hrow2 : W2.ownsRow w0.heap.size 23 1 v ss.length (ss.map encU) := hrow.kept hg2 (ownsRow_ne_a hrow h.L (fun cur e => by cases e))
  have hb2 : Below w0.heap.size w0 W2 := h.below.grown hg2 h.below.size (fun k e => by cases e; exact h0l)
  have tl : Turned [l] W W2 := ⟨hg2.os, hg2.tape, hg2.output, hg2.size, fun k hk hn => hg2.block k hk (by simpa using fun e => hn (by simp [e]))⟩
  obtain ⟨hc2, hf2⟩ := cell_of_box_a hv2
  have hBlt : Bs < W2.heap.size := (Array.getElem?_eq_some_iff.1 hv2).1
  have hl2 : l < W2.heap.size := (Array.getElem?_eq_some_iff.1 hL2).1
  have hDlt : D < W2.heap.size := (Array.getElem?_eq_some_iff.1 hK2).1
  have ne_of : ∀ {j : Nat} {o : Obj}, W2.heap[j]? = some o → (∀ cur, o ≠ .cells cur 23 (0, 0)) → some j ≠ v.ownBlock := fun hj hno => by
    rcases ownsRow_ne_a hrow2 hj hno with e | e
    · rw [e]; simp
    · exact fun e' => e e'.symm
  clear hW2
  refine ⟨W2, hbr, ?_⟩
  unfold uBody uAB
  dsimp only
  gi_wp2_with (first
    | (gi_at_builtin; refine wpListIn_append_own _ rfl _ _ 39 rfl w0.heap.size 23 i0 (.int .u64 0) 1 8 Tryz.underlying39 hi hz0 hz1 hz2 rfl (by decide) _ _ _ rfl (hrow2.alloc _) ⟨W2.heap.size, 0, none⟩ 1 1 [.int .u64 (x : Nat)] rfl rfl (fun j u hj => cells_new W2 [.int .u64 (x : Nat)] 23 j u hj) (fun u hu => by simp at hu; subst hu; rfl) (by omega) (by omega) (by have := hb2.size; simp; omega) ?_; intro v' w3 hown' hg3 hnil3
       have hv3 : w3.heap[Bs]? = some (.cells #[v] 39 (0, 0)) := (hg3.block Bs (by simp; omega) (ne_of hv2 (fun cur e => by first | cases e | exact hne (Obj.cells.inj e).2.1))).trans ((Below.heap_alloc _ _ Bs hBlt).trans hv2)
       obtain ⟨hc3, hf3⟩ := cell_of_box_a hv3
       obtain ⟨g', cap', cur', rfl, hbase', hgb', hr1, hr2, hr3, hr4⟩ : ∃ g' cap' cur', v' = .slice (some ⟨g', 0, none⟩) (ss.length + 1) cap' ∧ w0.heap.size ≤ g' ∧ w3.heap[g']? = some (.cells cur' 23 (0, 0)) ∧ ss.length + 1 ≤ cap' ∧ cap' ≤ maxLen ∧ cur'.size = cap' * 1 ∧ cur'.toList.take ((ss.length + 1) * 1) = ss.map encU ++ [.int .u64 (x : Nat)] := by
         rcases hown'.2 with ⟨_, h0⟩ | h'
         · exact absurd h0 (by omega)
         · exact h'
       go_frame)
    | gi_round_op_a)
  have hg3' : (W2.alloc (.cells #[.int .u64 (x : Nat)] 23)).grownBy w3 v.ownBlock := hg3
  have hL3 : w3.heap[l]? = some (.loop { uRec fn sv Bs D .ready none with state := .busy }) := (hg3'.block l (by simp; omega) (ne_of hL2 (fun cur e => by cases e))).trans ((Below.heap_alloc _ _ l hl2).trans hL2)
  have hK3 : w3.heap[D]? = some (.deferred (some [])) := (hg3'.block D (by simp; omega) (ne_of hK2 (fun cur e => by cases e))).trans ((Below.heap_alloc _ _ D hDlt).trans hK2)
  obtain ⟨w4, hw4⟩ : ∃ w4, w3.setCell ⟨Bs, 0, none⟩ (.slice (some ⟨g', 0, none⟩) (ss.length + 1) cap') = w4 := ⟨_, rfl⟩
  rw [hw4]
  have hg4 : w3.grownBy w4 (some Bs) := by rw [← hw4]; exact grownBy_setCell0_a _ _ _
  have hv4 : w4.heap[Bs]? = some (.cells #[.slice (some ⟨g', 0, none⟩) (ss.length + 1) cap'] 39 (0, 0)) := by rw [← hw4]; exact heap_setCell_box_a _ hv3
  have hL4 : w4.heap[l]? = some (.loop { uRec fn sv Bs D .ready none with state := .busy }) := (hg4.block l (Array.getElem?_eq_some_iff.1 hL3).1 (fun e => hBl (by cases e; rfl))).trans hL3
  have hK4 : w4.heap[D]? = some (.deferred (some [])) := (hg4.block D (Array.getElem?_eq_some_iff.1 hK3).1 (fun e => hDB (by cases e; rfl))).trans hK3
  have hrow4 := hown'.kept hg4 (ownsRow_ne_a hown' hv3 (fun cur e => by first | cases e | exact hne (Obj.cells.inj e).2.1))
  have hl4 : l < w4.heap.size := (Array.getElem?_eq_some_iff.1 hL4).1
  have hb3 : Below w0.heap.size w0 w3 := (hb2.alloc hb2.size _).grown hg3' (by have := hb2.size; simp; omega) (fun k e => (hrow2.lt k e).1)
  have hb4 : Below w0.heap.size w0 w4 := hb3.grown hg4 hb3.size (fun k e => by cases e; exact h0B)
  have hk4 : KeepsWalks W w4 := hkA.trans (((hk2.trans (KeepsWalks.alloc _ _)).trans (KeepsWalks.of_grownBy hg3' (ownsRow_not_walk_a (hrow2.alloc _)))).trans (by rw [← hw4]; exact KeepsWalks.setCell _ _ _))
  clear hw4
  refine ⟨_, _, run_endRound none hL4, rfl, ⟨⟨_, (World.putObj_heap_other hBl).trans hv4, ?_, by simp⟩, World.putObj_heap_same hl4, (World.putObj_heap_other hDl).trans hK4, hb4.grown (grownBy_putObj_a _ _ _) hb4.size (fun k e => by cases e; exact h0l)⟩, hk4.trans (KeepsWalks.putObj _ hL4 rfl)⟩
  have := hrow4.kept (grownBy_putObj_a w4 l (.loop { { uRec fn sv Bs D .ready none with state := .busy } with state := if (none : Option Code).isNone then .ready else .done, pending := none })) (ownsRow_ne_a hrow4 hL4 (fun cur e => by cases e))
  rw [List.map_append, List.length_append, List.length_singleton]
  exact this

set_option maxRecDepth 100000 in
set_option maxHeartbeats 2000000 in
/-- slices.AppendSeq(nil, seq) -/
theorem appendSeqU_in (F : Fence) (n : Nat) (h11 : F.fn 59) (hro : F.round = none) (hn : 2 ≤ n) (g : Nat) (lb : Array Value) (hFg : F.fn g) (eg : ∀ args w, (callFunc g args).run Tryz.prog w = .ok (.enter g args) w)
    (S : List Nat → Prop) (N : Nat) (hN : N ≤ maxLen) (hNb : N * 8 ≤ 140737488355328) (w : World) (hseq : SeqGives F (n - 1) Tryz.prog g lb encU S N w) :
    CallsIn F n Tryz.prog 59 #[.slice none 0 0, .func (.func g) #[] lb] w fun e w' => ∃ (v : Value) (ss : List Nat), e = .returned v ∧ S ss ∧ w'.ownsRow w.heap.size 23 1 v ss.length (ss.map encU) ∧ (v = .slice none 0 0 ↔ ss = []) ∧ Below w.heap.size w w' := by
  have h1 : 1 ≤ n := by omega
  have hne : (39 : Nat) ≠ 23 := by decide
  refine callsIn_of_wp_marks Tryz.func59 rfl h11 ?_ hro
  simp only [Tryz.ntmps59, List.size_toArray, List.length_cons, List.length_nil, Nat.reduceAdd, Nat.reduceSub, Array.replicate_succ, Array.replicate_zero, List.push_toArray, List.append_toArray, List.nil_append, List.cons_append]
  gi_wp2
  refine wpIn_rangeFunc ?_
  intro fn hfn
  rw [hro]
  obtain ⟨W0, hW0⟩ : ∃ W0, w.alloc (.cells #[.slice none 0 0] 39) = W0 := ⟨_, rfl⟩
  have hs0 : W0.heap.size = w.heap.size + 1 := by rw [← hW0]; simp
  have hv0 : W0.heap[w.heap.size]? = some (.cells #[.slice none 0 0] 39 (0, 0)) := by rw [← hW0]; exact World.alloc_heap_new w _
  have hb0 : Below w.heap.size w W0 := by rw [← hW0]; exact (Below.refl _ w).alloc (Nat.le_refl _) _
  rw [hW0]
  obtain ⟨W, hW⟩ : ∃ W, (W0.alloc (.deferred (some []))).alloc (.loop (uRec fn (.func (.func g) #[] lb) w.heap.size W0.heap.size .ready none)) = W := ⟨_, rfl⟩
  have hold : ∀ k, k < W0.heap.size → W.heap[k]? = W0.heap[k]? := fun k hk => by
    rw [← hW]; exact (Below.heap_alloc _ _ k (by simp; omega)).trans (Below.heap_alloc _ _ k hk)
  have hb1 : Below w.heap.size w W := by rw [← hW]; exact (hb0.alloc hb0.size _).alloc (by have := hb0.size; simp; omega) _
  have hs1 : W.heap.size = W0.heap.size + 2 := by rw [← hW]; simp
  have hM : UAt w fn (.func (.func g) #[] lb) w.heap.size (W0.heap.size + 1) W0.heap.size [] W :=
    ⟨⟨_, (hold w.heap.size (by omega)).trans hv0, ⟨rfl, .inl ⟨rfl, rfl⟩⟩, by simp⟩,
     by rw [← hW]; have := World.alloc_heap_new (W0.alloc (.deferred (some []))) (.loop (uRec fn (.func (.func g) #[] lb) w.heap.size W0.heap.size .ready none)); rwa [World.size_alloc] at this,
     by rw [← hW]; exact (Below.heap_alloc _ _ _ (by simp)).trans (World.alloc_heap_new W0 _), hb1⟩
  refine ⟨W0.heap.size + 1, [{ target := .collected W0.heap.size, args := #[] }], W, { target := .fn (.func g) lb, args := #[.func (.yield (W0.heap.size + 1)) #[] #[]] }, W, g,
    #[.func (.yield (W0.heap.size + 1)) #[] #[]] ++ lb, W, ?_, ?_, ?_, ?_, fun _ => h1, ?_⟩
  · rw [← hW]; exact run_enterLoop_outer _ _ _ _ _
  · simp [resolve, go_sem]
  · intro f' hf'; simp [Target.leads] at hf'; subst hf'; exact hFg
  · simp [invoke, go_sem, eg]
  · refine (hseq (W0.heap.size + 1) (UAt w fn (.func (.func g) #[] lb) w.heap.size (W0.heap.size + 1) W0.heap.size) W hb1 (u_abides _ _ _ _ _ _ _ hb1.size)
      (fun pre x W hJ hl => uYield F (n - 1 - 1) w fn hfn _ w.heap.size (W0.heap.size + 1) W0.heap.size (by omega) (by omega) (by omega) (Nat.le_refl _) (by omega) N hN hNb pre x W hJ hl) hM).mono ?_
    rintro e W2 ⟨⟨v0, rfl⟩, ss, hS, h2⟩
    obtain ⟨v, hv, hrow, hnil⟩ := h2.box
    have hend := run_endLoop (P := Tryz.prog) h2.L (by simp [uRec])
    obtain ⟨W3, hW3⟩ : ∃ W3, W2.putObj (W0.heap.size + 1) (.loop { uRec fn (.func (.func g) #[] lb) w.heap.size W0.heap.size .ready none with state := .exhausted }) = W3 := ⟨_, rfl⟩
    rw [hW3] at hend
    have hg3 : W2.grownBy W3 (some (W0.heap.size + 1)) := by rw [← hW3]; exact grownBy_putObj_a _ _ _
    have hv3 : W3.heap[w.heap.size]? = some (.cells #[v] 39 (0, 0)) := by rw [← hW3]; exact (World.putObj_heap_other (by omega)).trans hv
    have hK3 : W3.heap[W0.heap.size]? = some (.deferred (some [])) := by rw [← hW3]; exact (World.putObj_heap_other (by omega)).trans h2.K
    have hrow3 := hrow.kept hg3 (ownsRow_ne_a hrow h2.L (fun cur e => by cases e))
    have hb3 : Below w.heap.size w W3 := h2.below.grown hg3 h2.below.size (fun k e => by cases e; omega)
    obtain ⟨hc3, hf3⟩ := cell_of_box_a hv3
    clear hW3
    refine ⟨none, W3, hend, ?_⟩
    gi_wp2
    rw [← hs0]
    refine ⟨by simp, .inl ⟨_, _, rfl, run_takeDeferred hK3, ?_⟩⟩
    exact ⟨_, results_tmp rfl _ _ _, v, ss, rfl, hS, hrow3.kept (grownBy_putObj_a _ _ _) (ownsRow_ne_a hrow3 hK3 (fun cur e => by cases e)), hnil, hb3.grown (grownBy_putObj_a _ _ _) hb3.size (fun k e => by cases e; omega)⟩

set_option maxHeartbeats 1000000 in
/-- slices.Collect(seq) -/
theorem collectU_in (F : Fence) (n : Nat) (h8 : F.fn 44) (h11 : F.fn 59) (hro : F.round = none) (hn : 3 ≤ n) (g : Nat) (lb : Array Value) (hFg : F.fn g) (eg : ∀ args w, (callFunc g args).run Tryz.prog w = .ok (.enter g args) w)
    (S : List Nat → Prop) (N : Nat) (hN : N ≤ maxLen) (hNb : N * 8 ≤ 140737488355328) (w : World) (hseq : SeqGives F (n - 1 - 1) Tryz.prog g lb encU S N w) :
    CallsIn F n Tryz.prog 44 #[.func (.func g) #[] lb] w fun e w' => ∃ (v : Value) (ss : List Nat), e = .returned v ∧ S ss ∧ w'.ownsRow w.heap.size 23 1 v ss.length (ss.map encU) ∧ (v = .slice none 0 0 ↔ ss = []) ∧ Below w.heap.size w w' := by
  have h1 : 1 ≤ n := by omega
  have e11 : ∀ args w, (callFunc 59 args).run Tryz.prog w = .ok (.enter 59 args) w := enters_of Tryz.func59 (by kernel_rfl) rfl
  refine callsIn_of_wp Tryz.func44 rfl h8 ?_ hro
  simp only [Tryz.ntmps44, List.size_toArray, List.length_cons, List.length_nil, Nat.reduceAdd, Nat.reduceSub, Array.replicate_succ, Array.replicate_zero, List.push_toArray, List.append_toArray, List.nil_append, List.cons_append]
  gi_wp2_with (gi_at_fn 59; refine (appendSeqU_in F (n - 1) h11 hro (by omega) g lb hFg eg S N hN hNb _ hseq).mono ?_; rintro e w' ⟨v, ss, rfl, hS, hrow, hnil, hb⟩)
  go_ret
  exact ⟨v, ss, rfl, hS, hrow, hnil, hb⟩
end Go.Proofs.YtmpbhoijkcanmaaGreat.R
