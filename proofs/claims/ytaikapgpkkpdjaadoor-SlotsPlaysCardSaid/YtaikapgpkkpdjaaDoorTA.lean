/- Slots: calls that come in; which slot is picked; two rows the same. -/
import Derived.Test.YtaikapgpkkpdjaaDoorSV
import Derived.Deep.Slices
import Derived.ChangeSame
namespace Go.Proofs.YtaikapgpkkpdjaaDoor.L
open Go.ChangeShapes Go.WideShapes Go.ChangeAt Go.RowKit Go.Maps Go.Proofs.YtaikapgpkkpdjaaDoor.G Go.Sort Go.Shelf Go.Lib Go.Deep
set_option linter.unusedVariables false
set_option linter.unusedSimpArgs false

/-- a call that comes in -/
structure CallD where
  doo : Int
  cls : Int
  which : Int
  odd : Bool
  x : Slot
  ep : Nat
def CallD.ok (c : CallD) : Prop := (0 ≤ c.doo ∧ c.doo ≤ 255) ∧ I64 c.cls ∧ (0 ≤ c.which ∧ c.which ≤ 65535) ∧ (I64 c.x.e ∧ I64 c.x.c ∧ I64 c.x.i) ∧ c.ep < 2 ^ 64
def encC (c : CallD) : Value := .agg #[.int .u8 c.doo, .int .i64 c.cls, .int .u16 c.which, .bool c.odd, .int .i64 c.x.e, .int .i64 c.x.c, .int .i64 c.x.i, .int .u64 c.ep]
/-- its eight cells -/
structure CallCells (w : World) (b o : Nat) (c : CallD) : Prop where
  c0 : w.cell? ⟨b, o, none⟩ = some (.int .u8 c.doo)
  c1 : w.cell? ⟨b, o + 1, none⟩ = some (.int .i64 c.cls)
  c2 : w.cell? ⟨b, o + 2, none⟩ = some (.int .u16 c.which)
  c3 : w.cell? ⟨b, o + 3, none⟩ = some (.bool c.odd)
  c4 : w.cell? ⟨b, o + 4, none⟩ = some (.int .i64 c.x.e)
  c5 : w.cell? ⟨b, o + 5, none⟩ = some (.int .i64 c.x.c)
  c6 : w.cell? ⟨b, o + 6, none⟩ = some (.int .i64 c.x.i)
  c7 : w.cell? ⟨b, o + 7, none⟩ = some (.int .u64 c.ep)
theorem CallCells.turned {w w' : World} {b o : Nat} {c : CallD} (h : CallCells w b o c) {S : List Nat} (t : Turned S w w') (hn : b ∉ S) : CallCells w' b o c :=
  ⟨t.cell h.c0 hn, t.cell h.c1 hn, t.cell h.c2 hn, t.cell h.c3 hn, t.cell h.c4 hn, t.cell h.c5 hn, t.cell h.c6 hn, t.cell h.c7 hn⟩
def CallsAt (w : World) (a : Option Addr) (len : Nat) (l : List CallD) : Prop :=
  l.length = len ∧ (∀ x ∈ l, x.ok) ∧ (len = 0 ∨ ∃ b off, a = some ⟨b, off, none⟩ ∧ b < w.heap.size ∧ ∀ i (h : i < l.length), CallCells w b (off + i * 8) l[i])
theorem CallsAt.turned {w w' : World} {a : Option Addr} {len : Nat} {l : List CallD} (h : CallsAt w a len l) {S : List Nat} (t : Turned S w w') (hn : ∀ b, b < w.heap.size → b ∉ S) : CallsAt w' a len l := by
  refine ⟨h.1, h.2.1, ?_⟩
  rcases h.2.2 with h0 | ⟨b, off, e, hb, hc⟩
  · exact .inl h0
  · exact .inr ⟨b, off, e, Nat.lt_of_lt_of_le hb t.size, fun i hi => (hc i hi).turned t (hn b hb)⟩
theorem CallsAt.at {w : World} {a : Option Addr} {len : Nat} {l : List CallD} (h : CallsAt w a len l) (i : Nat) (hi : i < l.length) : ∃ b off, a = some ⟨b, off, none⟩ ∧ b < w.heap.size ∧ CallCells w b (off + i * 8) l[i] ∧ l[i].ok := by
  rcases h.2.2 with h0 | ⟨b, off, e, hb, hc⟩
  · have := h.1; omega
  · exact ⟨b, off, e, hb, hc i hi, h.2.1 _ (List.getElem_mem hi)⟩

theorem cells_get {w : World} {base : Nat} {a : Addr} {n : Nat} {cs : List Value} (h : w.cells? base a n = some cs) (i : Nat) (hi : i < n) : w.cell? (a.add i) = cs[i]? := by
  unfold World.cells? at h
  split at h
  · exact mapM_some_get h i i (by simp [hi])
  · cases h
theorem fits64 {n : Int} (h : (Lit.int .i64 n).wf = true) : I64 n := by
  have := bounds_i64 h
  unfold I64; omega
theorem add_none (b off n : Nat) : (⟨b, off, none⟩ : Addr).add n = ⟨b, off + n, none⟩ := by
  unfold Addr.add
  split
  · next h => subst h; rfl
  · rfl

set_option maxRecDepth 100000 in
/-- what comes in: calls -/
theorem calls_of {H : Type} {enc : TypeId × Value → H} {W : World} {base fuel : Nat} {spare : Nat → Bool} {held : Bool} {a : Option Addr} {len cap : Nat} {y : DataW H × List MemPlace}
    (h : DataW.trod enc Tryd.prog W base spare held fuel 22 [.slice a len cap] = some y) : ∃ l, CallsAt W a len l ∧ len ≤ maxLen := by
  rcases open_slice Tryd.underlying22 h with ⟨e, _⟩ | ⟨x, l, c, m, n, D, Pl, e, hb, hl, hm, hmm, _, hx⟩
  · simp at e; obtain ⟨rfl, rfl, rfl⟩ := e
    exact ⟨[], ⟨rfl, by simp, .inl rfl⟩, by decide⟩
  · simp at e; obtain ⟨rfl, rfl, rfl⟩ := e
    have hlm : len ≤ m := by rw [hmm]; split <;> omega
    have key : ∀ i, i < len → ∃ t : CallD, t.ok ∧ ∀ j u, [Value.int .u8 t.doo, .int .i64 t.cls, .int .u16 t.which, .bool t.odd, .int .i64 t.x.e, .int .i64 t.x.c, .int .i64 t.x.i, .int .u64 t.ep][j]? = some u → W.cell? ((x.add (i * 8)).add j) = some u := by
      intro i hi
      obtain ⟨cs, h1, h2⟩ := hx i (by omega)
      have e40 : Tryd.prog.cellsOf 40 = 8 := by kernel_rfl
      have e24 : Tryd.prog.cellsOf 24 = 3 := by kernel_rfl
      have e3 : Tryd.prog.cellsOf 3 = 1 := by kernel_rfl
      have e4 : Tryd.prog.cellsOf 4 = 1 := by kernel_rfl
      have e5 : Tryd.prog.cellsOf 5 = 1 := by kernel_rfl
      have e37 : Tryd.prog.cellsOf 37 = 1 := by kernel_rfl
      have e38 : Tryd.prog.cellsOf 38 = 1 := by kernel_rfl
      rw [e40] at h1
      obtain ⟨xs, k, _, _, hcl, hxl, hf⟩ := DataW.trod_struct Tryd.underlying40 h2
      rw [e40] at hcl
      obtain ⟨c0, c1, c2, c3, c4, c5, c6, c7, rfl⟩ : ∃ c0 c1 c2 c3 c4 c5 c6 c7, cs = [c0, c1, c2, c3, c4, c5, c6, c7] := by
        match cs, hcl with
        | [c0, c1, c2, c3, c4, c5, c6, c7], _ => exact ⟨c0, c1, c2, c3, c4, c5, c6, c7, rfl⟩
      obtain ⟨x0, x1, x2, x3, x4, x5, rfl⟩ : ∃ x0 x1 x2 x3 x4 x5, xs = [x0, x1, x2, x3, x4, x5] := by
        match xs, hxl with
        | [x0, x1, x2, x3, x4, x5], _ => exact ⟨x0, x1, x2, x3, x4, x5, rfl⟩
      have f0 : DataW.trod enc Tryd.prog W base spare held k 5 (([c0, c1, c2, c3, c4, c5, c6, c7].drop 0).take (Tryd.prog.cellsOf 5)) = some x0 := hf 0 _ rfl
      have f1 : DataW.trod enc Tryd.prog W base spare held k 3 (([c0, c1, c2, c3, c4, c5, c6, c7].drop 1).take (Tryd.prog.cellsOf 3)) = some x1 := hf 1 _ rfl
      have f2 : DataW.trod enc Tryd.prog W base spare held k 37 (([c0, c1, c2, c3, c4, c5, c6, c7].drop 2).take (Tryd.prog.cellsOf 37)) = some x2 := hf 2 _ rfl
      have f3 : DataW.trod enc Tryd.prog W base spare held k 4 (([c0, c1, c2, c3, c4, c5, c6, c7].drop 3).take (Tryd.prog.cellsOf 4)) = some x3 := hf 3 _ rfl
      have f4 : DataW.trod enc Tryd.prog W base spare held k 24 (([c0, c1, c2, c3, c4, c5, c6, c7].drop 4).take (Tryd.prog.cellsOf 24)) = some x4 := hf 4 _ rfl
      have f5 : DataW.trod enc Tryd.prog W base spare held k 38 (([c0, c1, c2, c3, c4, c5, c6, c7].drop 7).take (Tryd.prog.cellsOf 38)) = some x5 := hf 5 _ rfl
      rw [e5] at f0
      rw [e3] at f1
      rw [e37] at f2
      rw [e4] at f3
      rw [e24] at f4
      rw [e38] at f5
      obtain ⟨d, ed, _, wd⟩ := DataW.trod_int Tryd.underlying5 f0
      obtain ⟨cl, ec, _, wc⟩ := DataW.trod_int Tryd.underlying3 f1
      obtain ⟨wh, ew, _, ww⟩ := DataW.trod_int Tryd.underlying37 f2
      obtain ⟨od, eo, _⟩ := DataW.trod_bool Tryd.underlying4 f3
      obtain ⟨zs, k', rfl, _, hzl, hzz, hzf⟩ := DataW.trod_struct Tryd.underlying24 f4
      obtain ⟨z0, z1, z2, rfl⟩ : ∃ z0 z1 z2, zs = [z0, z1, z2] := by
        match zs, hzz with
        | [z0, z1, z2], _ => exact ⟨z0, z1, z2, rfl⟩
      have g0 : DataW.trod enc Tryd.prog W base spare held k' 3 (([c4, c5, c6].drop 0).take (Tryd.prog.cellsOf 3)) = some z0 := hzf 0 _ rfl
      have g1 : DataW.trod enc Tryd.prog W base spare held k' 3 (([c4, c5, c6].drop 1).take (Tryd.prog.cellsOf 3)) = some z1 := hzf 1 _ rfl
      have g2 : DataW.trod enc Tryd.prog W base spare held k' 3 (([c4, c5, c6].drop 2).take (Tryd.prog.cellsOf 3)) = some z2 := hzf 2 _ rfl
      rw [e3] at g0 g1 g2
      obtain ⟨xe, exe, _, wxe⟩ := DataW.trod_int Tryd.underlying3 g0
      obtain ⟨xc, exc, _, wxc⟩ := DataW.trod_int Tryd.underlying3 g1
      obtain ⟨xi, exi, _, wxi⟩ := DataW.trod_int Tryd.underlying3 g2
      obtain ⟨ep, ee, _, we⟩ := DataW.trod_int Tryd.underlying38 f5
      obtain rfl : c0 = .int .u8 d := (List.cons.inj ed).1
      obtain rfl : c1 = .int .i64 cl := (List.cons.inj ec).1
      obtain rfl : c2 = .int .u16 wh := (List.cons.inj ew).1
      obtain rfl : c3 = .bool od := (List.cons.inj eo).1
      obtain rfl : c4 = .int .i64 xe := (List.cons.inj exe).1
      obtain rfl : c5 = .int .i64 xc := (List.cons.inj exc).1
      obtain rfl : c6 = .int .i64 xi := (List.cons.inj exi).1
      obtain rfl : c7 = .int .u64 ep := (List.cons.inj ee).1
      have b0 := bounds_u8 wd
      have b2 := bounds_u16 ww
      have b5 := bounds_u64 we
      obtain ⟨en, rfl⟩ : ∃ en : Nat, ep = en := ⟨ep.toNat, by omega⟩
      refine ⟨⟨d, cl, wh, od, ⟨xe, xc, xi⟩, en⟩, ⟨by simp only; omega, fits64 wc, by simp only; omega, ⟨fits64 wxe, fits64 wxc, fits64 wxi⟩, by simp only; omega⟩, fun j u hu => ?_⟩
      have hj : j < 8 := by
        rcases Nat.lt_or_ge j 8 with h | h
        · exact h
        · rw [List.getElem?_eq_none (by simpa using h)] at hu; cases hu
      rw [cells_get h1 j hj]
      exact hu
    have hsp : ∀ (z : Addr) (v : Value), W.cell? z = some v → z.spot = none := by
      intro z v hv
      unfold World.cell? at hv
      split at hv
      · split at hv
        · cases hv
        · rename_i hs; simpa using hs
      · cases hv
    haveI : Inhabited CallD := ⟨⟨0, 0, 0, false, ⟨0, 0, 0⟩, 0⟩⟩
    obtain ⟨V, hV⟩ := choose_lt key
    refine ⟨(List.range len).map V, ⟨by simp, ?_, ?_⟩, by omega⟩
    · intro t ht
      obtain ⟨i, hi, rfl⟩ := List.mem_map.1 ht
      exact (hV i (by simpa using hi)).1
    · by_cases h0 : len = 0
      · exact .inl h0
      · right
        have h00 := (hV 0 (by omega)).2 0 _ rfl
        have hs := hsp _ _ h00
        obtain ⟨b, off, sp⟩ := x
        have hs' : sp = none := by
          have : ((⟨b, off, sp⟩ : Addr).add (0 * 8)).add 0 = ⟨b, off, sp⟩ := by simp [Addr.add]
          rw [this] at hs; exact hs
        subst hs'
        refine ⟨b, off, rfl, lt_of_cell (by simpa [Addr.add] using h00), fun i hi => ?_⟩
        have hk := (hV i (by simpa using hi)).2
        simp only [List.getElem_map, List.getElem_range]
        have hk' : ∀ j u, [Value.int .u8 (V i).doo, .int .i64 (V i).cls, .int .u16 (V i).which, .bool (V i).odd, .int .i64 (V i).x.e, .int .i64 (V i).x.c, .int .i64 (V i).x.i, .int .u64 (V i).ep][j]? = some u → W.cell? ⟨b, off + i * 8 + j, none⟩ = some u := by
          intro j u hu
          have := hk j u hu
          simpa only [add_none] using this
        exact ⟨hk' 0 _ rfl, hk' 1 _ rfl, hk' 2 _ rfl, hk' 3 _ rfl, hk' 4 _ rfl, hk' 5 _ rfl, hk' 6 _ rfl, hk' 7 _ rfl⟩
end Go.Proofs.YtaikapgpkkpdjaaDoor.L
