/- Radix: what changes a node. -/
import Derived.Test.YtmpbhoijkcanmaaRC
import Derived.Deep.RegionHeld3
import Derived.Deep.DeepCutAuto
import Derived.Deep.CutBlock
namespace Go.Proofs.Ytmpbhoijkcanmaa.R
open Go.ChangeShapes Go.WideShapes Go.ChangeAt Go.RowKit Go.Maps Go.Proofs.Ytmpbhoijkcanmaa.G
set_option linter.unusedVariables false
set_option linter.unusedSimpArgs false
set_option linter.unnecessarySimpa false

variable {w w' : World}
/-- a variable that holds an entry -/
structure EntAt (w : World) (b : Nat) (e : Ent) : Prop where
  c0 : w.cell? ⟨b, 0, none⟩ = some (.int .i64 e.s.e)
  c1 : w.cell? ⟨b, 1, none⟩ = some (.int .i64 e.s.c)
  c2 : w.cell? ⟨b, 2, none⟩ = some (.int .i64 e.s.i)
  c3 : w.cell? ⟨b, 3, none⟩ = some (.int .i64 e.g)
theorem EntAt.turned {b : Nat} {e : Ent} (h : EntAt w b e) {S : List Nat} (t : Turned S w w') (h0 : b ∉ S) : EntAt w' b e := ⟨t.cell h.c0 h0, t.cell h.c1 h0, t.cell h.c2 h0, t.cell h.c3 h0⟩
/-- a node is changed -/
def chgPost (b : Nat) (x : Node) (w : World) (e : Ending) (w' : World) : Prop := e = .returned (.tuple #[]) ∧ NodeAt w' b x ∧ Turned [b] w w'
set_option maxRecDepth 100000 in
theorem setc_fn (b be i : Nat) (x : Node) (e : Ent) (hi : i < 16) (hu : x.bits < 2 ^ 16) (w : World) (h : NodeAt w b x) (hb : EntAt w be e) :
    Calls Try.prog 42 #[.pointer (some ⟨b, 0, none⟩), .int .i64 (i : Nat), .pointer (some ⟨be, 0, none⟩)] w (chgPost b (setLeaf x i e) w) := by
  obtain ⟨b0, b1, b2, b3⟩ := hb
  have hd : NodeAt w.drew b x := h.turned (Turned.refl [] w).drew (by simp)
  have k0 := hd.ent i 0 hi (by omega)
  have k1 := hd.ent i 1 hi (by omega)
  have k2 := hd.ent i 2 hi (by omega)
  have k3 := hd.ent i 3 hi (by omega)
  have f0 := hd.frozen (16 + i * 4)
  have f1 := hd.frozen (16 + i * 4 + 1)
  have f2 := hd.frozen (16 + i * 4 + 2)
  have f3 := hd.frozen (16 + i * 4 + 3)
  have HN2 := Lib.hid (hd.setE i hi e)
  have HT2 : Hid (Turned [b] w ((((w.drew.setCell ⟨b, 16 + i * 4, none⟩ (.int .i64 e.s.e)).setCell ⟨b, 16 + i * 4 + 1, none⟩ (.int .i64 e.s.c)).setCell ⟨b, 16 + i * 4 + 2, none⟩ (.int .i64 e.s.i)).setCell ⟨b, 16 + i * 4 + 3, none⟩ (.int .i64 e.g))) :=
    (((((Turned.refl [b] w).drew).setCell (p := ⟨b, 16 + i * 4, none⟩) (.inl (by simp)) _).setCell (p := ⟨b, 16 + i * 4 + 1, none⟩) (.inl (by simp)) _).setCell (p := ⟨b, 16 + i * 4 + 2, none⟩) (.inl (by simp)) _).setCell (p := ⟨b, 16 + i * 4 + 3, none⟩) (.inl (by simp)) _
  have HO : Hid (bits BinOp.or IntKind.u16 (x.bits : Int) (IntKind.u16.wrap (2 ^ i)) = ((x.bits ||| 2 ^ i : Nat) : Int)) := or_bit x.bits i hu hi
  have hi0 : (0 : Int) ≤ (i : Int) := by omega
  have hi1 : (i : Int) < 16 := by omega
  obtain ⟨⟨ee, ec, ei⟩, eg⟩ := e
  simp only at b0 b1 b2 b3 HN2 HT2
  simp only [Nat.add_zero] at k0
  clear h hd
  generalize entCell (x.ents i) 0 = v0 at *
  generalize entCell (x.ents i) 1 = v1 at *
  generalize entCell (x.ents i) 2 = v2 at *
  generalize entCell (x.ents i) 3 = v3 at *
  go_enter Try.func42, Try.ntmps42
  go_wp2
  go_still_tail 6, (by kernel_rfl)
  change wpList _ _ _ _ _ w.drew
  obtain ⟨wd, hwd⟩ : ∃ wd, w.drew = wd := ⟨_, rfl⟩
  rw [hwd] at k0 k1 k2 k3 f0 f1 f2 f3 HN2 HT2
  rw [hwd]
  clear hwd b0 b1 b2 b3
  go_wp2
  clear k0 k1 k2 k3 f0 f1 f2 f3
  generalize (((wd.setCell ⟨b, 16 + i * 4, none⟩ (.int .i64 ee)).setCell ⟨b, 16 + i * 4 + 1, none⟩ (.int .i64 ec)).setCell ⟨b, 16 + i * 4 + 2, none⟩ (.int .i64 ei)).setCell ⟨b, 16 + i * 4 + 3, none⟩ (.int .i64 eg) = w2 at *
  have c1 := HN2.out.bits
  have g1 := HN2.out.frozen 80
  have d1 := (HN2.out.turned (Turned.refl [] w2).drew (by simp)).bits
  have q1 := (HN2.out.turned (Turned.refl [] w2).drew (by simp)).frozen 80
  have HN3 := Lib.hid ((HN2.out.turned (Turned.refl [] w2).drew (by simp)).setBits (x.bits ||| 2 ^ i))
  have HT3 : Hid (Turned [b] w (w2.drew.setCell ⟨b, 80, none⟩ (.int .u16 ((x.bits ||| 2 ^ i : Nat) : Int)))) := (HT2.out.drew).setCell (p := ⟨b, 80, none⟩) (.inl (by simp)) _
  rw [show (setE x i ⟨⟨ee, ec, ei⟩, eg⟩).bits = x.bits from rfl] at c1 d1
  have ho := HO.out
  go_still_tail 9, (by kernel_rfl)
  change wpList _ _ _ _ _ w2.drew
  obtain ⟨wd2, hwd⟩ : ∃ wd, w2.drew = wd := ⟨_, rfl⟩
  rw [hwd] at d1 q1 HN3 HT3
  rw [hwd]
  clear hwd c1 g1
  go_wp2
  go_end0
  exact ⟨rfl, HN3.out, HT3.out⟩

set_option maxRecDepth 100000 in
theorem clearc_fn (b i : Nat) (x : Node) (hi : i < 16) (hu : x.bits < 2 ^ 16) (w : World) (h : NodeAt w b x) :
    Calls Try.prog 43 #[.pointer (some ⟨b, 0, none⟩), .int .i64 (i : Nat)] w (chgPost b (clearLeaf x i) w) := by
  have k0 := h.ent i 0 hi (by omega)
  have k1 := h.ent i 1 hi (by omega)
  have k2 := h.ent i 2 hi (by omega)
  have k3 := h.ent i 3 hi (by omega)
  have f0 := h.frozen (16 + i * 4)
  have f1 := h.frozen (16 + i * 4 + 1)
  have f2 := h.frozen (16 + i * 4 + 2)
  have f3 := h.frozen (16 + i * 4 + 3)
  have HN2 := Lib.hid (h.setE i hi zeroE)
  have HT2 : Hid (Turned [b] w ((((w.setCell ⟨b, 16 + i * 4, none⟩ (.int .i64 zeroE.s.e)).setCell ⟨b, 16 + i * 4 + 1, none⟩ (.int .i64 zeroE.s.c)).setCell ⟨b, 16 + i * 4 + 2, none⟩ (.int .i64 zeroE.s.i)).setCell ⟨b, 16 + i * 4 + 3, none⟩ (.int .i64 zeroE.g))) :=
    ((((Turned.refl [b] w).setCell (p := ⟨b, 16 + i * 4, none⟩) (.inl (by simp)) _).setCell (p := ⟨b, 16 + i * 4 + 1, none⟩) (.inl (by simp)) _).setCell (p := ⟨b, 16 + i * 4 + 2, none⟩) (.inl (by simp)) _).setCell (p := ⟨b, 16 + i * 4 + 3, none⟩) (.inl (by simp)) _
  have HO : Hid (bits BinOp.andNot IntKind.u16 (x.bits : Int) (IntKind.u16.wrap (2 ^ i)) = ((clr x.bits i : Nat) : Int)) := andnot_bit x.bits i hu hi
  have hi0 : (0 : Int) ≤ (i : Int) := by omega
  have hi1 : (i : Int) < 16 := by omega
  simp only [zeroE] at HN2 HT2
  simp only [Nat.add_zero] at k0
  clear h
  generalize entCell (x.ents i) 0 = v0 at *
  generalize entCell (x.ents i) 1 = v1 at *
  generalize entCell (x.ents i) 2 = v2 at *
  generalize entCell (x.ents i) 3 = v3 at *
  go_enter Try.func43, Try.ntmps43
  go_upto_region 1 with fail
  clear k0 k1 k2 k3 f0 f1 f2 f3
  generalize (((w.setCell ⟨b, 16 + i * 4, none⟩ (.int .i64 0)).setCell ⟨b, 16 + i * 4 + 1, none⟩ (.int .i64 0)).setCell ⟨b, 16 + i * 4 + 2, none⟩ (.int .i64 0)).setCell ⟨b, 16 + i * 4 + 3, none⟩ (.int .i64 0) = w2 at *
  have c1 := HN2.out.bits
  have g1 := HN2.out.frozen 80
  have d1 := (HN2.out.turned (Turned.refl [] w2).drew (by simp)).bits
  have q1 := (HN2.out.turned (Turned.refl [] w2).drew (by simp)).frozen 80
  have HN3 := Lib.hid ((HN2.out.turned (Turned.refl [] w2).drew (by simp)).setBits (clr x.bits i))
  have HT3 : Hid (Turned [b] w (w2.drew.setCell ⟨b, 80, none⟩ (.int .u16 ((clr x.bits i : Nat) : Int)))) := (HT2.out.drew).setCell (p := ⟨b, 80, none⟩) (.inl (by simp)) _
  rw [show (setE x i ⟨⟨0, 0, 0⟩, 0⟩).bits = x.bits from rfl] at c1 d1
  have ho := HO.out
  go_still_tail 9, (by kernel_rfl)
  change wpList _ _ _ _ _ w2.drew
  obtain ⟨wd2, hwd⟩ : ∃ wd, w2.drew = wd := ⟨_, rfl⟩
  rw [hwd] at d1 q1 HN3 HT3
  rw [hwd]
  clear hwd c1 g1
  go_wp2
  go_end0
  exact ⟨rfl, HN3.out, HT3.out⟩

set_option maxRecDepth 100000 in
theorem alongb_fn (b bk bi i k : Nat) (x : Node) (hi : i < 16) (w : World) (h : NodeAt w b x) (hk : w.cell? ⟨bk, 0, none⟩ = some (.int .i64 (k : Nat))) (hb : w.cell? ⟨bi, 0, none⟩ = some (.int .i64 (i : Nat))) :
    Calls Try.prog 55 #[.pointer (some ⟨b, 0, none⟩), .pointer (some ⟨bk, 0, none⟩), .pointer (some ⟨bi, 0, none⟩)] w (chgPost b (setKid x i k) w) := by
  have hd : NodeAt w.drew b x := h.turned (Turned.refl [] w).drew (by simp)
  have k0 := hd.kid i hi
  have f0 := hd.frozen i
  have HN2 := Lib.hid (hd.setKid i k hi)
  have HT2 : Hid (Turned [b] w (w.drew.setCell ⟨b, i, none⟩ (.int .i64 (k : Nat)))) := ((Turned.refl [b] w).drew).setCell (p := ⟨b, i, none⟩) (.inl (by simp)) _
  have hi0 : (0 : Int) ≤ (i : Int) := by omega
  have hi1 : (i : Int) < 16 := by omega
  clear h hd
  go_enter Try.func55, Try.ntmps55
  go_wp2
  go_still_tail 6, (by kernel_rfl)
  change wpList _ _ _ _ _ w.drew
  obtain ⟨wd, hwd⟩ : ∃ wd, w.drew = wd := ⟨_, rfl⟩
  rw [hwd] at k0 f0 HN2 HT2
  rw [hwd]
  clear hwd hk hb
  go_wp2
  go_end0
  exact ⟨rfl, HN2.out, HT2.out⟩

/-- what is done to a leaf -/
inductive Chg where
  | set (be : Nat) (e : Ent)
  | clear
def Chg.val : Chg → Value
  | .set be _ => .func (.func 42) #[] #[.pointer (some ⟨be, 0, none⟩)]
  | .clear => .func (.func 43) #[] #[]
def Chg.At (w : World) : Chg → Prop
  | .set be e => EntAt w be e
  | .clear => True
def Chg.app (x : Node) (i : Nat) : Chg → Node
  | .set _ e => setLeaf x i e
  | .clear => clearLeaf x i
def Chg.far (S : List Nat) : Chg → Prop
  | .set be _ => be ∉ S
  | .clear => True
theorem Chg.At.turned {c : Chg} (h : c.At w) {S : List Nat} (t : Turned S w w') (h0 : c.far S) : c.At w' := by
  cases c with
  | set be e => exact EntAt.turned h t h0
  | clear => trivial
set_option maxRecDepth 100000 in
theorem alonga_fn (b bc bi i : Nat) (c : Chg) (x : Node) (hi : i < 16) (hu : x.bits < 2 ^ 16) (w : World) (h : NodeAt w b x) (hc : c.At w) (hk : w.cell? ⟨bc, 0, none⟩ = some c.val) (hb : w.cell? ⟨bi, 0, none⟩ = some (.int .i64 (i : Nat))) :
    Calls Try.prog 54 #[.pointer (some ⟨b, 0, none⟩), .pointer (some ⟨bc, 0, none⟩), .pointer (some ⟨bi, 0, none⟩)] w (chgPost b (c.app x i) w) := by
  cases c with
  | set be e =>
    have C := Lib.hid (setc_fn b be i x e hi hu w h hc)
    unfold Chg.val at hk
    clear h hc
    go_enter Try.func54, Try.ntmps54
    go_wp2_with (go_at_call 42; ((with_reducible refine C.out.mono ?_); rintro e ww ⟨rfl, h1, h2⟩; have H := Lib.hid (And.intro h1 h2); clear h1 h2))
    go_end0
    exact ⟨rfl, H.out.1, H.out.2⟩
  | clear =>
    have C := Lib.hid (clearc_fn b i x hi hu w h)
    unfold Chg.val at hk
    clear h hc
    go_enter Try.func54, Try.ntmps54
    go_wp2_with (go_at_call 43; ((with_reducible refine C.out.mono ?_); rintro e ww ⟨rfl, h1, h2⟩; have H := Lib.hid (And.intro h1 h2); clear h1 h2))
    go_end0
    exact ⟨rfl, H.out.1, H.out.2⟩
end Go.Proofs.Ytmpbhoijkcanmaa.R
