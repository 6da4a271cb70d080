/- Slots: what none answers: the walk. -/
import Derived.Test.YtaikapgpkkpdjaaDoorSV
namespace Go.Proofs.YtaikapgpkkpdjaaDoor.L
open Go.ChangeShapes Go.WideShapes Go.ChangeAt Go.RowKit Go.Maps Go.Proofs.YtaikapgpkkpdjaaDoor.G Go.Sort Go.Shelf Go.Lib
set_option linter.unusedVariables false
set_option linter.unusedSimpArgs false

/-- a variable that holds a slot; nothing else was changed -/
structure NL (w ww : World) (b : Nat) (x : Slot) : Prop where
  res : ResAt ww b x
  bel : Below w.heap.size w ww
  tab : Tab ww
theorem NL.next {w ww w3 : World} {b : Nat} {x : Slot} (h : NL w ww b x) (hb : Below ww.heap.size ww w3) : NL w w3 b x :=
  ⟨h.res.turned (Turned.of_below hb) (by simp), h.bel.trans (hb.mono h.bel.size), h.tab.turned (Turned.of_below hb) (by simp)⟩
theorem NL.alloc {w ww : World} {b : Nat} {x : Slot} (h : NL w ww b x) (o : Obj) : NL w (ww.alloc o) b x := h.next ((Below.refl _ _).alloc (Nat.le_refl _) _)

set_option maxRecDepth 100000 in
set_option maxHeartbeats 4000000 in
theorem nil_law (x : Slot) (c : Int) (ep : Nat) (w : World) (hT : Tab w) :
    Calls Tryd.prog 6 #[encS x, .int .i64 c, .int .u64 ep] w fun e w' => e = .returned (.bool true) ∧ Below w.heap.size w w' := by
  have HAl := Lib.hid alive
  have C22 := Lib.hid (take_nil c)
  have C15 := Lib.hid (at_nil x)
  have C24 := Lib.hid (drop_nil x ep)
  have C23 := Lib.hid (due_nil ep)
  have C18 := Lib.hid live_nil
  have C20 := Lib.hid waiting_nil
  have C13 := Lib.hid (class_nil c)
  have C11 := Lib.hid extents_nil
  obtain ⟨xe, xc, xi⟩ := x
  have N0 : Hid (NL w (w.alloc (.cells #[.int .i64 xe, .int .i64 xc, .int .i64 xi] 24)) w.heap.size ⟨xe, xc, xi⟩) :=
    ⟨res_new w ⟨xe, xc, xi⟩, (Below.refl _ w).alloc (Nat.le_refl _) _, hT.turned ((Turned.refl [] w).alloc _) (by simp)⟩
  have r0 := N0.out.res.c0
  have r1 := N0.out.res.c1
  have r2 := N0.out.res.c2
  simp only at r0 r1 r2
  clear hT
  unfold encS at *
  simp only at C15 C24
  go_enter Tryd.func6, Tryd.ntmps6
  go_wp2_with (first
    | (go_at_call 22; ((with_reducible refine (C22.out _).mono ?_); rintro e w1 ⟨rfl, hb⟩; have N1 := Lib.hid ((N0.out.next hb).alloc (.cells #[.int .i64 0, .int .i64 0, .int .i64 0] 24)); have q0 := N1.out.res.c0; have q1 := N1.out.res.c1; have q2 := N1.out.res.c2; simp only at q0 q1 q2; clear hb r0 r1 r2 N0))
    | (go_at_call 15; ((with_reducible refine (C15.out _).mono ?_); rintro e w2 ⟨rfl, hb⟩; have N2 := Lib.hid (N1.out.next hb); have r0 := N2.out.res.c0; have r1 := N2.out.res.c1; have r2 := N2.out.res.c2; simp only at r0 r1 r2; clear hb q0 q1 q2 N1))
    | (go_at_call 24; ((with_reducible refine (C24.out _).mono ?_); rintro e w3 ⟨rfl, hb⟩; have N3 := Lib.hid (N2.out.next hb); clear hb r0 r1 r2 N2))
    | (go_at_call 23; ((with_reducible refine (C23.out _).mono ?_); rintro e w4 ⟨rfl, hb⟩; have N4 := Lib.hid (N3.out.next hb); clear hb N3))
    | (go_at_call 18; ((with_reducible refine (C18.out _).mono ?_); rintro e w5 ⟨rfl, rfl⟩))
    | (go_at_call 20; ((with_reducible refine (C20.out _).mono ?_); rintro e w5 ⟨rfl, rfl⟩))
    | (go_at_call 13; ((with_reducible refine (C13.out _).mono ?_); rintro e w5 ⟨rfl, rfl⟩))
    | (go_at_call 11; ((with_reducible refine (C11.out _).mono ?_); rintro e w5 ⟨rfl, rfl⟩))
    | (go_at_call 8; ((with_reducible refine (HAl.out _ N4.out.tab).mono ?_); rintro e w6 ⟨rfl, hb⟩; have N6 := Lib.hid (N4.out.next hb); clear hb)))
  go_ret
  exact ⟨rfl, N6.out.bel⟩
end Go.Proofs.YtaikapgpkkpdjaaDoor.L
