/- Radix: what none answers: the walk. -/
import Derived.Test.YtmpbhoijkcanmaaSC
namespace Go.Proofs.Ytmpbhoijkcanmaa.R
open Go.ChangeShapes Go.WideShapes Go.ChangeAt Go.RowKit Go.Maps Go.Proofs.Ytmpbhoijkcanmaa.G
set_option linter.unusedVariables false
set_option linter.unusedSimpArgs false
set_option linter.unnecessarySimpa false

set_option maxRecDepth 100000 in
set_option maxHeartbeats 4000000 in
theorem nil_law (r q : Int) (x : Ent) (w : World) : Calls Try.prog 6 #[.int .i64 r, .int .i64 q, encE x] w fun e w' => e = .returned (.bool true) ∧ Below w.heap.size w w' := by
  have HAl := Lib.hid alive23
  have C1 := Lib.hid (set_nil r q x)
  have C2 := Lib.hid (clear_nil r q)
  have C3 := Lib.hid (drop_nil r)
  have C4 : Hid (∀ w, Calls Try.prog 17 #[.pointer none, .int .i64 r, .int .i64 q] w fun e w' => e = .returned (.tuple #[.agg #[.int .i64 0, .int .i64 0, .int .i64 0, .int .i64 0], .bool false]) ∧ Below w.heap.size w w') := get_nil r q
  have C5 := Lib.hid (hold_nil r)
  have C6 : Hid (∀ w, Calls Try.prog 13 #[.pointer none, .int .i64 r] w fun e w' => ∃ a cap, e = .returned (.slice a 0 cap) ∧ Below w.heap.size w w') := fun w => (all_nil r w).mono fun e w' ⟨v, e1, e2, e3⟩ => by
    rw [allL_none] at e2
    obtain ⟨a, cap, rfl⟩ := slice_of_owns e2
    exact ⟨a, cap, e1, e3⟩
  have C7 := Lib.hid nodes_nil
  have C8 := Lib.hid slots_nil
  obtain ⟨⟨xe, xc, xi⟩, xg⟩ := x
  unfold encE at *
  simp only at C1
  have hn := ent_new w 33 ⟨⟨xe, xc, xi⟩, xg⟩
  have g0 := hn.c0
  have g1 := hn.c1
  have g2 := hn.c2
  have g3 := hn.c3
  simp only at g0 g1 g2 g3
  have N0 : Hid (Below w.heap.size w (w.alloc (.cells #[.int .i64 xe, .int .i64 xc, .int .i64 xi, .int .i64 xg] 33))) := ((Turned.refl [] w).alloc _).below
  clear hn
  go_enter Try.func6, Try.ntmps6
  go_upto_region 2 with fail
  generalize w.alloc (.cells #[.int .i64 xe, .int .i64 xc, .int .i64 xi, .int .i64 xg] 33) = w0 at *
  go_wp2_with (first
    | (go_at_call 12; ((with_reducible refine (C1.out _).mono ?_); rintro e w1 ⟨rfl, hb⟩; have N1 := Lib.hid (N0.out.trans (hb.mono N0.out.size)); clear hb g0 g1 g2 g3))
    | (go_at_call 16; ((with_reducible refine (C2.out _).mono ?_); rintro e w2 ⟨rfl, rfl⟩))
    | (go_at_call 18; ((with_reducible refine (C3.out _).mono ?_); rintro e w3 ⟨rfl, rfl⟩))
    | (go_at_call 17; ((with_reducible refine (C4.out _).mono ?_); rintro e w4 ⟨rfl, hb⟩; have hb2 := (Turned.of_below (N1.out.trans (hb.mono N1.out.size))).alloc (.cells #[.int .i64 0, .int .i64 0, .int .i64 0, .int .i64 0] 33); have N4 := Lib.hid hb2.below; clear hb hb2))
    | (go_at_call 20; ((with_reducible refine (C5.out _).mono ?_); rintro e w5 ⟨rfl, rfl⟩))
    | (go_at_call 13; ((with_reducible refine (C6.out _).mono ?_); rintro e w6 ⟨a6, cap6, rfl, hb⟩; have N6 := Lib.hid (N4.out.trans (hb.mono N4.out.size)); clear hb))
    | (go_at_call 15; ((with_reducible refine (C7.out _).mono ?_); rintro e w7 ⟨rfl, rfl⟩))
    | (go_at_call 19; ((with_reducible refine (C8.out _).mono ?_); rintro e w8 ⟨rfl, rfl⟩))
    | (go_at_call 10; ((with_reducible refine (HAl.out _).mono ?_); rintro e w9 ⟨rfl, hb⟩; have N9 := Lib.hid (N6.out.trans (hb.mono N6.out.size)); clear hb)))
  go_ret
  exact ⟨rfl, N9.out⟩
end Go.Proofs.Ytmpbhoijkcanmaa.R
