/- Radix: what a forest that is nil answers. -/
import Derived.Test.YtmpbhoijkcanmaaRX
namespace Go.Proofs.Ytmpbhoijkcanmaa.R
open Go.ChangeShapes Go.WideShapes Go.ChangeAt Go.RowKit Go.Maps Go.Proofs.Ytmpbhoijkcanmaa.G
set_option linter.unusedVariables false
set_option linter.unusedSimpArgs false
set_option linter.unnecessarySimpa false

set_option maxRecDepth 100000 in
theorem set_nil (r n : Int) (x : Ent) (w : World) : Calls Try.prog 12 #[.pointer none, .int .i64 r, .int .i64 n, encE x] w fun e w' => e = .returned (.tuple #[.int .i64 0, .int .i64 1]) ∧ Below w.heap.size w w' := by
  obtain ⟨⟨xe, xc, xi⟩, xg⟩ := x
  unfold encE
  simp only
  have HB : Hid (Below w.heap.size w (w.alloc (.cells #[.int .i64 xe, .int .i64 xc, .int .i64 xi, .int .i64 xg] 33))) := ((Turned.refl [] w).alloc _).below
  have CN := Lib.hid none_nil
  go_enter Try.func12, Try.ntmps12
  go_wp2_with (go_at_call 37; ((with_reducible refine (CN.out _).mono ?_); rintro e ww ⟨rfl, rfl⟩))
  go_ret2
  exact ⟨rfl, HB.out⟩
set_option maxRecDepth 100000 in
theorem clear_nil (r n : Int) (w : World) : Calls Try.prog 16 #[.pointer none, .int .i64 r, .int .i64 n] w fun e w' => e = .returned (.tuple #[.int .i64 0, .int .i64 1]) ∧ w = w' := by
  have CN := Lib.hid none_nil
  go_enter Try.func16, Try.ntmps16
  go_wp2_with (go_at_call 37; ((with_reducible refine (CN.out _).mono ?_); rintro e ww ⟨rfl, rfl⟩))
  go_ret2
  exact ⟨rfl, rfl⟩
set_option maxRecDepth 100000 in
theorem drop_nil (r : Int) (w : World) : Calls Try.prog 18 #[.pointer none, .int .i64 r] w fun e w' => e = .returned (.tuple #[.slice none 0 0, .int .i64 1]) ∧ w = w' := by
  have CN := Lib.hid none_nil
  go_enter Try.func18, Try.ntmps18
  go_wp2_with (go_at_call 37; ((with_reducible refine (CN.out _).mono ?_); rintro e ww ⟨rfl, rfl⟩))
  go_ret2
  exact ⟨rfl, rfl⟩
set_option maxRecDepth 100000 in
theorem hold_nil (r : Int) (w : World) : Calls Try.prog 20 #[.pointer none, .int .i64 r] w fun e w' => e = .returned (.int .i64 1) ∧ w = w' := by
  have CN := Lib.hid none_nil
  go_enter Try.func20, Try.ntmps20
  go_wp2_with (go_at_call 37; ((with_reducible refine (CN.out _).mono ?_); rintro e ww ⟨rfl, rfl⟩))
  go_ret
  exact ⟨rfl, rfl⟩
set_option maxRecDepth 100000 in
theorem nodes_nil (w : World) : Calls Try.prog 15 #[.pointer none] w fun e w' => e = .returned (.int .i64 0) ∧ w = w' := by
  have CN := Lib.hid none_nil
  go_enter Try.func15, Try.ntmps15
  go_wp2_with (go_at_call 37; ((with_reducible refine (CN.out _).mono ?_); rintro e ww ⟨rfl, rfl⟩))
  go_ret
  exact ⟨rfl, rfl⟩
set_option maxRecDepth 100000 in
theorem slots_nil (w : World) : Calls Try.prog 19 #[.pointer none] w fun e w' => e = .returned (.slice none 0 0) ∧ w = w' := by
  have CN := Lib.hid none_nil
  go_enter Try.func19, Try.ntmps19
  go_wp2_with (go_at_call 37; ((with_reducible refine (CN.out _).mono ?_); rintro e ww ⟨rfl, rfl⟩))
  go_ret
  exact ⟨rfl, rfl⟩
set_option maxRecDepth 100000 in
theorem get_nil (r q : Int) (w : World) : Calls Try.prog 17 #[.pointer none, .int .i64 r, .int .i64 q] w (getPost none w) := by
  have hn := ent_new w 33 zeroE
  have g0 := hn.c0
  have g1 := hn.c1
  have g2 := hn.c2
  have g3 := hn.c3
  simp only [zeroE] at g0 g1 g2 g3
  have HB : Hid (getPost none w (.returned (.tuple #[.agg #[.int .i64 0, .int .i64 0, .int .i64 0, .int .i64 0], .bool false])) (w.alloc (.cells #[.int .i64 0, .int .i64 0, .int .i64 0, .int .i64 0] 33))) := ⟨rfl, ((Turned.refl [] w).alloc _).below⟩
  have CN := Lib.hid none_nil
  clear hn
  go_enter Try.func17, Try.ntmps17
  go_wp2_with (go_at_call 37; ((with_reducible refine (CN.out _).mono ?_); rintro e ww ⟨rfl, rfl⟩))
  refine bodyPost_ret (v := .tuple #[.agg #[.int .i64 0, .int .i64 0, .int .i64 0, .int .i64 0], .bool false]) (by simp [results, Try.results17, go_sem, g0, g1, g2, g3]) rfl HB.out
theorem all_nil (r : Int) (w : World) : Calls Try.prog 13 #[.pointer none, .int .i64 r] w (allPost (fun _ => none) w) := all_fn _ _ _ _ fun q _ w' _ => get_nil r q w'
theorem allL_none (n : Nat) : allL (fun _ => none) n = [] := by unfold allL; simp
end Go.Proofs.Ytmpbhoijkcanmaa.R
