/- Slots: what none answers; which are live, which wait. -/
import Derived.Test.YtaikapgpkkpdjaaDoorSN
namespace Go.Proofs.YtaikapgpkkpdjaaDoor.L
open Go.ChangeShapes Go.WideShapes Go.ChangeAt Go.RowKit Go.Maps Go.Proofs.YtaikapgpkkpdjaaDoor.G Go.Sort Go.Shelf Go.Lib
set_option linter.unusedVariables false
set_option linter.unusedSimpArgs false

theorem live_fn (bs be bm n : Nat) (pg : Int) (ex : Exts) (l : States) (w : World) (h : SlotsAt w bs be bm n pg ex l) (hst : Stated l) (hl : l.length ≤ 1048576) :
    Calls Tryd.prog 18 #[.pointer (some ⟨bs, 0, none⟩)] w (thosePost liveV l w) := by
  have C := Lib.hid (those36 bs be bm n pg ex l w h hst hl)
  clear h hst hl
  go_enter Tryd.func18, Tryd.ntmps18
  go_wp2_with (go_at_call 35; ((with_reducible refine C.out.mono ?_); rintro e' w5 ⟨v, ys, rfl, hrest⟩; have HR := Lib.hid hrest; clear hrest))
  exact bodyPost_ret (v := v) (by simp [results, Tryd.results18, go_sem]) rfl ⟨v, ys, rfl, HR.out⟩
theorem waiting_fn (bs be bm n : Nat) (pg : Int) (ex : Exts) (l : States) (w : World) (h : SlotsAt w bs be bm n pg ex l) (hst : Stated l) (hl : l.length ≤ 1048576) :
    Calls Tryd.prog 20 #[.pointer (some ⟨bs, 0, none⟩)] w (thosePost waitV l w) := by
  have C := Lib.hid (those37 bs be bm n pg ex l w h hst hl)
  clear h hst hl
  go_enter Tryd.func20, Tryd.ntmps20
  go_wp2_with (go_at_call 35; ((with_reducible refine C.out.mono ?_); rintro e' w5 ⟨v, ys, rfl, hrest⟩; have HR := Lib.hid hrest; clear hrest))
  exact bodyPost_ret (v := v) (by simp [results, Tryd.results20, go_sem]) rfl ⟨v, ys, rfl, HR.out⟩

theorem those_nil (F : Value) (w : World) : Calls Tryd.prog 35 #[.pointer none, F] w fun e w' => e = .returned (.slice none 0 0) ∧ w = w' := by
  go_enter Tryd.func35, Tryd.ntmps35
  go_wp2
  go_ret
  exact ⟨rfl, rfl⟩
theorem live_nil (w : World) : Calls Tryd.prog 18 #[.pointer none] w fun e w' => e = .returned (.slice none 0 0) ∧ w = w' := by
  have C := Lib.hid those_nil
  go_enter Tryd.func18, Tryd.ntmps18
  go_wp2_with (go_at_call 35; ((with_reducible refine (C.out _ _).mono ?_); rintro e' w5 ⟨rfl, rfl⟩))
  go_ret
  exact ⟨rfl, rfl⟩
theorem waiting_nil (w : World) : Calls Tryd.prog 20 #[.pointer none] w fun e w' => e = .returned (.slice none 0 0) ∧ w = w' := by
  have C := Lib.hid those_nil
  go_enter Tryd.func20, Tryd.ntmps20
  go_wp2_with (go_at_call 35; ((with_reducible refine (C.out _ _).mono ?_); rintro e' w5 ⟨rfl, rfl⟩))
  go_ret
  exact ⟨rfl, rfl⟩
theorem due_nil (ep : Nat) (w : World) : Calls Tryd.prog 23 #[.pointer none, .int .u64 ep] w fun e w' => e = .returned (.slice none 0 0) ∧ Below w.heap.size w w' := by
  have C := Lib.hid those_nil
  have HB : Hid (Below w.heap.size w (w.alloc (.cells #[.int .u64 ep] 38))) := (Below.refl _ w).alloc (Nat.le_refl _) _
  go_enter Tryd.func23, Tryd.ntmps23
  go_wp2_with (go_at_call 35; ((with_reducible refine (C.out _ _).mono ?_); rintro e' w5 ⟨rfl, rfl⟩))
  go_loop [14] (fun i => i = .int .i64 0) (fun _ => 0)
  case atStart => rfl
  case round =>
    subst hrel
    go_wp2
    go_ret
    exact ⟨rfl, HB.out⟩
theorem take_nil (c : Int) (w : World) : Calls Tryd.prog 22 #[.pointer none, .int .i64 c] w fun e w' => e = .returned (.tuple #[.agg #[.int .i64 0, .int .i64 0, .int .i64 0], .int .i64 1]) ∧ Below w.heap.size w w' := by
  have HRes : Hid (ResAt ((w.alloc (.cells #[.int .i64 c] 3)).alloc (.cells #[.int .i64 0, .int .i64 0, .int .i64 0] 24)) (w.heap.size + 1) zeroS) := by
    have := res_new (w.alloc (.cells #[.int .i64 c] 3)) zeroS
    exact Lib.hid (by simpa [zeroS] using this)
  have HB : Hid (Below w.heap.size w ((w.alloc (.cells #[.int .i64 c] 3)).alloc (.cells #[.int .i64 0, .int .i64 0, .int .i64 0] 24))) := ((Below.refl _ w).alloc (Nat.le_refl _) _).alloc (by simp) _
  have h0 := HRes.out.c0
  have h1 := HRes.out.c1
  have h2 := HRes.out.c2
  have f0 := HRes.out.f 0
  have f1 := HRes.out.f 1
  have f2 := HRes.out.f 2
  simp only [zeroS] at h0 h1 h2
  go_enter Tryd.func22, Tryd.ntmps22
  go_wp2
  refine bodyPost_ret (v := .tuple #[.agg #[.int .i64 0, .int .i64 0, .int .i64 0], .int .i64 1]) (by simp [results, Tryd.results22, go_sem, h0, h1, h2]) rfl ⟨rfl, HB.out⟩
theorem drop_nil (x : Slot) (ep : Nat) (w : World) : Calls Tryd.prog 24 #[.pointer none, encS x, .int .u64 ep] w fun e w' => e = .returned (.int .i64 1) ∧ Below w.heap.size w w' := by
  obtain ⟨xe, xc, xi⟩ := x
  have HB : Hid (Below w.heap.size w (w.alloc (.cells #[.int .i64 xe, .int .i64 xc, .int .i64 xi] 24))) := (Below.refl _ w).alloc (Nat.le_refl _) _
  unfold encS
  go_enter Tryd.func24, Tryd.ntmps24
  go_wp2
  go_ret
  exact ⟨rfl, HB.out⟩
theorem at_nil (x : Slot) (w : World) : Calls Tryd.prog 15 #[.pointer none, encS x] w fun e w' => e = .returned (.tuple #[.int .i64 0, .int .i64 0, .int .i64 1]) ∧ Below w.heap.size w w' := by
  obtain ⟨xe, xc, xi⟩ := x
  have HB : Hid (Below w.heap.size w (w.alloc (.cells #[.int .i64 xe, .int .i64 xc, .int .i64 xi] 24))) := (Below.refl _ w).alloc (Nat.le_refl _) _
  unfold encS
  go_enter Tryd.func15, Tryd.ntmps15
  go_wp2
  go_ret3
  exact ⟨rfl, HB.out⟩
end Go.Proofs.YtaikapgpkkpdjaaDoor.L
