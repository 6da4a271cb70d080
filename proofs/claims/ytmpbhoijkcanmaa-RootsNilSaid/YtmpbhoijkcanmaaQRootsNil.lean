/- What none answers: Roots that are nil refuse each call, and have no version, no slot, no node, for any version, any page. No condition. -/
import Derived.Test.YtmpbhoijkcanmaaRows
import Derived.WalkKit
import Derived.ProofKit
import Derived.OpenShut
import Derived.Below
import Derived.Test.YtmpbhoijkcanmaaQ14

/- Roots: what none answers: the walk. -/
namespace Go.Proofs.Ytmpbhoijkcanmaa.R
open Go.ChangeShapes Go.WideShapes Go.ChangeAt Go.RowKit Go.Maps Go.Proofs.Ytmpbhoijkcanmaa.G
set_option linter.unusedVariables false
set_option linter.unusedSimpArgs false
set_option linter.unnecessarySimpa false

set_option maxRecDepth 100000 in
set_option maxHeartbeats 4000000 in
theorem rootsnil_law (n : Nat) (q : Int) (w : World) : Calls Try.prog 8 #[.int .u64 (n : Nat), .int .i64 q] w fun e w' => e = .returned (.bool true) ∧ Below w.heap.size w w' := by
  have HAl := Lib.hid alive24
  have C1 := Lib.hid (rpub_nil n none 0 0)
  have C2 : Hid (∀ w, Calls Try.prog 34 #[.pointer none, .int .u64 (n : Nat), .int .i64 q] w fun e w' => e = .returned (.tuple #[.agg #[.int .i64 0, .int .i64 0, .int .i64 0, .int .i64 0], .bool false, .int .i64 1]) ∧ Below w.heap.size w w') := fun w => rget_nil n q w
  have C3 := Lib.hid (rall_nil n)
  have C4 := Lib.hid (rrel_nil n)
  have C5 := Lib.hid (rhold_nil n)
  have C6 := Lib.hid rnow_nil
  have C7 := Lib.hid rvers_nil
  have C8 := Lib.hid rslots_nil
  have C9 := Lib.hid rnodes_nil
  go_enter Try.func8, Try.ntmps8
  go_wp2_with (first
    | (go_at_call 27; ((with_reducible refine (C1.out _).mono ?_); rintro e w1 ⟨rfl, rfl⟩))
    | (go_at_call 34; ((with_reducible refine (C2.out _).mono ?_); rintro e w4 ⟨rfl, hb⟩; have hb2 := (Turned.of_below hb).alloc (.cells #[.int .i64 0, .int .i64 0, .int .i64 0, .int .i64 0] 33); have N4 := Lib.hid hb2.below; clear hb hb2))
    | (go_at_call 25; ((with_reducible refine (C3.out _).mono ?_); rintro e w1 ⟨rfl, rfl⟩))
    | (go_at_call 28; ((with_reducible refine (C4.out _).mono ?_); rintro e w1 ⟨rfl, rfl⟩))
    | (go_at_call 26; ((with_reducible refine (C5.out _).mono ?_); rintro e w5 ⟨rfl, rfl⟩))
    | (go_at_call 24; ((with_reducible refine (C6.out _).mono ?_); rintro e w5 ⟨rfl, rfl⟩))
    | (go_at_call 31; ((with_reducible refine (C7.out _).mono ?_); rintro e w5 ⟨rfl, rfl⟩))
    | (go_at_call 30; ((with_reducible refine (C8.out _).mono ?_); rintro e w5 ⟨rfl, rfl⟩))
    | (go_at_call 35; ((with_reducible refine (C9.out _).mono ?_); rintro e w7 ⟨rfl, rfl⟩))
    | (go_at_call 22; ((with_reducible refine (HAl.out _).mono ?_); rintro e w9 ⟨rfl, hb⟩; have N9 := Lib.hid (N4.out.trans (hb.mono N4.out.size)); clear hb)))
  go_ret
  exact ⟨rfl, N9.out⟩
end Go.Proofs.Ytmpbhoijkcanmaa.R

/- What none answers: Roots that are nil refuse each call, and have no version, no slot, no node, for any version, any page. No condition. -/
namespace Go.Proofs.Ytmpbhoijkcanmaa.rootsNil
open Go.ChangeShapes Go.WideShapes Go.ChangeAt Go.RowKit
set_option linter.unusedVariables false

theorem own : ownKnob Try.prog.godebug = none := by kernel_rfl

set_option maxRecDepth 100000 in
theorem lifted (os : Os) (started : os.Started) (H : Type) (enc : TypeId × Value → H) :
    ReturnsInHanded {} Try.checked os 8 .any (Rows.rootsNilSpec.pre6 enc Try.prog Try.f8 Rows.rootsNilRow.domain false) (Rows.rootsNilSpec.post enc Try.prog Try.f8 false true false false) := by
  refine returnsInHanded_of_change (C := Try.checked) own started (by kernel_rfl) Try.func8
    (ChangeSpec.witness6 (enc := enc) (C := Try.checked) false ⟨#[], #[.int .u64 0, .int .i64 0], []⟩ 8 (by kernel_rfl) (by kernel_rfl) (by kernel_rfl) (by kernel_rfl)) ?_
  intro W base args ds gs before hval0 hW hcnd _
  have hval : ∀ (j : Nat) t v, Try.f8.params[j]? = some t → args[j]? = some v → Value.okWide Try.prog W .any base t v := hval0
  have hW' := hW
  obtain ⟨p, q, hA0, hV, rfl, hfz, hnd⟩ := hW
  have hA : DataW.TrodAll enc Try.prog W 0 (fun _ => true) true Try.f8.params.toList args.toList ds p := hA0
  rw [Try.params8] at hA hval
  obtain ⟨v0, vs0, d0, ds0, p0, q0, hargs, rfl, rfl, h0, r0⟩ := trodAll_cons hA
  obtain ⟨v1, vs1, d1, ds1, p1, q1, rfl, rfl, rfl, h1, r1⟩ := trodAll_cons r0
  obtain ⟨rfl, rfl, rfl⟩ := trodAll_nil r1
  obtain rfl : args = #[v0, v1] := by cases args; simp_all
  obtain ⟨rfl, rfl⟩ := trodVars_none hV
  obtain ⟨a0, rfl, rfl, rfl, w0⟩ := open_int Try.underlying61 (hval 0 61 v0 rfl rfl) h0
  obtain ⟨a1, rfl, rfl, rfl, w1⟩ := open_int Try.underlying3 (hval 1 3 v1 rfl rfl) h1
  have hw0 := w0
  simp [Lit.wf, IntKind.min, IntKind.max, IntKind.signed, IntKind.bits] at hw0
  obtain ⟨n, rfl⟩ : ∃ n : Nat, a0 = n := ⟨a0.toNat, by omega⟩
  clear hA0 hval0
  simp only [List.append_nil] at hW'
  refine (R.rootsnil_law n a1 W).mono fun e W' ⟨he, bel⟩ => ?_
  subst he
  exact ⟨_, rfl, _, _, _, [], [], [], hW', (trodAll_cons_mk (shut_bool Try.underlying4 _) trodAll_mk0), (trodAll_cons_mk (shut_int Try.underlying61 w0) (trodAll_cons_mk (shut_int Try.underlying3 w1) trodAll_mk0)), rfl, bel.frame _, fun h => by cases h⟩

theorem over : Rows.rootsNilRow.holds Try.pinned (OpenSpec.ofChange Rows.rootsNilSpec) :=
  OpenClaim.holds_of_wide 8 Try.f8 rfl rfl rfl rfl rfl rfl rfl ⟨rfl, rfl, rfl, rfl, rfl⟩ rfl rfl rfl rfl rfl (by kernel_rfl) Try.func8 (by kernel_rfl)
    (of_decide_eq_true (by kernel_rfl)) (by unfold Func.isWrapper; first | (rw [if_pos (by decide +kernel)]; kernel_rfl) | (rw [if_neg (by decide +kernel)]; exact ⟨rfl, rfl⟩))
    (fun os started H enc _ => lifted os started H enc)

theorem proved : Rows.RootsNilSaid :=
  over
#print axioms proved
end Go.Proofs.Ytmpbhoijkcanmaa.rootsNil
