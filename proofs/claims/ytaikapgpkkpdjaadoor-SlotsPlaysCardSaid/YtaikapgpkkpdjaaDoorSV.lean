/- Slots: alive. -/
import Derived.Test.YtaikapgpkkpdjaaDoorSU
namespace Go.Proofs.YtaikapgpkkpdjaaDoor.L
open Go.ChangeShapes Go.WideShapes Go.ChangeAt Go.RowKit Go.Maps Go.Proofs.YtaikapgpkkpdjaaDoor.G Go.Sort Go.Shelf Go.Lib
set_option linter.unusedVariables false
set_option linter.unusedSimpArgs false

/-- slots that a call made itself, and variables that hold slots -/
structure AL (w ww : World) (bs be bm n : Nat) (pg : Int) (ex : Exts) (l : States) (V : List (Nat × Slot)) : Prop where
  st : St ww bs be bm n pg ex l
  new : w.heap.size ≤ bs ∧ w.heap.size ≤ be ∧ w.heap.size ≤ bm
  bel : Below w.heap.size w ww
  vars : ∀ p ∈ V, ResAt ww p.1 p.2 ∧ be < p.1 ∧ bm < p.1
theorem AL.calm {w ww w3 : World} {bs be bm n : Nat} {pg : Int} {ex : Exts} {l : States} {V : List (Nat × Slot)} (h : AL w ww bs be bm n pg ex l V) (t : Turned [] ww w3) : AL w w3 bs be bm n pg ex l V :=
  ⟨h.st.calm t, h.new, h.bel.trans (t.below.mono h.bel.size), fun p hp => ⟨(h.vars p hp).1.turned t (by simp), (h.vars p hp).2⟩⟩
theorem AL.step {w ww w3 : World} {bs be bm n : Nat} {pg : Int} {ex ex' : Exts} {l l' : States} {V : List (Nat × Slot)} (h : AL w ww bs be bm n pg ex l V) (hs : St w3 bs be bm n pg ex' l') {S : List Nat} (t : Turned S ww w3) (hS : ∀ i ∈ S, i = be ∨ i = bm) : AL w w3 bs be bm n pg ex' l' V :=
  ⟨hs, h.new, Turned.below_of h.bel t (fun i hi => by have := hS i hi; have := h.new; rcases ‹i = be ∨ i = bm› with e | e <;> omega),
    fun p hp => ⟨(h.vars p hp).1.turned t (fun hm => by have := hS _ hm; have := h.vars p hp; omega), (h.vars p hp).2⟩⟩
theorem AL.var {w ww : World} {bs be bm n : Nat} {pg : Int} {ex : Exts} {l : States} {V : List (Nat × Slot)} (h : AL w ww bs be bm n pg ex l V) (x : Slot) :
    AL w (ww.alloc (.cells #[.int .i64 x.e, .int .i64 x.c, .int .i64 x.i] 24)) bs be bm n pg ex l ((ww.heap.size, x) :: V) := by
  have h1 := h.calm ((Turned.refl [] ww).alloc (.cells #[.int .i64 x.e, .int .i64 x.c, .int .i64 x.i] 24))
  have hl := h.st.lt
  refine ⟨h1.st, h1.new, h1.bel, fun p hp => ?_⟩
  rcases List.mem_cons.1 hp with rfl | hp
  · exact ⟨res_new ww x, hl.2.1, hl.2.2⟩
  · exact h1.vars p hp

def ex0 : Exts := fun _ => (0, 0)
def aR1 : Res := takeR 2 ex0 [] 5
def aR2 : Res := takeR 2 aR1.ex aR1.l 0
def aR3 : Res := takeR 2 aR2.ex aR2.l 4
def aR4 : Res := takeR 2 aR3.ex aR3.l 5
def aL5 : Int × States := dropR aR4.l ⟨1, 0, 0⟩ 7
def aY6 : List Slot := canon (dueV 6) 2 aR4.ex aL5.2
def aX6 : Exts := exD aR4.ex aY6
def aL6 : States := lD aL5.2 aY6
def aY7 : List Slot := canon (dueV 7) 2 aX6 aL6
def aX7 : Exts := exD aX6 aY7
def aL7 : States := lD aL6 aY7
theorem a1 : (aR1.x, aR1.err) = (⟨0, 5, 0⟩, 0) := by decide +kernel
theorem a2 : (aR2.x, aR2.err) = (⟨1, 0, 0⟩, 0) := by decide +kernel
theorem a3 : (aR3.x, aR3.err) = (⟨0, 0, 0⟩, 4) := by decide +kernel
theorem a4 : (aR4.x, aR4.err) = (⟨0, 5, 1⟩, 0) := by decide +kernel
theorem a5 : aL5.1 = 0 := by decide +kernel
theorem a6 : aY6 = [] := by decide +kernel
theorem a7 : aY7 = [⟨1, 0, 0⟩] := by decide +kernel
theorem a8 : canon liveV 2 aX7 aL7 = [⟨0, 5, 0⟩, ⟨0, 5, 1⟩] := by decide +kernel
theorem a9 : canon waitV 2 aX7 aL7 = [] := by decide +kernel
theorem a10 : classX 2 aX7 1 = -1 := by decide +kernel
theorem a11 : classX 2 aX7 0 = 5 := by decide +kernel
theorem a12 : thereB 2 aR4.ex ⟨0, 5, 1⟩ = true := by decide +kernel
theorem a13 : sizeC 5 1024 = 1088 := by decide +kernel

theorem take1 (bs be bm : Nat) (ex : Exts) (l : States) (c : Int) (R : Res) (hR : takeR 2 ex l c = R) (x : Slot) (er : Int) (hx : (R.x, R.err) = (x, er)) (w ww : World) (V : List (Nat × Slot)) (h : AL w ww bs be bm 2 1024 ex l V) :
    Calls Tryd.prog 22 #[.pointer (some ⟨bs, 0, none⟩), .int .i64 c] ww fun e w' => e = .returned (.tuple #[.agg #[.int .i64 x.e, .int .i64 x.c, .int .i64 x.i], .int .i64 er]) ∧ AL w w' bs be bm 2 1024 R.ex R.l V := by
  simp only [Prod.mk.injEq] at hx
  refine (take_any bs be bm 2 1024 ex l c ww h.st).mono fun e w' ⟨h1, h2, h3⟩ => ?_
  rw [hR] at h1 h2
  exact ⟨by rw [h1, hx.1, hx.2]; rfl, h.step h2 h3 (by intro i hi; simpa using hi)⟩

set_option maxRecDepth 100000 in
set_option maxHeartbeats 4000000 in
theorem alive (w : World) (hT : Tab w) : Calls Tryd.prog 8 #[] w fun e w' => e = .returned (.bool true) ∧ Below w.heap.size w w' := by
  have C9 := Lib.hid (new_any 8192 1024 2 (by decide) (by omega) (by omega) (by omega) w hT)
  have T1 := Lib.hid (fun bs be bm ww V h => take1 bs be bm ex0 [] 5 aR1 rfl _ _ a1 w ww V h)
  have T2 := Lib.hid (fun bs be bm ww V h => take1 bs be bm aR1.ex aR1.l 0 aR2 rfl _ _ a2 w ww V h)
  have T3 := Lib.hid (fun bs be bm ww V h => take1 bs be bm aR2.ex aR2.l 4 aR3 rfl _ _ a3 w ww V h)
  have T4 := Lib.hid (fun bs be bm ww V h => take1 bs be bm aR3.ex aR3.l 5 aR4 rfl _ _ a4 w ww V h)
  have T5 : Hid (∀ (bs be bm : Nat) (ww : World) (V : List (Nat × Slot)), AL w ww bs be bm 2 1024 aR4.ex aR4.l V → Calls Tryd.prog 15 #[.pointer (some ⟨bs, 0, none⟩), .agg #[.int .i64 0, .int .i64 5, .int .i64 1]] ww fun e w' => e = .returned (.tuple #[.int .i64 1088, .int .i64 1088, .int .i64 0]) ∧ AL w w' bs be bm 2 1024 aR4.ex aR4.l V) := by
    intro bs be bm ww V h
    have := at_fn bs be bm 2 1024 aR4.ex aR4.l ⟨0, 5, 1⟩ (by decide) (by decide) ww h.st.at_
    rw [if_pos a12, a13] at this
    exact this.mono fun e w' ⟨h1, h2⟩ => ⟨h1, h.calm (Turned.of_below h2)⟩
  have T6 : Hid (∀ (bs be bm : Nat) (ww : World) (V : List (Nat × Slot)), AL w ww bs be bm 2 1024 aR4.ex aR4.l V → Calls Tryd.prog 24 #[.pointer (some ⟨bs, 0, none⟩), .agg #[.int .i64 1, .int .i64 0, .int .i64 0], .int .u64 7] ww fun e w' => e = .returned (.int .i64 0) ∧ AL w w' bs be bm 2 1024 aR4.ex aL5.2 V) := by
    intro bs be bm ww V h
    exact (drop_any bs be bm 2 1024 aR4.ex aR4.l ⟨1, 0, 0⟩ 7 (by decide) ww h.st).mono fun e w' ⟨h1, h2, h3⟩ => ⟨by rw [h1]; exact ret1 a5, h.step h2 h3 (by intro i hi; right; simpa using hi)⟩
  have T7 : Hid (∀ (bs be bm : Nat) (ww : World) (V : List (Nat × Slot)), AL w ww bs be bm 2 1024 aR4.ex aL5.2 V → Calls Tryd.prog 23 #[.pointer (some ⟨bs, 0, none⟩), .int .u64 6] ww fun e w' => ∃ a cap, e = .returned (.slice a 0 cap) ∧ AL w w' bs be bm 2 1024 aX6 aL6 V) := by
    intro bs be bm ww V h
    refine (due_any bs be bm 2 1024 aR4.ex aL5.2 6 ww h.st).mono fun e w' ⟨v, h1, h2, h3, h4⟩ => ?_
    obtain ⟨a, cap, rfl, _⟩ := sl3_of_owns h2
    exact ⟨a, cap, by rw [h1, show (canon (dueV 6) 2 aR4.ex aL5.2).length = 0 by rw [show canon (dueV 6) 2 aR4.ex aL5.2 = aY6 from rfl, a6]; rfl], h.step h3 h4 (by intro i hi; simpa using hi)⟩
  have T8 : Hid (∀ (bs be bm : Nat) (ww : World) (V : List (Nat × Slot)), AL w ww bs be bm 2 1024 aX6 aL6 V → Calls Tryd.prog 23 #[.pointer (some ⟨bs, 0, none⟩), .int .u64 7] ww fun e w' => ∃ a cap, e = .returned (.slice a 1 cap) ∧ AL w w' bs be bm 2 1024 aX7 aL7 V) := by
    intro bs be bm ww V h
    refine (due_any bs be bm 2 1024 aX6 aL6 7 ww h.st).mono fun e w' ⟨v, h1, h2, h3, h4⟩ => ?_
    obtain ⟨a, cap, rfl, _⟩ := sl3_of_owns h2
    exact ⟨a, cap, by rw [h1, show (canon (dueV 7) 2 aX6 aL6).length = 1 by rw [show canon (dueV 7) 2 aX6 aL6 = aY7 from rfl, a7]; rfl], h.step h3 h4 (by intro i hi; simpa using hi)⟩
  have T9 : Hid (∀ (bs be bm : Nat) (ww : World) (V : List (Nat × Slot)), AL w ww bs be bm 2 1024 aX7 aL7 V → Calls Tryd.prog 11 #[.pointer (some ⟨bs, 0, none⟩)] ww fun e w' => e = .returned (.int .i64 2) ∧ ww = w') :=
    fun bs be bm ww V h => extents bs be bm 2 1024 aX7 aL7 ww h.st.at_
  have TA : Hid (∀ (bs be bm : Nat) (ww : World) (V : List (Nat × Slot)), AL w ww bs be bm 2 1024 aX7 aL7 V → Calls Tryd.prog 13 #[.pointer (some ⟨bs, 0, none⟩), .int .i64 1] ww fun e w' => e = .returned (.int .i64 (-1)) ∧ ww = w') :=
    fun bs be bm ww V h => a10 ▸ class_ bs be bm 2 1024 aX7 aL7 1 ww h.st.at_
  have TB : Hid (∀ (bs be bm : Nat) (ww : World) (V : List (Nat × Slot)), AL w ww bs be bm 2 1024 aX7 aL7 V → Calls Tryd.prog 13 #[.pointer (some ⟨bs, 0, none⟩), .int .i64 0] ww fun e w' => e = .returned (.int .i64 5) ∧ ww = w') :=
    fun bs be bm ww V h => a11 ▸ class_ bs be bm 2 1024 aX7 aL7 0 ww h.st.at_
  have TC : Hid (∀ (bs be bm : Nat) (ww : World) (V : List (Nat × Slot)), AL w ww bs be bm 2 1024 aX7 aL7 V → Calls Tryd.prog 18 #[.pointer (some ⟨bs, 0, none⟩)] ww fun e w' => ∃ a cap, e = .returned (.slice a 2 cap) ∧ AL w w' bs be bm 2 1024 aX7 aL7 V) := by
    intro bs be bm ww V h
    refine (live_any bs be bm 2 1024 aX7 aL7 ww h.st).mono fun e w' ⟨v, h1, h2, h3⟩ => ?_
    obtain ⟨a, cap, rfl, _⟩ := sl3_of_owns h2
    exact ⟨a, cap, by rw [h1, a8]; rfl, h.calm (Turned.of_below h3)⟩
  have TD : Hid (∀ (bs be bm : Nat) (ww : World) (V : List (Nat × Slot)), AL w ww bs be bm 2 1024 aX7 aL7 V → Calls Tryd.prog 20 #[.pointer (some ⟨bs, 0, none⟩)] ww fun e w' => ∃ a cap, e = .returned (.slice a 0 cap) ∧ AL w w' bs be bm 2 1024 aX7 aL7 V) := by
    intro bs be bm ww V h
    refine (waiting_any bs be bm 2 1024 aX7 aL7 ww h.st).mono fun e w' ⟨v, h1, h2, h3⟩ => ?_
    obtain ⟨a, cap, rfl, _⟩ := sl3_of_owns h2
    exact ⟨a, cap, by rw [h1, a9]; rfl, h.calm (Turned.of_below h3)⟩
  clear hT
  go_enter Tryd.func8, Tryd.ntmps8
  go_wp2_with (first
    | (go_at_call 9; ((with_reducible refine C9.out.mono ?_); rintro e w1 ⟨bs, be, bm, rfl, hs, hn, ht⟩; have S0 : Hid (AL w w1 bs be bm 2 1024 ex0 [] []) := ⟨hs, hn, ht.below, by simp⟩; clear hs hn ht C9))
    | (go_at_call 22; ((with_reducible refine (T1.out bs be bm _ _ S0.out).mono ?_); rintro e w2 ⟨rfl, hs⟩; have S1 := Lib.hid (hs.var ⟨0, 5, 0⟩); clear hs S0 T1))
    | (go_at_call 22; ((with_reducible refine (T2.out bs be bm _ _ S1.out).mono ?_); rintro e w3 ⟨rfl, hs⟩; have S2 := Lib.hid (hs.var ⟨1, 0, 0⟩); clear hs S1 T2))
    | (go_at_call 22; ((with_reducible refine (T3.out bs be bm _ _ S2.out).mono ?_); rintro e w4 ⟨rfl, hs⟩; have S3 := Lib.hid (hs.var ⟨0, 0, 0⟩); clear hs S2 T3))
    | (go_at_call 22; ((with_reducible refine (T4.out bs be bm _ _ S3.out).mono ?_); rintro e w5 ⟨rfl, hs⟩; have S4 := Lib.hid (hs.var ⟨0, 5, 1⟩); clear hs S3 T4))
    | (go_at_call 15; ((with_reducible refine (T5.out bs be bm _ _ S4.out).mono ?_); rintro e w6 ⟨rfl, hs⟩; have S5 := Lib.hid hs; clear S4 T5; have v1 := (hs.vars (w2.heap.size, ⟨0, 5, 0⟩) (by simp)).1; have v2 := (hs.vars (w3.heap.size, ⟨1, 0, 0⟩) (by simp)).1; have r0 := v2.c0; have r1 := v2.c1; have r2 := v2.c2; simp only at r0 r1 r2; clear hs v1 v2))
    | (go_at_call 24; ((with_reducible refine (T6.out bs be bm _ _ S5.out).mono ?_); rintro e w7 ⟨rfl, hs⟩; clear r0 r1 r2; have S6 := Lib.hid hs; clear S5 T6 hs))
    | (go_at_call 23; ((with_reducible refine (T7.out bs be bm _ _ S6.out).mono ?_); rintro e w8 ⟨d6, cap6, rfl, hs⟩; have S7 := Lib.hid hs; clear S6 T7 hs))
    | (go_at_call 23; ((with_reducible refine (T8.out bs be bm _ _ S7.out).mono ?_); rintro e w9 ⟨d7, cap7, rfl, hs⟩; have S8 := Lib.hid hs; clear S7 T8; have v1 := (hs.vars (w2.heap.size, ⟨0, 5, 0⟩) (by simp)).1; have v2 := (hs.vars (w3.heap.size, ⟨1, 0, 0⟩) (by simp)).1; have v3 := (hs.vars (w5.heap.size, ⟨0, 5, 1⟩) (by simp)).1; have r0 := v2.c0; have r1 := v2.c1; have r2 := v2.c2; have p0 := v1.c0; have p1 := v1.c1; have p2 := v1.c2; have q0 := v3.c0; have q1 := v3.c1; have q2 := v3.c2; simp only at r0 r1 r2 p0 p1 p2 q0 q1 q2; clear hs v1 v2 v3))
    | (go_at_call 11; ((with_reducible refine (T9.out bs be bm _ _ S8.out).mono ?_); rintro e w10 ⟨rfl, rfl⟩))
    | (go_at_call 13; ((with_reducible refine (TA.out bs be bm _ _ S8.out).mono ?_); rintro e w10 ⟨rfl, rfl⟩))
    | (go_at_call 13; ((with_reducible refine (TB.out bs be bm _ _ S8.out).mono ?_); rintro e w10 ⟨rfl, rfl⟩))
    | (go_at_call 18; ((with_reducible refine (TC.out bs be bm _ _ S8.out).mono ?_); rintro e w11 ⟨d8, cap8, rfl, hs⟩; have S9 := Lib.hid hs; clear hs S8))
    | (go_at_call 20; ((with_reducible refine (TD.out bs be bm _ _ S9.out).mono ?_); rintro e w12 ⟨d9, cap9, rfl, hs⟩; have SA := Lib.hid hs; clear hs S9)))
  go_ret
  exact ⟨rfl, SA.out.bel⟩
end Go.Proofs.YtaikapgpkkpdjaaDoor.L
