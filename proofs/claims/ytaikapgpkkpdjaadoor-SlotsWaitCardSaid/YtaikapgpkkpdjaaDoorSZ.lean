/- Slots: the walk of SlotsWait. -/
import Derived.Test.YtaikapgpkkpdjaaDoorSY
namespace Go.Proofs.YtaikapgpkkpdjaaDoor.L
open Go.ChangeShapes Go.WideShapes Go.ChangeAt Go.RowKit Go.Maps Go.Proofs.YtaikapgpkkpdjaaDoor.G Go.Sort Go.Shelf Go.Lib
set_option linter.unusedVariables false
set_option linter.unusedSimpArgs false

/-- slots of one extent, made by the call -/
abbrev AW (w ww : World) (bs be bm : Nat) (ex : Exts) (l : States) (V : List (Nat × Slot)) : Prop := AL w ww bs be bm 1 1024 ex l V
theorem takeW (bs be bm : Nat) (ex : Exts) (l : States) (c : Int) (R : Res) (hR : takeR 1 ex l c = R) (w ww : World) (V : List (Nat × Slot)) (h : AW w ww bs be bm ex l V) :
    Calls Tryd.prog 22 #[.pointer (some ⟨bs, 0, none⟩), .int .i64 c] ww fun e w' => e = .returned (.tuple #[.agg #[.int .i64 R.x.e, .int .i64 R.x.c, .int .i64 R.x.i], .int .i64 R.err]) ∧ AW w w' bs be bm R.ex R.l V := by
  refine (take_any bs be bm 1 1024 ex l c ww h.st).mono fun e w' ⟨h1, h2, h3⟩ => ?_
  rw [hR] at h1 h2
  exact ⟨by rw [h1]; rfl, h.step h2 h3 (by intro i hi; simpa using hi)⟩
theorem dropW (bs be bm : Nat) (ex : Exts) (l : States) (x : Slot) (hx : I64 x.e ∧ I64 x.c ∧ I64 x.i) (ep : Nat) (R : Int × States) (hR : dropR l x ep = R) (w ww : World) (V : List (Nat × Slot)) (h : AW w ww bs be bm ex l V) :
    Calls Tryd.prog 24 #[.pointer (some ⟨bs, 0, none⟩), .agg #[.int .i64 x.e, .int .i64 x.c, .int .i64 x.i], .int .u64 ep] ww fun e w' => e = .returned (.int .i64 R.1) ∧ AW w w' bs be bm ex R.2 V :=
  (drop_any bs be bm 1 1024 ex l x ep hx ww h.st).mono fun e w' ⟨h1, h2, h3⟩ => ⟨by rw [h1, hR], h.step (by rw [← hR]; exact h2) h3 (by intro i hi; right; simpa using hi)⟩
theorem lenW {ys : List Slot} {w w' ww : World} {bs be bm : Nat} {ex : Exts} {l : States} {V : List (Nat × Slot)} {e : Ending} (h : AW w ww bs be bm ex l V) (hr : rowPost ys ww e w') : ∃ a cap, e = .returned (.slice a ys.length cap) ∧ AW w w' bs be bm ex l V := by
  obtain ⟨v, h1, h2, h3⟩ := hr
  obtain ⟨a, cap, rfl, _⟩ := sl3_of_owns h2
  exact ⟨a, cap, h1, h.calm (Turned.of_below h3)⟩
def OneAt (w : World) (a : Option Addr) (x : Slot) : Prop := ∃ g, a = some ⟨g, 0, none⟩ ∧ w.cell? ⟨g, 0, none⟩ = some (.int .i64 x.e) ∧ w.cell? ⟨g, 1, none⟩ = some (.int .i64 x.c) ∧ w.cell? ⟨g, 2, none⟩ = some (.int .i64 x.i)
theorem dueW (bs be bm : Nat) (ex : Exts) (l : States) (d : Nat) (ys : List Slot) (hy : canon (dueV d) 1 ex l = ys) (w ww : World) (V : List (Nat × Slot)) (h : AW w ww bs be bm ex l V) :
    Calls Tryd.prog 23 #[.pointer (some ⟨bs, 0, none⟩), .int .u64 d] ww fun e w' => ∃ a cap, e = .returned (.slice a ys.length cap) ∧ (∀ x, ys = [x] → OneAt w' a x) ∧ AW w w' bs be bm (exD ex ys) (lD l ys) V := by
  refine (due_any bs be bm 1 1024 ex l d ww h.st).mono fun e w' ⟨v, h1, h2, h3, h4⟩ => ?_
  rw [hy] at h2 h3
  have h2' := h2
  obtain ⟨a, cap, rfl, hs, _⟩ := sl3_of_owns h2
  refine ⟨a, cap, h1, fun x hx => ?_, h.step h3 h4 (by intro i hi; simpa using hi)⟩
  subst hx
  rcases h2'.2 with ⟨e, h0⟩ | ⟨g, cap', cur, e, _⟩
  · simp at h0
  · simp only [Value.slice.injEq] at e
    obtain ⟨rfl, _, _⟩ := e
    rcases hs.2 with h0 | ⟨b, off, e, hc⟩
    · simp at h0
    · simp only [Option.some.injEq, Addr.mk.injEq] at e
      obtain ⟨rfl, rfl, _⟩ := e
      have := hc 0 (by simp)
      exact ⟨_, rfl, by simpa using this⟩

set_option pp.maxSteps 200000 in
set_option maxRecDepth 100000 in
set_option maxHeartbeats 4000000 in
theorem wait_law (c many which : Int) (ep du : Nat) (hc : 0 ≤ c ∧ c ≤ 255) (hm : 0 ≤ many ∧ many ≤ 255) (hw : 0 ≤ which ∧ which ≤ 255) (w : World) (hT : Tab w) :
    Calls Tryd.prog 5 #[.int .u8 c, .int .u8 many, .int .u8 which, .int .u64 ep, .int .u64 du] w fun e w' => e = .returned (.bool true) ∧ Below w.heap.size w w' := by
  have C9 := Lib.hid (new_any 4096 1024 1 (by decide) (by omega) (by omega) (by omega) w hT)
  obtain ⟨k, hk⟩ : ∃ k, c % 6 = k := ⟨_, rfl⟩
  have hk5 : 0 ≤ k ∧ k ≤ 5 := by omega
  have CS := Lib.hid (slots k)
  have hsl := slotsC_le k
  have hsp := slotsC_pos k hk5
  have HK : Hid (0 ≤ k ∧ k ≤ 5) := hk5
  obtain ⟨sl, hsl'⟩ : ∃ sl, slotsC k = sl := ⟨_, rfl⟩
  rw [hsl'] at hsl hsp CS
  have HSl := Lib.hid hsl'
  clear hsl'
  have hmod := Int.emod_nonneg many (show sl ≠ 0 by omega)
  have hmod2 := Int.emod_lt_of_pos many (show 0 < sl by omega)
  obtain ⟨M, hM⟩ : ∃ M : Nat, many % sl = M := ⟨(many % sl).toNat, by omega⟩
  rw [hM] at hmod hmod2
  obtain ⟨N, hN⟩ : ∃ N : Nat, N = M + 1 := ⟨_, rfl⟩
  have HNM := Lib.hid hN
  have hN1 : 1 + (M : Int) = N := by omega
  have hNs : 1 ≤ N ∧ (N : Int) ≤ sl := by omega
  have hwm := Int.emod_nonneg which (show (N : Int) ≠ 0 by omega)
  have hwm2 := Int.emod_lt_of_pos which (show 0 < (N : Int) by omega)
  obtain ⟨I, hI⟩ : ∃ I : Nat, which % (N : Int) = I := ⟨(which % (N : Int)).toNat, by omega⟩
  rw [hI] at hwm hwm2
  clear hN
  have hmx : max sl 1 = sl := by omega
  clear hT
  go_enter Tryd.func5, Tryd.ntmps5
  go_upto_block 1 with (first
    | (go_at_call 9; ((with_reducible refine C9.out.mono ?_); rintro e w1 ⟨bs, be, bm, rfl, hs, hn, ht⟩; have S0 : Hid (AW w w1 bs be bm ex0 [] []) := ⟨hs, hn, ht.below, by simp⟩; clear hs hn ht C9))
    | (go_at_call 21; ((with_reducible refine (CS.out _).mono ?_); rintro e w2 ⟨rfl, hb⟩; have S1 := Lib.hid (S0.out.calm (Turned.of_below hb)); clear hb S0)))
  have HI := Lib.hid hI
  have HAl := Lib.hid alive
  clear hM hI hmx hmod hk hN1 hmod2
  go_loopw [16] (fun v wr => ∃ i : Nat, i ≤ N ∧ v = .int .i64 i ∧ Hid (AW w wr bs be bm (exW k i) (lW k i) [])) (fun v _ => N - (intOf v).toNat)
  case atStart => exact ⟨0, Nat.zero_le _, rfl, S1.out⟩
  case round =>
    obtain ⟨i, hi, rfl, hS⟩ := hrel
    by_cases hlt : i < N
    · have hik : (i : Int) < slotsC k := by rw [HSl.out]; omega
      have CT := Lib.hid (takeW bs be bm (exW k i) (lW k i) k _ (take_step k HK.out i hik) w wr [] hS.out)
      clear hik
      go_wp2_with (first | (go_at_call 22; ((with_reducible refine CT.out.mono ?_); rintro e w3 ⟨rfl, hs⟩; have S2 := Lib.hid (hs.calm ((Turned.refl [] w3).alloc (.cells #[.int .i64 0, .int .i64 k, .int .i64 i] 24))); clear hs)))
      go_roundw
      case rel => exact ⟨i + 1, by omega, by go_num, S2.out⟩
      case measure => simp [intOf]; omega
    · have hie : i = N := by omega
      have hIM : I < i := by omega
      have hil : (i : Int) ≤ slotsC k := by rw [HSl.out]; omega
      have HIE := Lib.hid hie
      clear S1
      have T1 : Hid (∀ (ww : World) (V : List (Nat × Slot)), AW w ww bs be bm (exW k i) (lW k i) V → Calls Tryd.prog 24 #[.pointer (some ⟨bs, 0, none⟩), .agg #[.int .i64 0, .int .i64 k, .int .i64 I], .int .u64 ep] ww fun e w' => e = .returned (.int .i64 0) ∧ AW w w' bs be bm (exW k i) (lX k i I ep) V) :=
        fun ww V h => dropW bs be bm _ _ ⟨0, k, I⟩ ⟨by unfold I64; simp, by unfold I64; simp only; omega, by unfold I64; simp only; omega⟩ ep _ (drop1 k i I ep hIM) w ww V h
      have T2 : Hid (∀ (ww : World) (V : List (Nat × Slot)), AW w ww bs be bm (exW k i) (lX k i I ep) V → Calls Tryd.prog 24 #[.pointer (some ⟨bs, 0, none⟩), .agg #[.int .i64 0, .int .i64 k, .int .i64 I], .int .u64 ep] ww fun e w' => e = .returned (.int .i64 3) ∧ AW w w' bs be bm (exW k i) (lX k i I ep) V) :=
        fun ww V h => dropW bs be bm _ _ ⟨0, k, I⟩ ⟨by unfold I64; simp, by unfold I64; simp only; omega, by unfold I64; simp only; omega⟩ ep _ (drop2 k i I ep) w ww V h
      have T4 : Hid (∀ (ww : World) (V : List (Nat × Slot)), AW w ww bs be bm (exW k i) (lX k i I ep) V → Calls Tryd.prog 20 #[.pointer (some ⟨bs, 0, none⟩)] ww fun e w' => ∃ a cap, e = .returned (.slice a 1 cap) ∧ AW w w' bs be bm (exW k i) (lX k i I ep) V) := by
        intro ww V h
        refine (waiting_any bs be bm 1 1024 _ _ ww h.st).mono fun e w' hr => ?_
        obtain ⟨a, cap, h1, h2⟩ := lenW h hr
        rw [wait1 k i I ep h.st.inv] at h1
        exact ⟨a, cap, h1, h2⟩
      have T3 : Hid (∀ (ww : World) (V : List (Nat × Slot)), AW w ww bs be bm (exW k i) (lX k i I ep) V → Calls Tryd.prog 18 #[.pointer (some ⟨bs, 0, none⟩)] ww fun e w' => ∃ a cap, e = .returned (.slice a M cap) ∧ AW w w' bs be bm (exW k i) (lX k i I ep) V) := by
        intro ww V h
        refine (live_any bs be bm 1 1024 _ _ ww h.st).mono fun e w' hr => ?_
        obtain ⟨a, cap, h1, h2⟩ := lenW h hr
        have e1 := live_len 1 _ _ h.st.inv
        rw [wait1 k i I ep h.st.inv, lX_len k i I ep hIM] at e1
        simp only [List.length_cons, List.length_nil] at e1
        rw [show (canon liveV 1 (exW k i) (lX k i I ep)).length = M by have := HNM.out; have := HIE.out; omega] at h1
        exact ⟨a, cap, h1, h2⟩
      by_cases hd : ep ≤ du
      · have T5 : Hid (∀ (ww : World) (V : List (Nat × Slot)), AW w ww bs be bm (exW k i) (lX k i I ep) V → Calls Tryd.prog 23 #[.pointer (some ⟨bs, 0, none⟩), .int .u64 du] ww fun e w' => ∃ a cap, e = .returned (.slice a 1 cap) ∧ OneAt w' a ⟨0, k, I⟩ ∧ AW w w' bs be bm (exD (exW k i) [⟨0, k, I⟩]) (lD (lX k i I ep) [⟨0, k, I⟩]) V) := by
          intro ww V h
          have e1 := due1 k i I ep du h.st.inv
          rw [if_pos hd] at e1
          exact (dueW bs be bm _ _ du _ e1 w ww V h).mono fun e w' ⟨a, cap, h1, h2, h3⟩ => ⟨a, cap, h1, h2 _ rfl, h3⟩
        obtain ⟨exf, lf, hTk⟩ := take_back k HK.out i I ep hil hIM
        have T6 : Hid (∀ (ww : World) (V : List (Nat × Slot)), AW w ww bs be bm (exD (exW k i) [⟨0, k, I⟩]) (lD (lX k i I ep) [⟨0, k, I⟩]) V → Calls Tryd.prog 22 #[.pointer (some ⟨bs, 0, none⟩), .int .i64 k] ww fun e w' => e = .returned (.tuple #[.agg #[.int .i64 0, .int .i64 k, .int .i64 I], .int .i64 0]) ∧ AW w w' bs be bm exf lf V) :=
          fun ww V h => takeW bs be bm _ _ k _ hTk w ww V h
        have hdb : decide ((ep : Int) ≤ du) = true := by simpa using hd
        have hdb2 : decide (ep ≤ du) = true := by simpa using hd
        have hdb3 : (ep : Int) ≤ du := by omega
        clear hTk hd hie hil
        have hI := HI.out
        have hNM2 : (N : Int) - 1 = (M : Int) := by have := HNM.out; omega
        have hlt' : decide ((i : Int) < N) = false := by simpa using hlt
        go_upto_region 17 with (first
          | (go_at_call 24; ((with_reducible refine (T1.out _ _ (hS.out.var ⟨0, k, I⟩)).mono ?_); rintro e w3 ⟨rfl, hs⟩; have S2 := Lib.hid hs; clear T1 hS; have r := (hs.vars (wr.heap.size, ⟨0, k, I⟩) (by simp)).1; have r0 := r.c0; have r1 := r.c1; have r2 := r.c2; simp only at r0 r1 r2; clear hs r))
          | (go_at_call 24; ((with_reducible refine (T2.out _ _ S2.out).mono ?_); rintro e w4 ⟨rfl, hs⟩; have S3 := Lib.hid hs; clear T2 S2 hs r0 r1 r2))
          | (go_at_call 18; ((with_reducible refine (T3.out _ _ S3.out).mono ?_); rintro e w5 ⟨d8, cap8, rfl, hs⟩; have S4 := Lib.hid hs; clear hs T3 S3))
          | (go_at_call 20; ((with_reducible refine (T4.out _ _ S4.out).mono ?_); rintro e w6 ⟨d9, cap9, rfl, hs⟩; have S5 := Lib.hid hs; clear hs T4 S4))
          | (go_at_call 23; ((with_reducible refine (T5.out _ _ S5.out).mono ?_); rintro e w7 ⟨d10, cap10, rfl, ⟨g, rfl, q0, q1, q2⟩, hs⟩; have S6 := Lib.hid hs; clear hs T5 S5)))
        have r := (S6.out.vars (wr.heap.size, ⟨0, k, I⟩) (by simp)).1
        have r0 := r.c0
        have r1 := r.c1
        have r2 := r.c2
        simp only at r0 r1 r2
        clear r
        go_quiet (fail)
        have S7 := Lib.hid (S6.out.calm ((Turned.refl [] w7).drewN nq))
        clear q0 q1 q2 r0 r1 r2 S6
        generalize w7.drewN nq = w8 at *
        have b7 : I < sl := by omega
        clear hI hNM2
        go_upto_region 20 with (first
          | (go_at_call 22; ((with_reducible refine (T6.out _ _ S7.out).mono ?_); rintro e w9 ⟨rfl, hs⟩; have S8 := Lib.hid (hs.var ⟨0, k, I⟩); clear hs T6 S7)))
        have v1 := (S8.out.vars (w9.heap.size, ⟨0, k, I⟩) (by simp)).1
        have v2 := (S8.out.vars (wr.heap.size, ⟨0, k, I⟩) (by simp)).1
        have HB9 := Lib.hid S8.out.bel
        have HT9 := Lib.hid S8.out.st.at_.tab
        have HV := Lib.hid (And.intro v1 v2)
        have hne : Hid (wr.heap.size < (w9.alloc (.cells #[.int .i64 0, .int .i64 k, .int .i64 I] 24)).heap.size ∧ w9.heap.size < (w9.alloc (.cells #[.int .i64 0, .int .i64 k, .int .i64 I] 24)).heap.size) := ⟨World.rowIs.lt v2, World.rowIs.lt v1⟩
        clear v1 v2 S8
        generalize w9.alloc (.cells #[.int .i64 0, .int .i64 k, .int .i64 I] 24) = wA at *
        generalize w9.heap.size = b9 at *
        generalize wr.heap.size = br at *
        have RB : Hid (ResAt (wA.alloc (.cells #[.int .i64 0, .int .i64 k, .int .i64 N] 24)) wA.heap.size ⟨0, k, N⟩) := res_new wA ⟨0, k, N⟩
        have TB : Hid (Turned [] wA (wA.alloc (.cells #[.int .i64 0, .int .i64 k, .int .i64 N] 24))) := (Turned.refl [] wA).alloc _
        go_upto_region 21 with fail
        generalize wA.alloc (.cells #[.int .i64 0, .int .i64 k, .int .i64 N] 24) = wB at *
        obtain ⟨bw, hbw⟩ : ∃ bw, wA.heap.size = bw := ⟨_, rfl⟩
        have HBW := Lib.hid hbw
        rw [hbw] at RB hne
        rw [hbw]
        clear hbw
        have x0 := (HV.out.2.turned TB.out (by simp)).c0
        have x1 := (HV.out.2.turned TB.out (by simp)).c1
        have x2 := (HV.out.2.turned TB.out (by simp)).c2
        have y0 := RB.out.c0
        have y1 := RB.out.c1
        have y2 := RB.out.c2
        have f0 := RB.out.f 0
        have f1 := RB.out.f 1
        have f2 := RB.out.f 2
        simp only at x0 x1 x2 y0 y1 y2
        go_upto_region 23 with fail
        obtain ⟨hr, ht⟩ := RB.out.set ⟨0, k, I⟩
        have hv1 := ((HV.out.1.turned TB.out (by simp)).turned ht (by have := hne.out; simp; omega))
        have hbel := Turned.below_of HB9.out (TB.out.nil_mono.trans ht) (by intro i hi; simp only [List.mem_singleton] at hi; have := HBW.out; have := HB9.out.size; omega)
        have htab := (HT9.out.turned TB.out (by simp)).turned ht (by have := HT9.out.lt; have := HBW.out; simp; omega)
        simp only at hr ht hv1 hbel htab
        have HC := Lib.hid (And.intro hr (And.intro hv1 (And.intro hbel htab)))
        have HW : Hid (w.heap.size ≤ bw ∧ 0 < bw) := ⟨by have := HBW.out; have := HB9.out.size; omega, by have := HT9.out.lt; have := HBW.out; omega⟩
        clear hr ht hv1 hbel htab x0 x1 x2 y0 y1 y2 f0 f1 f2 HB9 HT9 HV RB TB
        generalize ((wB.setCell ⟨bw, 0, none⟩ (.int .i64 0)).setCell ⟨bw, 1, none⟩ (.int .i64 k)).setCell ⟨bw, 2, none⟩ (.int .i64 I) = wC at *
        have z0 := HC.out.1.c0
        have z1 := HC.out.1.c1
        have z2 := HC.out.1.c2
        have f0 := HC.out.1.f 0
        have f1 := HC.out.1.f 1
        have f2 := HC.out.1.f 2
        have y0 := HC.out.2.1.c0
        have y1 := HC.out.2.1.c1
        have y2 := HC.out.2.1.c2
        simp only at z0 z1 z2 y0 y1 y2
        by_cases hone : N = 1
        · obtain rfl : I = 0 := by omega
          have hob : ((N : Int) == 1) = true := by rw [beq_iff_eq]; omega
          obtain ⟨hr, ht⟩ := HC.out.1.set ⟨0, k, 0⟩
          have hv1 := HC.out.2.1.turned ht (by have := hne.out; simp; omega)
          have hbel := Turned.below_of HC.out.2.2.1 ht (by intro i hi; simp only [List.mem_singleton] at hi; have := HW.out; omega)
          have htab := HC.out.2.2.2.turned ht (by have := HW.out; simp; omega)
          simp only at hr ht hv1 hbel htab
          have HD := Lib.hid (And.intro hr (And.intro hv1 (And.intro hbel htab)))
          clear hr ht hv1 hbel htab hone
          go_upto_region 25 with fail
          clear HC z0 z1 z2 y0 y1 y2 f0 f1 f2
          generalize ((wC.setCell ⟨bw, 0, none⟩ (.int .i64 0)).setCell ⟨bw, 1, none⟩ (.int .i64 k)).setCell ⟨bw, 2, none⟩ (.int .i64 0) = wD at *
          have z0 := HD.out.1.c0
          have z1 := HD.out.1.c1
          have z2 := HD.out.1.c2
          have y0 := HD.out.2.1.c0
          have y1 := HD.out.2.1.c1
          have y2 := HD.out.2.1.c2
          simp only at z0 z1 z2 y0 y1 y2
          go_wp2_with (first
            | (go_at_call 8; ((with_reducible refine (HAl.out _ HD.out.2.2.2).mono ?_); rintro e wE ⟨rfl, hb⟩; have HE := Lib.hid (HD.out.2.2.1.trans (hb.mono HD.out.2.2.1.size)); clear hb)))
          go_ret
          exact ⟨rfl, HE.out⟩
        · have hob : ((N : Int) == 1) = false := by rw [beq_eq_false_iff_ne]; omega
          clear hone
          go_wp2_with (first
            | (go_at_call 8; ((with_reducible refine (HAl.out _ HC.out.2.2.2).mono ?_); rintro e wE ⟨rfl, hb⟩; have HE := Lib.hid (HC.out.2.2.1.trans (hb.mono HC.out.2.2.1.size)); clear hb)))
          go_ret
          exact ⟨rfl, HE.out⟩
      · have T5 : Hid (∀ (ww : World) (V : List (Nat × Slot)), AW w ww bs be bm (exW k i) (lX k i I ep) V → Calls Tryd.prog 23 #[.pointer (some ⟨bs, 0, none⟩), .int .u64 du] ww fun e w' => ∃ a cap, e = .returned (.slice a 0 cap) ∧ AW w w' bs be bm (exW k i) (lX k i I ep) V) := by
          intro ww V h
          have e1 := due1 k i I ep du h.st.inv
          rw [if_neg hd] at e1
          exact (dueW bs be bm _ _ du _ e1 w ww V h).mono fun e w' ⟨a, cap, h1, h2, h3⟩ => ⟨a, cap, h1, h3⟩
        have hdb : decide ((ep : Int) ≤ du) = false := by simpa using hd
        have hdb2 : decide (ep ≤ du) = false := by simpa using hd
        have HIL := Lib.hid hil
        clear hd hie hil
        have hI := HI.out
        have hNM2 : (N : Int) - 1 = (M : Int) := by have := HNM.out; omega
        have hlt' : decide ((i : Int) < N) = false := by simpa using hlt
        go_upto_region 17 with (first
          | (go_at_call 24; ((with_reducible refine (T1.out _ _ (hS.out.var ⟨0, k, I⟩)).mono ?_); rintro e w3 ⟨rfl, hs⟩; have S2 := Lib.hid hs; clear T1 hS; have r := (hs.vars (wr.heap.size, ⟨0, k, I⟩) (by simp)).1; have r0 := r.c0; have r1 := r.c1; have r2 := r.c2; simp only at r0 r1 r2; clear hs r))
          | (go_at_call 24; ((with_reducible refine (T2.out _ _ S2.out).mono ?_); rintro e w4 ⟨rfl, hs⟩; have S3 := Lib.hid hs; clear T2 S2 hs r0 r1 r2))
          | (go_at_call 18; ((with_reducible refine (T3.out _ _ S3.out).mono ?_); rintro e w5 ⟨d8, cap8, rfl, hs⟩; have S4 := Lib.hid hs; clear hs T3 S3))
          | (go_at_call 20; ((with_reducible refine (T4.out _ _ S4.out).mono ?_); rintro e w6 ⟨d9, cap9, rfl, hs⟩; have S5 := Lib.hid hs; clear hs T4 S4))
          | (go_at_call 23; ((with_reducible refine (T5.out _ _ S5.out).mono ?_); rintro e w7 ⟨d10, cap10, rfl, hs⟩; have S6 := Lib.hid hs; clear hs T5 S5)))
        go_quiet (fail)
        have S7 := Lib.hid (S6.out.calm ((Turned.refl [] w7).drewN nq))
        clear S6
        generalize w7.drewN nq = w8 at *
        clear hI hNM2
        by_cases hfull : (N : Int) = sl
        · have T6 : Hid (∀ (ww : World) (V : List (Nat × Slot)), AW w ww bs be bm (exW k i) (lX k i I ep) V → Calls Tryd.prog 22 #[.pointer (some ⟨bs, 0, none⟩), .int .i64 k] ww fun e w' => e = .returned (.tuple #[.agg #[.int .i64 0, .int .i64 0, .int .i64 0], .int .i64 4]) ∧ AW w w' bs be bm (exW k i) (lX k i I ep) V) :=
            fun ww V h => takeW bs be bm _ _ k _ (take_none k HK.out i (by have := HIE.out; omega) (by rw [HSl.out, HIE.out, hfull]) _) w ww V h
          have hNb : decide (sl ≤ (N : Int)) = true := by simp; omega
          clear hfull
          go_wp2_with (first
            | (go_at_call 22; ((with_reducible refine (T6.out _ _ S7.out).mono ?_); rintro e w9 ⟨rfl, hs⟩; have S8 := Lib.hid ((hs.var ⟨0, 0, 0⟩).calm ((Turned.refl [] _).alloc (.cells #[.int .i64 0, .int .i64 k, .int .i64 N] 24))); clear hs T6 S7))
            | (go_at_call 8; ((with_reducible refine (HAl.out _ S8.out.st.at_.tab).mono ?_); rintro e wE ⟨rfl, hb⟩; have HE := Lib.hid (S8.out.bel.trans (hb.mono S8.out.bel.size)); clear hb)))
          go_ret
          exact ⟨rfl, HE.out⟩
        · have T6 : Hid (∀ (ww : World) (V : List (Nat × Slot)), AW w ww bs be bm (exW k i) (lX k i I ep) V → Calls Tryd.prog 22 #[.pointer (some ⟨bs, 0, none⟩), .int .i64 k] ww fun e w' => e = .returned (.tuple #[.agg #[.int .i64 0, .int .i64 k, .int .i64 N], .int .i64 0]) ∧ AW w w' bs be bm (exW k (i + 1)) (mput (lX k i I ep) ⟨0, k, i⟩ (encT false 0)) V) := by
            intro ww V h
            have := takeW bs be bm _ _ k _ (take_stepL k HK.out i (by rw [HSl.out]; have := HIE.out; omega) _) w ww V h
            rw [← HIE.out]
            exact this
          have hNb : decide (sl ≤ (N : Int)) = false := by simp; omega
          clear hfull
          go_wp2_with (first
            | (go_at_call 22; ((with_reducible refine (T6.out _ _ S7.out).mono ?_); rintro e w9 ⟨rfl, hs⟩; have S8 := Lib.hid ((hs.var ⟨0, k, N⟩).calm ((Turned.refl [] _).alloc (.cells #[.int .i64 0, .int .i64 k, .int .i64 N] 24))); clear hs T6 S7))
            | (go_at_call 8; ((with_reducible refine (HAl.out _ S8.out.st.at_.tab).mono ?_); rintro e wE ⟨rfl, hb⟩; have HE := Lib.hid (S8.out.bel.trans (hb.mono S8.out.bel.size)); clear hb)))
          go_ret
          exact ⟨rfl, HE.out⟩
end Go.Proofs.YtaikapgpkkpdjaaDoor.L
