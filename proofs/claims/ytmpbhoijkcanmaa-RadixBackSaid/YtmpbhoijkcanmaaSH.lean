/- Radix: are two rows of pairs the same. -/
import Derived.Test.YtmpbhoijkcanmaaSG
namespace Go.Proofs.Ytmpbhoijkcanmaa.R
open Go.ChangeShapes Go.WideShapes Go.ChangeAt Go.RowKit Go.Maps Go.Proofs.Ytmpbhoijkcanmaa.G
set_option linter.unusedVariables false
set_option linter.unusedSimpArgs false
set_option linter.unnecessarySimpa false

set_option maxRecDepth 100000 in
set_option maxHeartbeats 2000000 in
theorem same_pairs (xs ys : List Pr) (a a' : Option Addr) (n n' cap cap' : Nat) (w : World) (h : Sl5 w a n xs) (h' : Sl5 w a' n' ys) (hn : n ≤ 1048576) (hn' : n' ≤ 1048576) :
    Calls Try.prog 14 #[.slice a n cap, .slice a' n' cap'] w fun e w' => e = .returned (.bool (decide (xs = ys))) ∧ Below w.heap.size w w' := by
  by_cases hne : n = n'
  · subst hne
    have hl := h.1
    have hl' := h'.1
    have H := Lib.hid h
    have H' := Lib.hid h'
    have HL := Lib.hid (And.intro hl hl')
    obtain ⟨R, hR⟩ : ∃ R, decide (xs = ys) = R := ⟨_, rfl⟩
    rw [hR]
    have HR := Lib.hid hR
    clear h h' hl hl' hR hn'
    go_enter Try.func14, Try.ntmps14
    go_wp2
    go_loopw [5] (fun v wr => ∃ i : Nat, i ≤ n ∧ v = .int .i64 i ∧ Hid ((∀ j, j < i → xs[j]? = ys[j]?) ∧ Below w.heap.size w wr)) (fun v _ => n - (intOf v).toNat)
    case atStart => exact ⟨0, Nat.zero_le _, rfl, fun j hj => absurd hj (Nat.not_lt_zero _), Below.refl _ _⟩
    case round =>
      obtain ⟨i, hi, rfl, hB⟩ := hrel
      by_cases hlt : i < n
      · have hix : i < xs.length := by rw [HL.out.1]; exact hlt
        have hiy : i < ys.length := by rw [HL.out.2]; exact hlt
        obtain ⟨b, off, rfl, c0, c1, c2, c3, c4⟩ := (H.out.turned (Turned.of_below hB.out.2) (by simp)).at i hix
        obtain ⟨b', off', rfl, d0, d1, d2, d3, d4⟩ := (H'.out.turned (Turned.of_below hB.out.2) (by simp)).at i hiy
        have HX := Lib.hid (And.intro (List.getElem?_eq_getElem hix) (List.getElem?_eq_getElem hiy))
        generalize xs[i] = x at *
        generalize ys[i] = y at *
        obtain ⟨xn, ⟨⟨xe, xc, xi⟩, xg⟩⟩ := x
        obtain ⟨yn, ⟨⟨ye, yc, yi⟩, yg⟩⟩ := y
        simp only at c0 c1 c2 c3 c4 d0 d1 d2 d3 d4
        clear hix hiy
        by_cases hxy : xn = yn ∧ xe = ye ∧ xc = yc ∧ xi = yi ∧ xg = yg
        · obtain ⟨rfl, rfl, rfl, rfl, rfl⟩ := hxy
          go_upto_region 6 with fail
          go_quiet (fail)
          go_wp2
          go_roundw
          case rel =>
            refine ⟨i + 1, by omega, by go_num, fun j hj => ?_, (Turned.drewN (Turned.of_below hB.out.2) nq).below⟩
            rcases Nat.lt_or_ge j i with h' | h'
            · exact hB.out.1 j h'
            · have : j = i := by omega
              subst this
              rw [HX.out.1, HX.out.2]
          case measure => simp [intOf]; omega
        · have HNe : Hid (xs ≠ ys) := by
            intro e
            have h1 := HX.out.1
            have h2 := HX.out.2
            rw [e, h2] at h1
            simp only [Option.some.injEq, Prod.mk.injEq, Ent.mk.injEq, Slot.mk.injEq] at h1
            exact hxy ⟨h1.1.symm, h1.2.1.1.symm, h1.2.1.2.1.symm, h1.2.1.2.2.symm, h1.2.2.symm⟩
          have hcs : (((xn : Int) == yn) = false) ∨ (((xn : Int) == yn) = true ∧ (xe == ye) = false) ∨ (((xn : Int) == yn) = true ∧ (xe == ye) = true ∧ (xc == yc) = false) ∨ (((xn : Int) == yn) = true ∧ (xe == ye) = true ∧ (xc == yc) = true ∧ (xi == yi) = false) ∨ (((xn : Int) == yn) = true ∧ (xe == ye) = true ∧ (xc == yc) = true ∧ (xi == yi) = true ∧ (xg == yg) = false) := by
            simp only [beq_iff_eq, beq_eq_false_iff_ne]
            omega
          clear hxy
          rcases hcs with h1 | ⟨h1, h2⟩ | ⟨h1, h2, h3⟩ | ⟨h1, h2, h3, h4⟩ | ⟨h1, h2, h3, h4, h5⟩
          all_goals
            go_upto_region 6 with fail
            go_quiet (fail)
            go_wp2
            go_ret
            exact ⟨retB (by rw [← HR.out]; symm; rw [decide_eq_false_iff_not]; exact HNe.out), (Turned.drewN (Turned.of_below hB.out.2) nq).below⟩
      · have hie : i = n := by omega
        subst hie
        clear hlt
        go_wp2
        go_ret
        have e1 : xs = ys := List.ext_getElem? fun j => by
          rcases Nat.lt_or_ge j i with h' | h'
          · exact hB.out.1 j h'
          · rw [List.getElem?_eq_none (by rw [HL.out.1]; exact h'), List.getElem?_eq_none (by rw [HL.out.2]; exact h')]
        exact ⟨retB (by rw [← HR.out, e1]; simp), hB.out.2⟩
  · have hl := h.1
    have hl' := h'.1
    have hd : decide (xs = ys) = false := by
      rw [decide_eq_false_iff_not]
      intro e
      rw [e] at hl
      omega
    rw [hd]
    have hnb : ((n : Int) == n') = false := by rw [beq_eq_false_iff_ne]; omega
    have hnc : (n == n') = false := by simpa using hne
    have HB := Lib.hid (Below.refl w.heap.size w)
    clear h h' hl hl' hd hne
    go_enter Try.func14, Try.ntmps14
    go_wp2
    go_ret
    exact ⟨rfl, HB.out⟩
end Go.Proofs.Ytmpbhoijkcanmaa.R
