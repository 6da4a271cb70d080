/- Slots: which slot is picked; are two rows the same. -/
import Derived.Test.YtaikapgpkkpdjaaDoorTA
namespace Go.Proofs.YtaikapgpkkpdjaaDoor.L
open Go.ChangeShapes Go.WideShapes Go.ChangeAt Go.RowKit Go.Maps Go.Proofs.YtaikapgpkkpdjaaDoor.G Go.Sort Go.Shelf Go.Lib Go.Deep
set_option linter.unusedVariables false
set_option linter.unusedSimpArgs false

/-- which slot is picked -/
def pickS (ys : List Slot) (c : CallD) : Slot := if c.odd ∨ ys = [] then c.x else ys.getD (c.which % ys.length).toNat zeroS
theorem Sl3.at {w : World} {a : Option Addr} {n : Nat} {ys : List Slot} (h : Sl3 w a n ys) (i : Nat) (hi : i < ys.length) : ∃ b off, a = some ⟨b, off, none⟩ ∧ w.cell? ⟨b, off + i * 3, none⟩ = some (.int .i64 ys[i].e) ∧ w.cell? ⟨b, off + i * 3 + 1, none⟩ = some (.int .i64 ys[i].c) ∧ w.cell? ⟨b, off + i * 3 + 2, none⟩ = some (.int .i64 ys[i].i) := by
  rcases h.2 with h0 | ⟨b, off, e, hc⟩
  · have := h.1; omega
  · exact ⟨b, off, e, hc i hi⟩

theorem res_new2 (w : World) (o : Obj) (x : Slot) : ResAt ((w.alloc o).alloc (.cells #[.int .i64 x.e, .int .i64 x.c, .int .i64 x.i] 24)) (w.heap.size + 1) x := by
  have := res_new (w.alloc o) x
  simpa using this
theorem below2 (w : World) (o o' : Obj) : Below w.heap.size w ((w.alloc o).alloc o') := ((Below.refl _ w).alloc (Nat.le_refl _) _).alloc (by simp) _

set_option maxRecDepth 100000 in
set_option maxHeartbeats 2000000 in
theorem picked_x (ys : List Slot) (c : CallD) (hp : c.odd = true ∨ ys = []) (a : Option Addr) (n cap : Nat) (w : World) (h : Sl3 w a n ys) (hn : n ≤ 1048576) :
    Calls Tryd.prog 25 #[.slice a n cap, encC c] w fun e w' => e = .returned (encS c.x) ∧ Below w.heap.size w w' := by
  obtain ⟨d, cl, wh, od, ⟨xe, xc, xi⟩, ep⟩ := c
  simp only at hp
  have hl := h.1
  have HRes := Lib.hid (fun o => res_new2 w o ⟨xe, xc, xi⟩)
  have HB := Lib.hid (below2 w)
  have HP : Hid (od = true ∨ n = 0) := by
    rcases hp with h | h
    · exact .inl h
    · right; rw [← hl, h]; rfl
  clear h hl hp
  unfold encC encS
  simp only
  rcases HP.out with rfl | rfl
  · go_enter Tryd.func25, Tryd.ntmps25
    go_wp2
    have hr := HRes.out (.cells #[.int .u8 d, .int .i64 cl, .int .u16 wh, .bool true, .int .i64 xe, .int .i64 xc, .int .i64 xi, .int .u64 ep] 40)
    have g0 := hr.c0
    have g1 := hr.c1
    have g2 := hr.c2
    simp only at g0 g1 g2
    refine bodyPost_ret (v := .agg #[.int .i64 xe, .int .i64 xc, .int .i64 xi]) (by simp [results, Tryd.results25, go_sem, g0, g1, g2]) rfl ⟨rfl, HB.out _ _⟩
  · cases od
    all_goals
      go_enter Tryd.func25, Tryd.ntmps25
      go_wp2
    · have hr := HRes.out (.cells #[.int .u8 d, .int .i64 cl, .int .u16 wh, .bool false, .int .i64 xe, .int .i64 xc, .int .i64 xi, .int .u64 ep] 40)
      have g0 := hr.c0
      have g1 := hr.c1
      have g2 := hr.c2
      simp only at g0 g1 g2
      refine bodyPost_ret (v := .agg #[.int .i64 xe, .int .i64 xc, .int .i64 xi]) (by simp [results, Tryd.results25, go_sem, g0, g1, g2]) rfl ⟨rfl, HB.out _ _⟩
    · have hr := HRes.out (.cells #[.int .u8 d, .int .i64 cl, .int .u16 wh, .bool true, .int .i64 xe, .int .i64 xc, .int .i64 xi, .int .u64 ep] 40)
      have g0 := hr.c0
      have g1 := hr.c1
      have g2 := hr.c2
      simp only at g0 g1 g2
      refine bodyPost_ret (v := .agg #[.int .i64 xe, .int .i64 xc, .int .i64 xi]) (by simp [results, Tryd.results25, go_sem, g0, g1, g2]) rfl ⟨rfl, HB.out _ _⟩

set_option maxRecDepth 100000 in
set_option maxHeartbeats 2000000 in
theorem picked_i (ys : List Slot) (c : CallD) (hc : c.ok) (ho : c.odd = false) (h0 : ys ≠ []) (a : Option Addr) (n cap : Nat) (w : World) (h : Sl3 w a n ys) (hn : n ≤ 1048576) :
    Calls Tryd.prog 25 #[.slice a n cap, encC c] w fun e w' => e = .returned (encS (ys.getD (c.which % ys.length).toNat zeroS)) ∧ Below w.heap.size w w' := by
  have hl := h.1
  have hpos : 0 < n := by rw [← hl]; exact List.length_pos_iff.2 h0
  have hw := hc.2.2.1
  have hm := Int.emod_nonneg c.which (show (n : Int) ≠ 0 by omega)
  have hm2 := Int.emod_lt_of_pos c.which (show 0 < (n : Int) by omega)
  obtain ⟨I, hI⟩ : ∃ I : Nat, c.which % (n : Int) = I := ⟨(c.which % (n : Int)).toNat, by omega⟩
  rw [hI] at hm hm2
  rw [hl, hI, Int.toNat_natCast, List.getD_eq_getElem?_getD, List.getElem?_eq_getElem (by omega), Option.getD_some]
  obtain ⟨b, off, rfl, c0, c1, c2⟩ := h.at I (by omega)
  have hb : b < w.heap.size := lt_of_cell c0
  obtain ⟨y, hy⟩ : ∃ y, ys[I]'(by omega) = y := ⟨_, rfl⟩
  rw [hy] at c0 c1 c2 ⊢
  obtain ⟨ye, yc, yi⟩ := y
  obtain ⟨d, cl, wh, od, ⟨xe, xc, xi⟩, ep⟩ := c
  simp only at ho hw hI c0 c1 c2
  subst ho
  have HRes := Lib.hid (fun o => res_new2 w o ⟨ye, yc, yi⟩)
  have HB := Lib.hid (below2 w)
  have HK : Hid (∀ o o' a v, w.cell? a = some v → ((w.alloc o).alloc o').cell? a = some v) := fun o o' a v hv => ((((Turned.refl [] w).alloc o).alloc o').cell hv (by simp))
  have k0 := HK.out (.cells #[.int .u8 d, .int .i64 cl, .int .u16 wh, .bool false, .int .i64 xe, .int .i64 xc, .int .i64 xi, .int .u64 ep] 40) (.cells #[.int .i64 0, .int .i64 0, .int .i64 0] 24) _ _ c0
  have k1 := HK.out (.cells #[.int .u8 d, .int .i64 cl, .int .u16 wh, .bool false, .int .i64 xe, .int .i64 xc, .int .i64 xi, .int .u64 ep] 40) (.cells #[.int .i64 0, .int .i64 0, .int .i64 0] 24) _ _ c1
  have k2 := HK.out (.cells #[.int .u8 d, .int .i64 cl, .int .u16 wh, .bool false, .int .i64 xe, .int .i64 xc, .int .i64 xi, .int .u64 ep] 40) (.cells #[.int .i64 0, .int .i64 0, .int .i64 0] 24) _ _ c2
  have hnb : ((n : Int) == 0) = false := by rw [beq_eq_false_iff_ne]; omega
  clear h hl hy hc h0
  unfold encC encS
  simp only
  go_enter Tryd.func25, Tryd.ntmps25
  go_wp2
  have hr := HRes.out (.cells #[.int .u8 d, .int .i64 cl, .int .u16 wh, .bool false, .int .i64 xe, .int .i64 xc, .int .i64 xi, .int .u64 ep] 40)
  have g0 := hr.c0
  have g1 := hr.c1
  have g2 := hr.c2
  simp only at g0 g1 g2
  refine bodyPost_ret (v := .agg #[.int .i64 ye, .int .i64 yc, .int .i64 yi]) (by simp [results, Tryd.results25, go_sem, g0, g1, g2]) rfl ⟨rfl, HB.out _ _⟩

set_option maxHeartbeats 2000000 in
theorem same (xs ys : List Slot) (a a' : Option Addr) (n n' cap cap' : Nat) (w : World) (h : Sl3 w a n xs) (h' : Sl3 w a' n' ys) (hn : n ≤ 1048576) (hn' : n' ≤ 1048576) :
    Calls Tryd.prog 17 #[.slice a n cap, .slice a' n' cap'] w fun e w' => e = .returned (.bool (decide (xs = ys))) ∧ Below w.heap.size w w' := by
  by_cases hne : n = n'
  · subst hne
    have hl := h.1
    have hl' := h'.1
    have H := Lib.hid h
    have H' := Lib.hid h'
    have HL := Lib.hid (And.intro hl hl')
    obtain ⟨R, hR⟩ : ∃ R, decide (xs = ys) = R := ⟨_, rfl⟩
    rw [hR]
    have HR := Lib.hid hR
    clear h h' hl hl' hR hn'
    go_enter Tryd.func17, Tryd.ntmps17
    go_wp2
    go_loopw [5] (fun v wr => ∃ i : Nat, i ≤ n ∧ v = .int .i64 i ∧ Hid ((∀ j, j < i → xs[j]? = ys[j]?) ∧ Below w.heap.size w wr)) (fun v _ => n - (intOf v).toNat)
    case atStart => exact ⟨0, Nat.zero_le _, rfl, fun j hj => absurd hj (Nat.not_lt_zero _), Below.refl _ _⟩
    case round =>
      obtain ⟨i, hi, rfl, hB⟩ := hrel
      by_cases hlt : i < n
      · have hix : i < xs.length := by rw [HL.out.1]; exact hlt
        have hiy : i < ys.length := by rw [HL.out.2]; exact hlt
        obtain ⟨b, off, rfl, c0, c1, c2⟩ := (H.out.turned (Turned.of_below hB.out.2) (by simp)).at i hix
        obtain ⟨b', off', rfl, d0, d1, d2⟩ := (H'.out.turned (Turned.of_below hB.out.2) (by simp)).at i hiy
        have HX := Lib.hid (And.intro (List.getElem?_eq_getElem hix) (List.getElem?_eq_getElem hiy))
        generalize xs[i] = x at *
        generalize ys[i] = y at *
        obtain ⟨xe, xc, xi⟩ := x
        obtain ⟨ye, yc, yi⟩ := y
        simp only at c0 c1 c2 d0 d1 d2
        clear hix hiy
        by_cases hxy : xe = ye ∧ xc = yc ∧ xi = yi
        · obtain ⟨rfl, rfl, rfl⟩ := hxy
          go_upto_region 6 with fail
          go_quiet (fail)
          go_wp2
          go_roundw
          case rel =>
            refine ⟨i + 1, by omega, by go_num, fun j hj => ?_, (Turned.drewN (Turned.of_below hB.out.2) nq).below⟩
            rcases Nat.lt_or_ge j i with h' | h'
            · exact hB.out.1 j h'
            · have : j = i := by omega
              subst this
              rw [HX.out.1, HX.out.2]
          case measure => simp [intOf]; omega
        · have HNe : Hid (xs ≠ ys) := by
            intro e
            have h1 := HX.out.1
            have h2 := HX.out.2
            rw [e, h2] at h1
            simp only [Option.some.injEq, Slot.mk.injEq] at h1
            exact hxy ⟨h1.1.symm, h1.2.1.symm, h1.2.2.symm⟩
          have hcs : ((xe == ye) = false) ∨ ((xe == ye) = true ∧ (xc == yc) = false) ∨ ((xe == ye) = true ∧ (xc == yc) = true ∧ (xi == yi) = false) := by
            simp only [beq_iff_eq, beq_eq_false_iff_ne]
            omega
          clear hxy
          rcases hcs with h1 | ⟨h1, h2⟩ | ⟨h1, h2, h3⟩
          all_goals
            go_upto_region 6 with fail
            go_quiet (fail)
            go_wp2
            go_ret
            exact ⟨retB (by rw [← HR.out]; symm; rw [decide_eq_false_iff_not]; exact HNe.out), (Turned.drewN (Turned.of_below hB.out.2) nq).below⟩
      · have hie : i = n := by omega
        subst hie
        clear hlt
        go_wp2
        go_ret
        have e1 : xs = ys := List.ext_getElem? fun j => by
          rcases Nat.lt_or_ge j i with h' | h'
          · exact hB.out.1 j h'
          · rw [List.getElem?_eq_none (by rw [HL.out.1]; exact h'), List.getElem?_eq_none (by rw [HL.out.2]; exact h')]
        exact ⟨retB (by rw [← HR.out, e1]; simp), hB.out.2⟩
  · have hl := h.1
    have hl' := h'.1
    have hd : decide (xs = ys) = false := by
      rw [decide_eq_false_iff_not]
      intro e
      rw [e] at hl
      omega
    rw [hd]
    have hnb : ((n : Int) == n') = false := by rw [beq_eq_false_iff_ne]; omega
    have hnc : (n == n') = false := by simpa using hne
    clear h h' hl hl' hd hne
    go_enter Tryd.func17, Tryd.ntmps17
    go_wp2
    go_ret
    exact ⟨rfl, Below.refl _ _⟩
end Go.Proofs.YtaikapgpkkpdjaaDoor.L
