/- Slots: the document's: where a slot lies. -/
import Derived.Test.YtaikapgpkkpdjaaDoorTM
namespace Go.Proofs.YtaikapgpkkpdjaaDoor.L
open Go.ChangeShapes Go.WideShapes Go.ChangeAt Go.RowKit Go.Maps Go.Proofs.YtaikapgpkkpdjaaDoor.G Go.Sort Go.Shelf Go.Lib Go.Deep
set_option linter.unusedVariables false
set_option linter.unusedSimpArgs false

variable {w w' : World} {br bL n cap : Nat} {pg : Int} {rx : Nat → RX}
set_option maxRecDepth 100000 in
set_option maxHeartbeats 4000000 in
theorem rat (x : Slot) (hx : I64 x.e ∧ I64 x.c ∧ I64 x.i) (hpg : isPage pg = true) (w : World) (h : RefAt w br bL n cap pg rx) :
    Calls Tryd.prog 16 #[.pointer (some ⟨br, 0, none⟩), encS x] w
      (if thereR n rx x then atPost (4 * pg * x.e + sizeC x.c pg * x.i) (sizeC x.c pg) 0 w else atPost 0 0 3 w) := by
  have CT := rthere (br := br) (bL := bL) (n := n) (cap := cap) (pg := pg) (rx := rx) x hx
  have hR1 := h.calm ((Turned.refl [] w).alloc (.cells #[.int .i64 x.e, .int .i64 x.c, .int .i64 x.i] 24))
  have HRs := Lib.hid (res_new w x)
  have HB : Hid (Below w.heap.size w (w.alloc (.cells #[.int .i64 x.e, .int .i64 x.c, .int .i64 x.i] 24))) := (Below.refl _ w).alloc (Nat.le_refl _) _
  have HCT := Lib.hid (CT _ hR1)
  have HR := Lib.hid hR1
  have hth := fun ht => h.there (x := x) ht
  have hfew := h.few
  have hpp : 1024 ≤ pg ∧ pg ≤ 16384 := by
    have hpp : pg = 1024 ∨ pg = 2048 ∨ pg = 4096 ∨ pg = 8192 ∨ pg = 16384 := by unfold isPage at hpg; simpa [or_assoc] using hpg
    omega
  have hzb : 0 ≤ sizeC x.c pg ∧ sizeC x.c pg ≤ 17 * 1024 := by
    unfold sizeC
    rw [hpg, if_pos rfl]
    have hpp : pg = 1024 ∨ pg = 2048 ∨ pg = 4096 ∨ pg = 8192 ∨ pg = 16384 := by unfold isPage at hpg; simpa [or_assoc] using hpg
    rcases unitsC_of x.c with h | h | h | h | h | h | h <;> rw [h.2] <;> omega
  have CZ := Lib.hid (rsize x.c pg (by unfold I64; omega))
  cases hb : thereR n rx x
  · rw [if_neg (by simp)]
    unfold atPost
    rw [hb] at HCT
    clear CT hR1 h hb hth CZ hzb
    obtain ⟨xe, xc, xi⟩ := x
    unfold encS at *
    simp only at *
    go_enter Tryd.func16, Tryd.ntmps16
    go_wp2_with (go_at_call 33; ((with_reducible refine HCT.out.mono ?_); rintro e ww ⟨rfl, hb⟩; have HB2 := Lib.hid (HB.out.trans (hb.mono HB.out.size)); clear hb))
    go_ret3
    exact ⟨rfl, HB2.out⟩
  · rw [if_pos rfl]
    unfold atPost
    rw [hb] at HCT
    obtain ⟨E, I, he, hi, hE, hI, hcls, hK64⟩ := hth hb
    clear CT hR1 h hb hth hcls
    obtain ⟨xe, xc, xi⟩ := x
    simp only at he hi
    subst he hi
    unfold encS at *
    simp only at *
    generalize (rx E).K = K at *
    generalize sizeC xc pg = sz at *
    have q1 : 0 ≤ 4 * pg * (E : Int) ∧ 4 * pg * (E : Int) ≤ 65536 * 32 := ⟨Int.mul_nonneg (by omega) (by omega), Int.mul_le_mul (by omega) (by omega) (by omega) (by omega)⟩
    have q2 : 0 ≤ sz * (I : Int) ∧ sz * (I : Int) ≤ (17 * 1024) * 64 := ⟨Int.mul_nonneg (by omega) (by omega), Int.mul_le_mul (by omega) (by omega) (by omega) (by omega)⟩
    have w1 : IntKind.i64.wrap (4 * pg) = 4 * pg := IntWalk.i64_in _ (by omega)
    have w2 : IntKind.i64.wrap (4 * pg * (E : Int)) = 4 * pg * (E : Int) := IntWalk.i64_in _ (by omega)
    have w3 : IntKind.i64.wrap (sz * (I : Int)) = sz * (I : Int) := IntWalk.i64_in _ (by omega)
    have w4 : IntKind.i64.wrap (4 * pg * (E : Int) + sz * (I : Int)) = 4 * pg * (E : Int) + sz * (I : Int) := IntWalk.i64_in _ (by omega)
    have HW := Lib.hid (And.intro w1 (And.intro w2 (And.intro w3 w4)))
    clear q1 q2 w1 w2 w3 w4 hzb
    go_enter Tryd.func16, Tryd.ntmps16
    go_upto_region 3 with (go_at_call 33; ((with_reducible refine HCT.out.mono ?_); rintro e ww ⟨rfl, hb⟩; have HB2 := Lib.hid (HB.out.trans (hb.mono HB.out.size)); have HR2 := Lib.hid (HR.out.calm (Turned.of_below hb)); have HRs2 := Lib.hid (HRs.out.turned (Turned.of_below hb) (by simp)); clear hb))
    obtain ⟨B, hBe⟩ : ∃ B, w.heap.size = B := ⟨_, rfl⟩
    rw [hBe] at HRs2
    rw [hBe]
    have HBe := Lib.hid hBe
    clear hBe HB HR HRs HCT
    have r0 := HRs2.out.c0
    have r1 := HRs2.out.c1
    have r2 := HRs2.out.c2
    have k0 := HR2.out.page
    simp only at r0 r1 r2
    go_quiet ((go_at_call 34; exact Calls.quiet_of_same ((CZ.out _).mono fun e w' h => ⟨h.1, h.2.symm⟩)))
    obtain ⟨w1, w2, w3, w4⟩ := HW.out
    have r0 := (HRs2.out.turned ((Turned.refl [] ww).drewN nq) (by simp)).c0
    have r2 := (HRs2.out.turned ((Turned.refl [] ww).drewN nq) (by simp)).c2
    have k0 := (HR2.out.calm ((Turned.refl [] ww).drewN nq)).page
    simp only at r0 r2
    have HB3 := Lib.hid (Turned.drewN (Turned.of_below HB2.out) nq)
    generalize ww.drewN nq = w5 at *
    go_upto_region 4 with fail
    go_quiet (fail)
    clear w1 w2 w3 w4
    go_wp2
    go_ret3
    exact ⟨rfl, HBe.out ▸ (Turned.drewN HB3.out _).below⟩
end Go.Proofs.YtaikapgpkkpdjaaDoor.L
