/- Slots: the document's: a slot is dropped; a slot is taken of an extent. -/
import Derived.Test.YtaikapgpkkpdjaaDoorTK
namespace Go.Proofs.YtaikapgpkkpdjaaDoor.L
open Go.ChangeShapes Go.WideShapes Go.ChangeAt Go.RowKit Go.Maps Go.Proofs.YtaikapgpkkpdjaaDoor.G Go.Sort Go.Shelf Go.Lib Go.Deep
set_option linter.unusedVariables false
set_option linter.unusedSimpArgs false

variable {w w' : World} {br bL n cap : Nat} {pg : Int} {rx : Nat → RX}
/-- only the document's own blocks are changed -/
def OwnR (br bL n : Nat) (rx : Nat → RX) (w w' : World) : Prop := ∃ S, Turned S w w' ∧ ∀ b ∈ S, RBlk br bL n rx b
theorem OwnR.of_below {w w' : World} (h : Below w.heap.size w w') : OwnR br bL n rx w w' := ⟨[], Turned.of_below h, by simp⟩

def dropRx (rx : Nat → RX) (e i : Nat) (ep : Nat) : Nat → RX := rxE (rxS rx e i 2) e i ep
def rdropPost (br bL n cap : Nat) (pg : Int) (rx : Nat → RX) (x : Slot) (ep : Nat) (w : World) (e : Ending) (w' : World) : Prop :=
  if stateR n rx x = 1 then e = .returned (.int .i64 0) ∧ RefAt w' br bL n cap pg (dropRx rx x.e.toNat x.i.toNat ep) ∧ OwnR br bL n rx w w'
  else e = .returned (.int .i64 3) ∧ RefAt w' br bL n cap pg rx ∧ OwnR br bL n rx w w'
set_option maxRecDepth 100000 in
set_option maxHeartbeats 4000000 in
theorem rdrop (x : Slot) (hx : I64 x.e ∧ I64 x.c ∧ I64 x.i) (ep : Nat) (hep : ep < 2 ^ 64) (w : World) (h : RefAt w br bL n cap pg rx) :
    Calls Tryd.prog 31 #[.pointer (some ⟨br, 0, none⟩), encS x, .int .u64 ep] w (rdropPost br bL n cap pg rx x ep w) := by
  have CT := rstate (br := br) (bL := bL) (n := n) (cap := cap) (pg := pg) (rx := rx) x hx
  have hR1 := h.calm ((Turned.refl [] w).alloc (.cells #[.int .i64 x.e, .int .i64 x.c, .int .i64 x.i] 24))
  have HRs := Lib.hid (res_new w x)
  have HB : Hid (Below w.heap.size w (w.alloc (.cells #[.int .i64 x.e, .int .i64 x.c, .int .i64 x.i] 24))) := (Below.refl _ w).alloc (Nat.le_refl _) _
  have HCT := Lib.hid (CT _ hR1)
  have HR := Lib.hid hR1
  have hR0 := Lib.hid h
  unfold rdropPost
  by_cases hb : stateR n rx x = 1
  · simp only [if_pos hb]
    have hth : thereR n rx x = true := by
      cases ht : thereR n rx x
      · unfold stateR at hb; rw [ht] at hb; simp at hb
      · rfl
    obtain ⟨E, I, he, hi, hE, hI, hcls, hK64⟩ := h.there hth
    rw [hb] at HCT
    have hc : ∀ ww, RefAt ww br bL n cap pg rx → ww.cell? ⟨br, 1, none⟩ = some (.slice (some ⟨bL, 0, none⟩) n cap) ∧ ww.cell? ⟨bL, E * 3 + 1, none⟩ = some (.slice (some ⟨(rx E).sb, 0, none⟩) (rx E).K (rx E).K) ∧ ww.cell? ⟨(rx E).sb, I, none⟩ = some (.int .i64 ((rx E).st I)) ∧ ww.frozen? ⟨(rx E).sb, I, none⟩ = false := fun ww h => ⟨h.ext1 (by omega), by rw [h.c1 E hE, svOf_pos (by omega)], h.s E hE I hI, by
      rcases h.cells E hE with h0 | ⟨a, _⟩
      · omega
      · exact a.frozen I⟩
    have hc2 : ∀ ww, RefAt ww br bL n cap pg (rxS rx E I 2) → ww.cell? ⟨br, 1, none⟩ = some (.slice (some ⟨bL, 0, none⟩) n cap) ∧ ww.cell? ⟨bL, E * 3 + 2, none⟩ = some (.slice (some ⟨(rx E).eb, 0, none⟩) (rx E).K (rx E).K) ∧ ww.cell? ⟨(rx E).eb, I, none⟩ = some (.int .u64 ((rx E).ep I)) ∧ ww.frozen? ⟨(rx E).eb, I, none⟩ = false := fun ww h => by
      have e1 : rxS rx E I 2 E = { rx E with st := setF (rx E).st I 2 } := updR_same _ _ _
      refine ⟨h.ext1 (by omega), ?_, ?_, ?_⟩
      · have := h.c2 E hE; rw [e1, svOf_pos (by simp only; omega)] at this; exact this
      · have := h.p E hE I (by rw [e1]; exact hI); rw [e1] at this; exact this
      · rcases h.cells E hE with h0 | ⟨_, a⟩
        · rw [e1] at h0; simp only at h0; omega
        · rw [e1] at a; exact a.frozen I
    have HC := Lib.hid hc
    have HC2 := Lib.hid hc2
    have hfew := h.few
    have HRb : Hid (RBlk br bL n rx (rx E).sb ∧ RBlk br bL n rx (rx E).eb) := ⟨.inr (.inr ⟨E, hE, by omega, .inl rfl⟩), .inr (.inr ⟨E, hE, by omega, .inr rfl⟩)⟩
    have HBox : Hid (w.heap.size ≠ (rx E).sb ∧ w.heap.size ≠ (rx E).eb) := ⟨by have := h.lt HRb.out.1; omega, by have := h.lt HRb.out.2; omega⟩
    have HS1 : Hid (∀ ww, RefAt ww br bL n cap pg rx → RefAt (ww.setCell ⟨(rx E).sb, I, none⟩ (.int .i64 2)) br bL n cap pg (rxS rx E I 2)) := fun ww h => h.setS E hE I hI 2 (by omega)
    have HS2 : Hid (∀ ww, RefAt ww br bL n cap pg (rxS rx E I 2) → RefAt (ww.setCell ⟨(rx E).eb, I, none⟩ (.int .u64 ep)) br bL n cap pg (dropRx rx E I ep)) := fun ww h => by
      have e1 : rxS rx E I 2 E = { rx E with st := setF (rx E).st I 2 } := updR_same _ _ _
      have := h.setE E hE I (by rw [e1]; exact hI) ep hep
      rw [e1] at this
      exact this
    rw [he, hi, Int.toNat_natCast, Int.toNat_natCast]
    clear CT hR1 h hb hc hc2 hth hep
    obtain ⟨xe, xc, xi⟩ := x
    simp only at he hi
    subst he hi
    unfold encS at *
    simp only at *
    generalize (rx E).st I = v at *
    generalize (rx E).ep I = v2 at *
    generalize (rx E).K = K at *
    generalize (rx E).sb = sb at *
    generalize (rx E).eb = eb at *
    have g1 : (E : Int) < n := by omega
    have g2 : (0 : Int) ≤ E := by omega
    have g3 : (I : Int) < K := by omega
    have g4 : (0 : Int) ≤ I := by omega
    go_enter Tryd.func31, Tryd.ntmps31
    go_upto_region 3 with (go_at_call 46; ((with_reducible refine HCT.out.mono ?_); rintro e ww ⟨rfl, hb⟩; have HB2 := Lib.hid (HB.out.trans (hb.mono HB.out.size)); have HR2 := Lib.hid (HR.out.calm (Turned.of_below hb)); have HRs2 := Lib.hid (HRs.out.turned (Turned.of_below hb) (by simp)); clear hb))
    obtain ⟨k1, k2, k3, k4⟩ := HC.out _ HR2.out
    obtain ⟨d1, d2, d3, d4⟩ := HC.out _ (HR2.out.calm (Turned.refl [] ww).drew)
    have r0 := HRs2.out.c0
    have r2 := HRs2.out.c2
    simp only at r0 r2
    have HR3 := Lib.hid (HS1.out _ (HR2.out.calm (Turned.refl [] ww).drew))
    have HT3 : Hid (Turned [sb] w (ww.drew.setCell ⟨sb, I, none⟩ (.int .i64 2))) := (((Turned.of_below HB2.out).trans (Turned.refl [] ww).drew).nil_mono (T := [sb])).setCell (.inl (by simp)) _
    have HRs3 := Lib.hid ((HRs2.out.turned (Turned.refl [] ww).drew (by simp)).turned ((Turned.refl [sb] ww.drew).setCell (p := ⟨sb, I, none⟩) (.inl (by simp)) (.int .i64 2)) (by have := HBox.out; simp; omega))
    clear HCT HB HR HRs
    go_still_tail 12, (by kernel_rfl)
    change wpList _ _ _ _ _ ww.drew
    generalize ww.drew = w2 at *
    go_upto_region 4 with fail
    clear k1 k2 k3 k4 d1 d2 d3 d4 r0 r2 HR2 HRs2
    generalize w2.setCell ⟨sb, I, none⟩ (.int .i64 2) = w3 at *
    obtain ⟨k1, k2, k3, k4⟩ := HC2.out _ HR3.out
    obtain ⟨d1, d2, d3, d4⟩ := HC2.out _ (HR3.out.calm (Turned.refl [] w3).drew)
    have r0 := HRs3.out.c0
    have r2 := HRs3.out.c2
    simp only at r0 r2
    have HR4 := Lib.hid (HS2.out _ (HR3.out.calm (Turned.refl [] w3).drew))
    have HT4 : Hid (Turned [sb, eb] w (w3.drew.setCell ⟨eb, I, none⟩ (.int .u64 ep))) := ((HT3.out.trans ((Turned.refl [] w3).drew.nil_mono)).mono (T := [sb, eb]) (fun _ _ hi => by simp at hi; simp [hi])).setCell (.inl (by simp)) _
    go_still_tail 13, (by kernel_rfl)
    change wpList _ _ _ _ _ w3.drew
    generalize w3.drew = w4 at *
    go_wp2
    go_ret
    exact ⟨rfl, HR4.out, [sb, eb], HT4.out, fun b hb => by
      have := HRb.out
      simp at hb
      rcases hb with rfl | rfl
      · exact this.1
      · exact this.2⟩
  · simp only [if_neg hb]
    have hnb : ((stateR n rx x) == 1) = false := by rw [beq_eq_false_iff_ne]; exact hb
    generalize stateR n rx x = sr at *
    clear CT hR1 h hb
    obtain ⟨xe, xc, xi⟩ := x
    unfold encS at *
    simp only at *
    go_enter Tryd.func31, Tryd.ntmps31
    go_wp2_with (go_at_call 46; ((with_reducible refine HCT.out.mono ?_); rintro e ww ⟨rfl, hb⟩; have HB2 := Lib.hid (HB.out.trans (hb.mono HB.out.size)); clear hb))
    go_ret
    exact ⟨rfl, hR0.out.calm (Turned.of_below HB2.out), OwnR.of_below HB2.out⟩

theorem OwnR.trans' {w w2 w3 : World} (h : OwnR br bL n rx w w2) (t : Turned [] w2 w3) : OwnR br bL n rx w w3 := by
  obtain ⟨S, h1, h2⟩ := h
  exact ⟨S, h1.trans t.nil_mono, h2⟩

set_option maxRecDepth 100000 in
set_option maxHeartbeats 4000000 in
theorem rtake1 (i k : Nat) (hi : i < n) (hk : k < (rx i).K) (w : World) (h : RefAt w br bL n cap pg rx) :
    Calls Tryd.prog 44 #[.pointer (some ⟨br, 0, none⟩), .int .i64 i, .int .i64 k] w fun e w' => e = .returned (encS ⟨i, (rx i).cls, k⟩) ∧ RefAt w' br bL n cap pg (rxS rx i k 1) ∧ OwnR br bL n rx w w' := by
  have t0 : Turned [] w (w.alloc (.cells #[.int .i64 0, .int .i64 0, .int .i64 0] 24)) := (Turned.refl [] w).alloc _
  have hR1 := h.calm t0
  have hz := res_new w zeroS
  simp only [zeroS] at hz
  have hfew := h.few
  have hlt := h.lt (.inl rfl)
  have hnum := h.num i hi
  have hRb : RBlk br bL n rx (rx i).sb := .inr (.inr ⟨i, hi, by omega, .inl rfl⟩)
  have hlts := h.lt hRb
  have k1 := hR1.ext1 (by omega)
  have k2 := hR1.c1 i hi
  rw [svOf_pos (by omega)] at k2
  have k3 := hR1.s i hi k hk
  have k4 : (w.alloc (.cells #[.int .i64 0, .int .i64 0, .int .i64 0] 24)).frozen? ⟨(rx i).sb, k, none⟩ = false := by
    rcases hR1.cells i hi with h0 | ⟨a, _⟩
    · omega
    · exact a.frozen k
  have HR2 := Lib.hid (hR1.setS i hi k hk 1 (by omega))
  have hts : Turned [(rx i).sb] (w.alloc (.cells #[.int .i64 0, .int .i64 0, .int .i64 0] 24)) ((w.alloc (.cells #[.int .i64 0, .int .i64 0, .int .i64 0] 24)).setCell ⟨(rx i).sb, k, none⟩ (.int .i64 1)) := (Turned.refl [(rx i).sb] _).setCell (.inl (by simp)) _
  have HT2 := Lib.hid (t0.nil_mono.trans hts)
  have HZ2 := Lib.hid (hz.turned hts (by simp; omega))
  have HRb := Lib.hid hRb
  have HLt := Lib.hid (And.intro hlts hlt)
  have HLr : Hid (∀ b, RBlk br bL n (rxS rx i k 1) b → b ≠ w.heap.size) := by
    intro b hb
    have hb' : RBlk br bL n rx b := by
      rcases hb with rfl | hb | ⟨j, hj, hK, e⟩
      · exact .inl rfl
      · exact .inr (.inl hb)
      · refine .inr (.inr ⟨j, hj, ?_⟩)
        unfold rxS at hK e
        by_cases hji : j = i
        · subst hji; rw [updR_same] at hK e; exact ⟨hK, e⟩
        · rw [updR_ne hji] at hK e; exact ⟨hK, e⟩
    have := h.lt hb'
    omega
  have e1 : rxS rx i k 1 i = { rx i with st := setF (rx i).st k 1 } := updR_same _ _ _
  have hcls : (rxS rx i k 1 i).cls = (rx i).cls := by rw [e1]
  have HCl := Lib.hid hcls
  have hg1 : (i : Int) < n := by omega
  have hg2 : (k : Int) < (rx i).K := by omega
  have hK64 : (rx i).K ≤ 64 := by
    have := hnum.2.1
    have := slotsC_le (rx i).cls
    omega
  clear hR1 hz t0 hts hRb hlts e1 hnum h
  generalize hsb : (rx i).sb = sb at *
  generalize hKK : (rx i).K = K at *
  generalize hcc : (rx i).cls = c at *
  clear hsb hKK hcc hcls
  go_enter Tryd.func44, Tryd.ntmps44
  go_upto_region 2 with fail
  clear k1 k2 k3 k4
  generalize (w.alloc (.cells #[.int .i64 0, .int .i64 0, .int .i64 0] 24)).setCell ⟨sb, k, none⟩ (.int .i64 1) = w2 at *
  obtain ⟨B, hBe⟩ : ∃ B, w.heap.size = B := ⟨_, rfl⟩
  rw [hBe] at HZ2 HLr
  rw [hBe]
  have HBe := Lib.hid hBe
  clear hBe
  have k1 := HR2.out.ext1 (by omega)
  have k2 := HR2.out.c0 i hi
  rw [HCl.out] at k2
  have z0 := HZ2.out.c0
  have z1 := HZ2.out.c1
  have z2 := HZ2.out.c2
  have f0 := HZ2.out.f 0
  have f1 := HZ2.out.f 1
  have f2 := HZ2.out.f 2
  simp only at z0 z1 z2
  go_wp2
  obtain ⟨hr, ht⟩ := HZ2.out.set ⟨i, c, k⟩
  have g0 := hr.c0
  have g1 := hr.c1
  have g2 := hr.c2
  have hRf := HR2.out.turned ht (fun b hb => by have := HLr.out b hb; simpa using this)
  have hTf := turned_new HT2.out ht (by intro j hj; simp only [List.mem_singleton] at hj; have := HBe.out; omega)
  simp only at g0 g1 g2 hRf hTf
  refine bodyPost_ret (v := encS ⟨i, c, k⟩) (by simp [results, Tryd.results44, go_sem, g0, g1, g2, encS]) rfl ⟨rfl, hRf, [sb], hTf, fun b hb => by simp only [List.mem_singleton] at hb; subst hb; exact HRb.out⟩
end Go.Proofs.YtaikapgpkkpdjaaDoor.L
