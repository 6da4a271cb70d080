/- Slots: the document's: what became of a slot; a slot is dropped. -/
import Derived.Test.YtaikapgpkkpdjaaDoorTJ
import Derived.StillTailTactics
namespace Go.Proofs.YtaikapgpkkpdjaaDoor.L
open Go.ChangeShapes Go.WideShapes Go.ChangeAt Go.RowKit Go.Maps Go.Proofs.YtaikapgpkkpdjaaDoor.G Go.Sort Go.Shelf Go.Lib Go.Deep
set_option linter.unusedVariables false
set_option linter.unusedSimpArgs false

def updR (rx : Nat → RX) (e : Nat) (r : RX) : Nat → RX := fun j => if j = e then r else rx j
theorem updR_same (rx : Nat → RX) (e : Nat) (r : RX) : updR rx e r e = r := if_pos rfl
theorem updR_ne {rx : Nat → RX} {e j : Nat} {r : RX} (h : j ≠ e) : updR rx e r j = rx j := if_neg h
def setF {α : Type} (f : Nat → α) (k : Nat) (v : α) : Nat → α := fun j => if j = k then v else f j
/-- .. with a slot's state set -/
def rxS (rx : Nat → RX) (e k : Nat) (v : Int) : Nat → RX := updR rx e { rx e with st := setF (rx e).st k v }
def rxE (rx : Nat → RX) (e k : Nat) (v : Nat) : Nat → RX := updR rx e { rx e with ep := setF (rx e).ep k v }

variable {w w' : World} {br bL n cap : Nat} {pg : Int} {rx : Nat → RX}
theorem rowRX.keptS {r : RX} (h : rowRX w r) {S : List Nat} (t : Turned S w w') (h1 : r.K ≠ 0 → r.sb ∉ S) (h2 : r.K ≠ 0 → r.eb ∉ S) : rowRX w' r := by
  rcases h with h | ⟨a, b⟩
  · exact .inl h
  · by_cases hk : r.K = 0
    · exact .inl hk
    · exact .inr ⟨a.of_block (t.block _ a.lt (h1 hk)), b.of_block (t.block _ b.lt (h2 hk))⟩
theorem RefAt.setS (h : RefAt w br bL n cap pg rx) (e : Nat) (he : e < n) (k : Nat) (hk : k < (rx e).K) (v : Int) (hv : 0 ≤ v ∧ v ≤ 2) : RefAt (w.setCell ⟨(rx e).sb, k, none⟩ (.int .i64 v)) br bL n cap pg (rxS rx e k v) := by
  have t : Turned [(rx e).sb] w (w.setCell ⟨(rx e).sb, k, none⟩ (.int .i64 v)) := (Turned.refl [(rx e).sb] w).setCell (.inl (by simp)) _
  have hK : (rx e).K ≠ 0 := by omega
  have ho := h.own e he hK
  have hc : ∀ j, (rxS rx e k v j).cls = (rx j).cls ∧ (rxS rx e k v j).K = (rx j).K ∧ (rxS rx e k v j).sb = (rx j).sb ∧ (rxS rx e k v j).eb = (rx j).eb := by
    intro j
    unfold rxS
    by_cases hj : j = e
    · subst hj; rw [updR_same]; exact ⟨rfl, rfl, rfl, rfl⟩
    · rw [updR_ne hj]; exact ⟨rfl, rfl, rfl, rfl⟩
  refine ⟨t.cell h.page (by simpa using ho.1.1.symm), t.cell h.exts (by simpa using ho.1.1.symm), fun h0 => ((h.row h0).of_block (t.block _ (h.row h0).lt (by simpa using ho.1.2.symm))).congr (fun j _ => ?_), fun i hi => ?_, fun i hi => ?_, fun i hi hk' => ?_, fun i j hi hj hij h1 h2 => ?_, h.nbr, h.few⟩
  · unfold cellRX
    rw [(hc (j / 3)).1, (hc (j / 3)).2.1, (hc (j / 3)).2.2.1, (hc (j / 3)).2.2.2]
  · by_cases hie : i = e
    · subst hie
      rcases h.cells i hi with h0 | ⟨a, b⟩
      · exact absurd h0 hK
      · have e1 : rxS rx i k v i = { rx i with st := setF (rx i).st k v } := updR_same _ _ _
        rw [e1]
        refine .inr ⟨(a.set k _).congr fun j hj => ?_, b.of_block (t.block _ b.lt (by simpa using ho.2.2.symm))⟩
        unfold setF
        by_cases hjk : j = k
        · simp [hjk]
        · simp [hjk]
    · have e1 : rxS rx e k v i = rx i := updR_ne hie
      rw [e1]
      exact (h.cells i hi).keptS t (fun hki => by have := (h.dis i e hi he hie hki hK).1; simpa using this) (fun hki => by have := (h.dis e i he hi (Ne.symm hie) hK hki).2.1; simpa using this.symm)
  · by_cases hie : i = e
    · subst hie
      have e1 : rxS rx i k v i = { rx i with st := setF (rx i).st k v } := updR_same _ _ _
      rw [e1]
      obtain ⟨n1, n2, n3, n4⟩ := h.num i hi
      refine ⟨n1, n2, fun j hj => ?_, n4⟩
      simp only [setF]
      split
      · exact hv
      · exact n3 j hj
    · have e1 : rxS rx e k v i = rx i := updR_ne hie
      rw [e1]; exact h.num i hi
  · rw [(hc i).2.1] at hk'
    rw [(hc i).2.2.1, (hc i).2.2.2]
    exact h.own i hi hk'
  · rw [(hc i).2.1] at h1
    rw [(hc j).2.1] at h2
    rw [(hc i).2.2.1, (hc i).2.2.2, (hc j).2.2.1, (hc j).2.2.2]
    exact h.dis i j hi hj hij h1 h2
theorem RefAt.setE (h : RefAt w br bL n cap pg rx) (e : Nat) (he : e < n) (k : Nat) (hk : k < (rx e).K) (v : Nat) (hv : v < 2 ^ 64) : RefAt (w.setCell ⟨(rx e).eb, k, none⟩ (.int .u64 v)) br bL n cap pg (rxE rx e k v) := by
  have t : Turned [(rx e).eb] w (w.setCell ⟨(rx e).eb, k, none⟩ (.int .u64 v)) := (Turned.refl [(rx e).eb] w).setCell (.inl (by simp)) _
  have hK : (rx e).K ≠ 0 := by omega
  have ho := h.own e he hK
  have hc : ∀ j, (rxE rx e k v j).cls = (rx j).cls ∧ (rxE rx e k v j).K = (rx j).K ∧ (rxE rx e k v j).sb = (rx j).sb ∧ (rxE rx e k v j).eb = (rx j).eb := by
    intro j
    unfold rxE
    by_cases hj : j = e
    · subst hj; rw [updR_same]; exact ⟨rfl, rfl, rfl, rfl⟩
    · rw [updR_ne hj]; exact ⟨rfl, rfl, rfl, rfl⟩
  refine ⟨t.cell h.page (by simpa using ho.2.1.1.symm), t.cell h.exts (by simpa using ho.2.1.1.symm), fun h0 => ((h.row h0).of_block (t.block _ (h.row h0).lt (by simpa using ho.2.1.2.symm))).congr (fun j _ => ?_), fun i hi => ?_, fun i hi => ?_, fun i hi hk' => ?_, fun i j hi hj hij h1 h2 => ?_, h.nbr, h.few⟩
  · unfold cellRX
    rw [(hc (j / 3)).1, (hc (j / 3)).2.1, (hc (j / 3)).2.2.1, (hc (j / 3)).2.2.2]
  · by_cases hie : i = e
    · subst hie
      rcases h.cells i hi with h0 | ⟨a, b⟩
      · exact absurd h0 hK
      · have e1 : rxE rx i k v i = { rx i with ep := setF (rx i).ep k v } := updR_same _ _ _
        rw [e1]
        refine .inr ⟨a.of_block (t.block _ a.lt (by simpa using ho.2.2)), (b.set k _).congr fun j hj => ?_⟩
        unfold setF
        by_cases hjk : j = k
        · simp [hjk]
        · simp [hjk]
    · have e1 : rxE rx e k v i = rx i := updR_ne hie
      rw [e1]
      exact (h.cells i hi).keptS t (fun hki => by have := (h.dis i e hi he hie hki hK).2.1; simpa using this) (fun hki => by have := (h.dis i e hi he hie hki hK).2.2; simpa using this)
  · by_cases hie : i = e
    · subst hie
      have e1 : rxE rx i k v i = { rx i with ep := setF (rx i).ep k v } := updR_same _ _ _
      rw [e1]
      obtain ⟨n1, n2, n3, n4⟩ := h.num i hi
      refine ⟨n1, n2, n3, fun j hj => ?_⟩
      simp only [setF]
      split
      · exact hv
      · exact n4 j hj
    · have e1 : rxE rx e k v i = rx i := updR_ne hie
      rw [e1]; exact h.num i hi
  · rw [(hc i).2.1] at hk'
    rw [(hc i).2.2.1, (hc i).2.2.2]
    exact h.own i hi hk'
  · rw [(hc i).2.1] at h1
    rw [(hc j).2.1] at h2
    rw [(hc i).2.2.1, (hc i).2.2.2, (hc j).2.2.1, (hc j).2.2.2]
    exact h.dis i j hi hj hij h1 h2

/-- what became of a slot -/
def stateR (n : Nat) (rx : Nat → RX) (x : Slot) : Int := if thereR n rx x then (rx x.e.toNat).st x.i.toNat else 0
set_option maxRecDepth 100000 in
set_option maxHeartbeats 4000000 in
theorem rstate (x : Slot) (hx : I64 x.e ∧ I64 x.c ∧ I64 x.i) (w : World) (h : RefAt w br bL n cap pg rx) :
    Calls Tryd.prog 46 #[.pointer (some ⟨br, 0, none⟩), encS x] w fun e w' => e = .returned (.int .i64 (stateR n rx x)) ∧ Below w.heap.size w w' := by
  have CT := rthere (br := br) (bL := bL) (n := n) (cap := cap) (pg := pg) (rx := rx) x hx
  have hR1 := h.calm ((Turned.refl [] w).alloc (.cells #[.int .i64 x.e, .int .i64 x.c, .int .i64 x.i] 24))
  have HRs := Lib.hid (res_new w x)
  have HB : Hid (Below w.heap.size w (w.alloc (.cells #[.int .i64 x.e, .int .i64 x.c, .int .i64 x.i] 24))) := (Below.refl _ w).alloc (Nat.le_refl _) _
  have HCT := Lib.hid (CT _ hR1)
  have HR := Lib.hid hR1
  have hthere := fun ht => h.there (x := x) ht
  cases hb : thereR n rx x
  · have e1 : stateR n rx x = 0 := by unfold stateR; rw [hb]; rfl
    rw [e1]
    rw [hb] at HCT
    clear CT hR1 hthere h e1 hb
    obtain ⟨xe, xc, xi⟩ := x
    unfold encS at *
    simp only at *
    go_enter Tryd.func46, Tryd.ntmps46
    go_wp2_with (go_at_call 33; ((with_reducible refine HCT.out.mono ?_); rintro e ww ⟨rfl, hb⟩; have HB2 := Lib.hid (HB.out.trans (hb.mono HB.out.size)); clear hb))
    go_ret
    exact ⟨rfl, HB2.out⟩
  · obtain ⟨E, I, he, hi, hE, hI, hcls, hK64⟩ := hthere hb
    have e1 : stateR n rx x = (rx E).st I := by unfold stateR; rw [hb, if_pos rfl, he, hi]; simp
    rw [e1]
    rw [hb] at HCT
    have hc : ∀ ww, RefAt ww br bL n cap pg rx → ww.cell? ⟨br, 1, none⟩ = some (.slice (some ⟨bL, 0, none⟩) n cap) ∧ ww.cell? ⟨bL, E * 3 + 1, none⟩ = some (.slice (some ⟨(rx E).sb, 0, none⟩) (rx E).K (rx E).K) ∧ ww.cell? ⟨(rx E).sb, I, none⟩ = some (.int .i64 ((rx E).st I)) := fun ww h => ⟨h.ext1 (by omega), by rw [h.c1 E hE, svOf_pos (by omega)], h.s E hE I hI⟩
    have HC := Lib.hid hc
    have hfew := h.few
    clear CT hR1 hthere h e1 hb hc
    obtain ⟨xe, xc, xi⟩ := x
    simp only at he hi
    subst he hi
    unfold encS at *
    simp only at *
    generalize (rx E).st I = v at *
    generalize (rx E).K = K at *
    generalize (rx E).sb = sb at *
    go_enter Tryd.func46, Tryd.ntmps46
    go_upto_region 3 with (go_at_call 33; ((with_reducible refine HCT.out.mono ?_); rintro e ww ⟨rfl, hb⟩; have HB2 := Lib.hid (HB.out.trans (hb.mono HB.out.size)); have HR2 := Lib.hid (HR.out.calm (Turned.of_below hb)); have HRs2 := Lib.hid (HRs.out.turned (Turned.of_below hb) (by simp)); clear hb))
    obtain ⟨k1, k2, k3⟩ := HC.out _ HR2.out
    have r0 := HRs2.out.c0
    have r2 := HRs2.out.c2
    simp only at r0 r2
    have g1 : (E : Int) < n := by omega
    have g2 : (0 : Int) ≤ E := by omega
    have g3 : (I : Int) < K := by omega
    have g4 : (0 : Int) ≤ I := by omega
    go_quiet (fail)
    go_wp2
    go_ret
    exact ⟨rfl, (Turned.drewN (Turned.of_below HB2.out) nq).below⟩
end Go.Proofs.YtaikapgpkkpdjaaDoor.L
