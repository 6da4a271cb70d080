/- Slots: the document's: what comes due, the walk. -/
import Derived.Test.YtaikapgpkkpdjaaDoorTQ
namespace Go.Proofs.YtaikapgpkkpdjaaDoor.L
open Go.ChangeShapes Go.WideShapes Go.ChangeAt Go.RowKit Go.Maps Go.Proofs.YtaikapgpkkpdjaaDoor.G Go.Sort Go.Shelf Go.Lib Go.Deep
set_option linter.unusedVariables false
set_option linter.unusedSimpArgs false

variable {w w' : World} {br bL n cap : Nat} {pg : Int} {rx : Nat → RX}
/-- what is read of an extent that is not yet due -/
structure DueRd (wr : World) (br bL n cap : Nat) (sb eb K i k : Nat) (c st : Int) (ep : Nat) : Prop where
  x : wr.cell? ⟨br, 1, none⟩ = some (.slice (some ⟨bL, 0, none⟩) n cap)
  c0 : wr.cell? ⟨bL, i * 3, none⟩ = some (.int .i64 c)
  c1 : wr.cell? ⟨bL, i * 3 + 1, none⟩ = some (.slice (some ⟨sb, 0, none⟩) K K)
  c2 : wr.cell? ⟨bL, i * 3 + 2, none⟩ = some (.slice (some ⟨eb, 0, none⟩) K K)
  s : wr.cell? ⟨sb, k, none⟩ = some (.int .i64 st)
  f : wr.frozen? ⟨sb, k, none⟩ = false
  p : wr.cell? ⟨eb, k, none⟩ = some (.int .u64 ep)
theorem dueS_st (r : RX) (ep k : Nat) : (dueS r ep k).st k = r.st k := by unfold dueS; simp only; rw [if_neg (by omega)]
theorem RefAt.dueRd {wr : World} {i k ep : Nat} (h : RefAt wr br bL n cap pg (dueIR rx ep i k)) (hi : i < n) (hk : k < (rx i).K) :
    DueRd wr br bL n cap (rx i).sb (rx i).eb (rx i).K i k (rx i).cls ((rx i).st k) ((rx i).ep k) := by
  have hK : (dueIR rx ep i k i).K = (rx i).K := by rw [dueIR_at]; rfl
  have c0 := h.c0 i hi
  have c1 := h.c1 i hi
  have c2 := h.c2 i hi
  have s := h.s i hi k (by rw [hK]; exact hk)
  have p := h.p i hi k (by rw [hK]; exact hk)
  have f : wr.frozen? ⟨(rx i).sb, k, none⟩ = false := by
    rcases h.cells i hi with h0 | ⟨a, _⟩
    · rw [hK] at h0; omega
    · rw [dueIR_at] at a; exact a.frozen k
  rw [dueIR_at] at c0 c1 c2 s p
  rw [dueS_st] at s
  rw [svOf_pos (by show (rx i).K ≠ 0; omega)] at c1 c2
  exact ⟨h.ext1 (by omega), c0, c1, c2, s, f, p⟩

set_option maxRecDepth 100000 in
set_option maxHeartbeats 8000000 in
theorem rdue (ep : Nat) (hep : ep < 2 ^ 64) (w : World) (h : RefAt w br bL n cap pg rx) :
    Calls Tryd.prog 30 #[.pointer (some ⟨br, 0, none⟩), .int .u64 ep] w (rduePost br bL n cap pg rx ep w) := by
  have H0 : Hid (DueIn w w br bL n cap pg rx (dueRx rx ep 0) (.slice none 0 0) (dueOut rx ep 0)) := by
    have e : dueRx rx ep 0 = rx := by funext j; exact dueRx_ge rx ep (Nat.zero_le j)
    rw [e]
    exact ⟨h, ⟨by simp [dueOut, flat], .inl ⟨rfl, rfl⟩⟩, ⟨[], Turned.refl _ _, by simp⟩, Nat.le_refl _⟩
  have HLen := Lib.hid (dueOut_len h ep)
  have hfew := h.few
  have HN := Lib.hid h.num
  have HLtB : Hid (∀ b, RBlk br bL n rx b → b < w.heap.size) := fun b hb => h.lt hb
  obtain ⟨i0, hi24, hz0, hz1, hz2⟩ := info_parts3 info24
  unfold rduePost
  clear h
  go_enter Tryd.func30, Tryd.ntmps30
  go_upto_block 3 with fail
  go_loopw [5, 6] (fun v y wr => ∃ i : Nat, i ≤ n ∧ y = .int .i64 i ∧ Hid (DueIn w wr br bL n cap pg rx (dueRx rx ep i) v (dueOut rx ep i))) (fun _ y _ => n - (intOf y).toNat)
  case atStart => exact ⟨0, Nat.zero_le _, rfl, H0.out⟩
  case round =>
    obtain ⟨i, hi, rfl, hA⟩ := hrel
    by_cases hin : i < n
    · have hx := hA.out.ref.ext1 (by omega)
      go_upto_block 7 with fail
      have HA1 := Lib.hid (hA.out.start)
      clear hA hx
      go_loopw [5, 7, 8] (fun v so y wr => ∃ k : Nat, k ≤ (rx i).K ∧ so = .bool (someS (rx i) ep k) ∧ y = .int .i64 k ∧ Hid (DueIn w wr br bL n cap pg rx (dueIR rx ep i k) v (dueOut rx ep i ++ outS (rx i) ep i k))) (fun _ _ y _ => (rx i).K - (intOf y).toNat)
      case atStart => exact ⟨0, Nat.zero_le _, rfl, rfl, HA1.out⟩
      case round =>
        obtain ⟨k, hk, rfl, rfl, hA⟩ := hrel
        have hK64 := (HN.out i hin).k64
        by_cases hkK : k < (rx i).K
        · have hstn := (HN.out i hin).2.2.1 k hkK
          have hdd : dueB (rx i) ep k = (decide ((rx i).st k = 2) && decide ((rx i).ep k ≤ ep)) := rfl
          have hsome := someS_succ (rx i) ep k
          obtain ⟨B, hB⟩ : ∃ B, someS (rx i) ep k = B := ⟨_, rfl⟩
          rw [hB] at hsome
          rw [hB]
          have hown := hA.out.ref.own i hin (by rw [dueIR_at]; show (rx i).K ≠ 0; omega)
          rw [dueIR_at] at hown
          have hn1 : (rx i).sb ≠ br := hown.1.1
          have hn2 : (rx i).sb ≠ bL := hown.1.2
          have HD := Lib.hid (hA.out.ref.dueRd hin hkK)
          have hg1 : (k : Int) < (rx i).K := by omega
          obtain ⟨d1, d2, d3, d4, d5, d6, d7⟩ := HD.out
          have HA2 := Lib.hid hA.out
          have Hkk := Lib.hid hkK
          by_cases hdue : dueB (rx i) ep k = true
          · have hst2 : (rx i).st k = 2 ∧ (rx i).ep k ≤ ep := by rw [hdd] at hdue; simpa using hdue
            have HY := Lib.hid (fun w4 v' o => hA.out.yes (v' := v') (w4 := w4) HLtB.out hin hkK hdue o)
            have hl1 := HLen.out i (by omega)
            have hl2 := outS_len (rx i) ep i k
            have hslen : (dueOut rx ep i ++ outS (rx i) ep i k).length ≤ 2112 := by rw [List.length_append]; omega
            have HSl := Lib.hid hslen
            have hsome2 : someS (rx i) ep (k + 1) = B := by rw [hsome, hdue]; simp
            have HSm := Lib.hid hsome2
            rw [hst2.1] at d5
            have hle := hst2.2
            have hle2 : ((rx i).ep k : Int) ≤ (ep : Int) := by omega
            have HF : Hid (∀ ww, Turned [(rx i).sb] wr ww → ww.cell? ⟨br, 1, none⟩ = some (.slice (some ⟨bL, 0, none⟩) n cap) ∧ ww.cell? ⟨bL, i * 3, none⟩ = some (.int .i64 (rx i).cls)) := fun ww t => ⟨t.cell d1 (by simp; omega), t.cell d2 (by simp; omega)⟩
            have HG : Hid (∀ ww v xs, DueIn w ww br bL n cap pg rx (dueIR rx ep i (k + 1)) v xs → ww.cell? ⟨br, 1, none⟩ = some (.slice (some ⟨bL, 0, none⟩) n cap) ∧ ww.cell? ⟨bL, i * 3 + 1, none⟩ = some (.slice (some ⟨(rx i).sb, 0, none⟩) (rx i).K (rx i).K) ∧ ww.cell? ⟨(rx i).sb, k, none⟩ = some (.int .i64 0)) := fun ww v xs hh => by
              have e := dueIR_at rx ep i (k + 1)
              have q1 := hh.ref.c1 i hin
              have q2 := hh.ref.s i hin k (by rw [e]; exact Hkk.out)
              rw [e] at q1 q2
              have q3 : (dueS (rx i) ep (k + 1)).st k = 0 := if_pos ⟨by omega, hdue⟩
              rw [q3] at q2
              rw [svOf_pos (by show (rx i).K ≠ 0; omega)] at q1
              exact ⟨hh.ref.ext1 (by omega), q1, q2⟩
            have HOw := Lib.hid (fun ww S (t : Turned S wr ww) hs => owns_turned hA.out.own t hs)
            have hlb := HLtB.out (rx i).sb (.inr (.inr ⟨i, hin, by omega, .inl rfl⟩))
            have hsiz := hA.out.siz
            obtain ⟨K, hKe⟩ : ∃ K, (rx i).K = K := ⟨_, rfl⟩
            have HKe := Lib.hid hKe
            rw [hKe] at d3 d4 hg1 hK64 HG
            generalize (rx i).ep k = epk at *
            generalize (rx i).cls = cls at *
            generalize (rx i).sb = sb at *
            generalize (rx i).eb = eb at *
            clear hA hsome hsome2 hown hdd hdue hst2 hl1 hl2 hslen hB hKe HD HA2 hstn hkK hk
            go_upto_region 11 with fail
            have t1 : Turned [sb] wr (wr.setCell ⟨sb, k, none⟩ (.int .i64 0)) := (Turned.refl [sb] wr).setCell (.inl (by simp)) _
            obtain ⟨f1, f2⟩ := HF.out _ t1
            have hso := HOw.out _ _ t1 (by simp; omega)
            have hz2s : w.heap.size ≤ (wr.setCell ⟨sb, k, none⟩ (.int .i64 0)).heap.size := Nat.le_trans hsiz t1.size
            clear t1 HF HOw d1 d2 d3 d4 d5 d6 d7
            generalize wr.setCell ⟨sb, k, none⟩ (.int .i64 0) = w2 at *
            have HOw : Hid ((w2.alloc (.cells #[.int .i64 i, .int .i64 cls, .int .i64 k] 24)).ownsRow w.heap.size 24 3 u5 (dueOut rx ep i ++ outS (rx i) ep i k).length (flat (dueOut rx ep i ++ outS (rx i) ep i k))) :=
              owns_turned hso ((Turned.refl [] w2).alloc _) (by simp)
            clear hso
            go_upto_region 12 with (first
              | (at_builtin; refine wpList_append_own _ rfl _ _ 47 rfl w.heap.size 24 i0 (.agg #[.int .i64 0, .int .i64 0, .int .i64 0]) 3 24 Tryd.underlying47 hi24 hz0 hz1 hz2 rfl (by decide) _ _ _ rfl HOw.out ⟨w2.heap.size, 0, none⟩ 1 1 (encL ⟨i, cls, k⟩) rfl rfl ?c1 ?c2 ?c3 ?c4 ?c5 ?_))
            case c1 => exact fun j u hu => cells_new w2 _ 24 j u hu
            case c2 => intro u hu; simp [encL] at hu; rcases hu with rfl | rfl | rfl <;> rfl
            case c3 => have := HSl.out; unfold maxLen; omega
            case c4 => have := HSl.out; omega
            case c5 => simp; omega
            intro v' w4 hown' hgrow hnil
            have HA5 := Lib.hid (HY.out w4 v' _ (by rw [List.length_append]; exact hown') hgrow)
            obtain ⟨g1, g2, g3⟩ := HG.out _ _ _ HA5.out
            clear hown' hgrow hnil HY HG
            cases B
            · go_wp2
              go_roundw
              case rel => exact ⟨k + 1, by have := HKe.out; have := Hkk.out; omega, by rw [HSm.out], by go_num, HA5.out⟩
              case measure => have := HKe.out; have := Hkk.out; simp [intOf]; omega
            · go_wp2
              go_roundw
              case rel => exact ⟨k + 1, by have := HKe.out; have := Hkk.out; omega, by rw [HSm.out], by go_num, HA5.out⟩
              case measure => have := HKe.out; have := Hkk.out; simp [intOf]; omega
          · have hdf : dueB (rx i) ep k = false := by simpa using hdue
            have hsv : (rx i).st k = 0 ∨ (rx i).st k = 1 ∨ ((rx i).st k = 2 ∧ ep < (rx i).ep k) := by
              rw [hdd] at hdf
              by_cases h2 : (rx i).st k = 2
              · rw [h2] at hdf; simp at hdf; exact .inr (.inr ⟨h2, hdf⟩)
              · omega
            have hsm : someS (rx i) ep (k + 1) = (B || decide ((rx i).st k ≠ 0)) := by rw [hsome, hdf]; simp
            have HA5 := Lib.hid (hA.out.no hdf)
            obtain ⟨K, hKe⟩ : ∃ K, (rx i).K = K := ⟨_, rfl⟩
            have HKe := Lib.hid hKe
            rw [hKe] at d3 d4 hg1 hK64
            generalize (rx i).ep k = epk at *
            generalize (rx i).cls = cls at *
            generalize (rx i).sb = sb at *
            generalize (rx i).eb = eb at *
            generalize (rx i).st k = sv at *
            clear hA hsome hown hdd hdue hB hKe HD HA2 hstn hkK hk hdf
            rcases hsv with rfl | rfl | ⟨rfl, hlt⟩
            · have hsm2 : someS (rx i) ep (k + 1) = B := by rw [hsm]; simp
              have HSm := Lib.hid hsm2
              clear hsm hsm2
              cases B
              · go_wp2
                go_roundw
                case rel => exact ⟨k + 1, by have := HKe.out; have := Hkk.out; omega, by rw [HSm.out], by go_num, HA5.out⟩
                case measure => have := HKe.out; have := Hkk.out; simp [intOf]; omega
              · go_wp2
                go_roundw
                case rel => exact ⟨k + 1, by have := HKe.out; have := Hkk.out; omega, by rw [HSm.out], by go_num, HA5.out⟩
                case measure => have := HKe.out; have := Hkk.out; simp [intOf]; omega
            · have hsm2 : someS (rx i) ep (k + 1) = true := by rw [hsm]; simp
              have HSm := Lib.hid hsm2
              clear hsm hsm2
              cases B
              · go_wp2
                go_roundw
                case rel => exact ⟨k + 1, by have := HKe.out; have := Hkk.out; omega, by rw [HSm.out], by go_num, HA5.out⟩
                case measure => have := HKe.out; have := Hkk.out; simp [intOf]; omega
              · go_wp2
                go_roundw
                case rel => exact ⟨k + 1, by have := HKe.out; have := Hkk.out; omega, by rw [HSm.out], by go_num, HA5.out⟩
                case measure => have := HKe.out; have := Hkk.out; simp [intOf]; omega
            · have hsm2 : someS (rx i) ep (k + 1) = true := by rw [hsm]; simp
              have HSm := Lib.hid hsm2
              have hl1 : ¬ epk ≤ ep := by omega
              have hl2 : ¬ ((epk : Int) ≤ (ep : Int)) := by omega
              clear hsm hsm2
              cases B
              · go_wp2
                go_roundw
                case rel => exact ⟨k + 1, by have := HKe.out; have := Hkk.out; omega, by rw [HSm.out], by go_num, HA5.out⟩
                case measure => have := HKe.out; have := Hkk.out; simp [intOf]; omega
              · go_wp2
                go_roundw
                case rel => exact ⟨k + 1, by have := HKe.out; have := Hkk.out; omega, by rw [HSm.out], by go_num, HA5.out⟩
                case measure => have := HKe.out; have := Hkk.out; simp [intOf]; omega
        · have hke : k = (rx i).K := by omega
          have HA3 : Hid (DueIn w wr br bL n cap pg rx (dueIR rx ep i (rx i).K) u5 (dueOut rx ep i ++ outS (rx i) ep i (rx i).K)) := by have := hA.out; rw [hke] at this; exact this
          have hx := hA.out.ref.ext1 (by omega)
          have hc0 := hA.out.ref.c0 i hin
          have hc1 := hA.out.ref.c1 i hin
          have hc2 := hA.out.ref.c2 i hin
          rw [dueIR_at] at hc0 hc1 hc2
          have hfz := fun j => (hA.out.ref.row (by omega)).frozen j
          have hf0 := hfz (i * 3)
          have hf1 := hfz (i * 3 + 1)
          have hf2 := hfz (i * 3 + 2)
          have hlen : ∃ K : Nat, (∃ a, svOf (rx i).sb (rx i).K = .slice a K K) ∧ K = (rx i).K := by
            by_cases h0 : (rx i).K = 0
            · exact ⟨0, ⟨none, by rw [h0]; rfl⟩, h0.symm⟩
            · exact ⟨_, ⟨_, svOf_pos h0⟩, rfl⟩
          obtain ⟨K, ⟨a, ha⟩, hKe⟩ := hlen
          have hlen2 : ∃ K2 : Nat, ∃ a, svOf (rx i).eb (rx i).K = .slice a K2 K2 := by
            by_cases h0 : (rx i).K = 0
            · exact ⟨0, none, by rw [h0]; rfl⟩
            · exact ⟨_, _, svOf_pos h0⟩
          obtain ⟨K2, a2, ha2⟩ := hlen2
          change wr.cell? ⟨bL, i * 3 + 1, none⟩ = some (svOf (rx i).sb (rx i).K) at hc1
          change wr.cell? ⟨bL, i * 3 + 2, none⟩ = some (svOf (rx i).eb (rx i).K) at hc2
          change wr.cell? ⟨bL, i * 3, none⟩ = some (.int .i64 (rx i).cls) at hc0
          rw [ha] at hc1
          rw [ha2] at hc2
          have hkK2 : ¬ k < K := by omega
          have hBk : someS (rx i) ep k = someS (rx i) ep (rx i).K := by rw [← hke]
          rw [hBk]
          cases hB : someS (rx i) ep (rx i).K
          · have HS : Hid (DueIn w (((wr.setCell ⟨bL, i * 3, none⟩ (.int .i64 (-1))).setCell ⟨bL, i * 3 + 1, none⟩ (.slice none 0 0)).setCell ⟨bL, i * 3 + 2, none⟩ (.slice none 0 0)) br bL n cap pg rx (dueRx rx ep (i + 1)) u5 (dueOut rx ep (i + 1))) := HA3.out.none_ HLtB.out hin hB
            generalize (rx i).cls = cls at *
            clear hA hke hKe hkK ha ha2 hBk hB hfz hK64 hk
            go_wp2
            go_roundw
            case rel => exact ⟨i + 1, by omega, by go_num, HS.out⟩
            case measure => simp [intOf]; omega
          · have HS := Lib.hid (HA3.out.some_ hB)
            generalize (rx i).cls = cls at *
            clear hA hke hKe hkK ha ha2 hBk hB hfz hK64 hk
            go_wp2
            go_roundw
            case rel => exact ⟨i + 1, by omega, by go_num, HS.out⟩
            case measure => simp [intOf]; omega
    · have hie : i = n := by omega
      subst hie
      have hx := hA.out.ref.exts
      generalize (if i = 0 then none else some (⟨bL, 0, none⟩ : Addr)) = A at hx
      have HA4 := Lib.hid hA.out
      clear hA hin hi
      go_wp2
      refine bodyPost_ret (v := u5) (by simp [results, Tryd.results30, go_sem]) rfl ⟨u5, rfl, HA4.out⟩
end Go.Proofs.YtaikapgpkkpdjaaDoor.L
