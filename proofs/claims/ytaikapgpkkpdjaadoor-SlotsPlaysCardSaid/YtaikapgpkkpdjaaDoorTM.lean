/- Slots: the document's: all slots of which so much became. -/
import Derived.Test.YtaikapgpkkpdjaaDoorTL
import Derived.Laws.AppendOwn
namespace Go.Proofs.YtaikapgpkkpdjaaDoor.L
open Go.ChangeShapes Go.WideShapes Go.ChangeAt Go.RowKit Go.Maps Go.Proofs.YtaikapgpkkpdjaaDoor.G Go.Sort Go.Shelf Go.Lib Go.Deep
set_option linter.unusedVariables false
set_option linter.unusedSimpArgs false

variable {w w' : World} {br bL n cap : Nat} {pg : Int} {rx : Nat → RX}
def rowR (rx : Nat → RX) (what : Int) (i kk : Nat) : List Slot := ((List.range kk).filter fun k => (rx i).st k == what).map fun (k : Nat) => ⟨i, (rx i).cls, k⟩
def allR (rx : Nat → RX) (what : Int) (ii : Nat) : List Slot := (List.range ii).flatMap fun i => rowR rx what i (rx i).K
theorem rowR_succ (rx : Nat → RX) (what : Int) (i kk : Nat) : rowR rx what i (kk + 1) = rowR rx what i kk ++ if (rx i).st kk = what then [⟨i, (rx i).cls, kk⟩] else [] := by
  unfold rowR
  rw [List.range_succ, List.filter_append, List.map_append]
  by_cases h : (rx i).st kk = what
  · rw [if_pos h, List.filter_cons_of_pos (by simpa using h)]; rfl
  · rw [if_neg h, List.filter_cons_of_neg (by simpa using h)]; rfl
theorem allR_succ (rx : Nat → RX) (what : Int) (ii : Nat) : allR rx what (ii + 1) = allR rx what ii ++ rowR rx what ii (rx ii).K := by
  unfold allR
  rw [List.range_succ, List.flatMap_append]
  simp
theorem rowR_len (rx : Nat → RX) (what : Int) (i kk : Nat) : (rowR rx what i kk).length ≤ kk := by
  unfold rowR
  rw [List.length_map]
  exact Nat.le_trans (List.length_filter_le _ _) (by simp)
theorem numRX.k64 {r : RX} (h : numRX r) : r.K ≤ 64 := by
  have := h.2.1
  have := slotsC_le r.cls
  omega
theorem allR_len (h : RefAt w br bL n cap pg rx) (what : Int) : ∀ ii, ii ≤ n → (allR rx what ii).length ≤ ii * 64
  | 0, _ => by simp [allR]
  | ii + 1, hi => by
    rw [allR_succ, List.length_append]
    have h1 := allR_len h what ii (by omega)
    have h2 := rowR_len rx what ii (rx ii).K
    have h3 := (h.num ii (by omega)).k64
    omega

def rallPost (what : Int) (n : Nat) (rx : Nat → RX) (w : World) (e : Ending) (w' : World) : Prop := ∃ v, e = .returned v ∧ w'.ownsRow w.heap.size 24 3 v (allR rx what n).length (flat (allR rx what n)) ∧ Below w.heap.size w w'
structure AllIn (w wr : World) (br bL n cap : Nat) (pg : Int) (rx : Nat → RX) (v : Value) (xs : List Slot) : Prop where
  ref : RefAt wr br bL n cap pg rx
  own : wr.ownsRow w.heap.size 24 3 v xs.length (flat xs)
  bel : Below w.heap.size w wr

set_option maxRecDepth 100000 in
set_option maxHeartbeats 4000000 in
theorem rall (what : Int) (hw : 0 ≤ what ∧ what ≤ 2) (w : World) (h : RefAt w br bL n cap pg rx) :
    Calls Tryd.prog 19 #[.pointer (some ⟨br, 0, none⟩), .int .i64 what] w (rallPost what n rx w) := by
  have H0 : Hid (AllIn w w br bL n cap pg rx (.slice none 0 0) (allR rx what 0)) := ⟨h, ⟨by simp [allR, flat], .inl ⟨rfl, rfl⟩⟩, Below.refl _ _⟩
  have HLen := Lib.hid (allR_len h what)
  have hfew := h.few
  have hx := h.exts
  have HN := Lib.hid h.num
  have HLtB : Hid (∀ b, RBlk br bL n rx b → b < w.heap.size) := fun b hb => h.lt hb
  obtain ⟨i0, hi24, hz0, hz1, hz2⟩ := info_parts3 info24
  unfold rallPost
  clear h hx
  go_enter Tryd.func19, Tryd.ntmps19
  go_upto_block 1 with fail
  go_loopw [5, 6] (fun v y wr => ∃ i : Nat, i ≤ n ∧ y = .int .i64 i ∧ Hid (AllIn w wr br bL n cap pg rx v (allR rx what i))) (fun _ y _ => n - (intOf y).toNat)
  case atStart => exact ⟨0, Nat.zero_le _, rfl, H0.out⟩
  case round =>
    obtain ⟨i, hi, rfl, hA⟩ := hrel
    by_cases hin : i < n
    · have hx := hA.out.ref.ext1 (by omega)
      go_upto_block 3 with fail
      have HA1 : Hid (AllIn w wr br bL n cap pg rx u5 (allR rx what i ++ rowR rx what i 0)) := by
        have e : rowR rx what i 0 = [] := rfl
        rw [e, List.append_nil]; exact hA.out
      clear hA hx
      go_loopw [5, 7] (fun v y wr => ∃ k : Nat, k ≤ (rx i).K ∧ y = .int .i64 k ∧ Hid (AllIn w wr br bL n cap pg rx v (allR rx what i ++ rowR rx what i k))) (fun _ y _ => (rx i).K - (intOf y).toNat)
      case atStart => exact ⟨0, Nat.zero_le _, rfl, HA1.out⟩
      case round =>
        obtain ⟨k, hk, rfl, hA⟩ := hrel
        have hx := hA.out.ref.ext1 (by omega)
        have hc1 := hA.out.ref.c1 i hin
        have hc0 := hA.out.ref.c0 i hin
        have hK64 := (HN.out i hin).k64
        by_cases hkK : k < (rx i).K
        · rw [svOf_pos (by omega)] at hc1
          have hs := hA.out.ref.s i hin k hkK
          have hrl := rowR_len rx what i k
          have hal := HLen.out i (by omega)
          have hsucc := rowR_succ rx what i k
          have hslen : (allR rx what i ++ rowR rx what i k).length ≤ 2112 := by rw [List.length_append]; omega
          have hg1 : (k : Int) < (rx i).K := by omega
          obtain ⟨K, hKe⟩ : ∃ K, (rx i).K = K := ⟨_, rfl⟩
          have HKe := Lib.hid hKe
          rw [hKe] at hc1 hg1 hK64
          generalize (rx i).sb = sb at *
          generalize hcls : (rx i).cls = cls at *
          generalize hst : (rx i).st k = sv at *
          clear hrl hal hKe hcls hst hkK hk
          by_cases hsw : sv = what
          · rw [if_pos hsw] at hsucc
            subst hsw
            have HSu := Lib.hid hsucc
            have HSl := Lib.hid hslen
            have HOw : Hid ((wr.alloc (.cells #[.int .i64 i, .int .i64 cls, .int .i64 k] 24)).ownsRow w.heap.size 24 3 u5 (allR rx sv i ++ rowR rx sv i k).length (flat (allR rx sv i ++ rowR rx sv i k))) :=
              owns_turned hA.out.own ((Turned.refl [] wr).alloc _) (by simp)
            have HB := Lib.hid hA.out.bel
            have HRf := Lib.hid hA.out.ref
            clear hA hsucc hslen
            go_wp2_with (first
              | (at_builtin; refine wpList_append_own _ rfl _ _ 47 rfl w.heap.size 24 i0 (.agg #[.int .i64 0, .int .i64 0, .int .i64 0]) 3 24 Tryd.underlying47 hi24 hz0 hz1 hz2 rfl (by decide) _ _ _ rfl HOw.out ⟨wr.heap.size, 0, none⟩ 1 1 (encL ⟨i, cls, k⟩) rfl rfl ?c1 ?c2 ?c3 ?c4 ?c5 ?_))
            case c1 => exact fun j u hu => cells_new wr _ 24 j u hu
            case c2 => intro u hu; simp [encL] at hu; rcases hu with rfl | rfl | rfl <;> rfl
            case c3 => have := HSl.out; unfold maxLen; omega
            case c4 => have := HSl.out; omega
            case c5 => have := HB.out.size; simp; omega
            intro v' w4 hown' hgrow hnil
            have HA4 : Hid (AllIn w w4 br bL n cap pg rx v' (allR rx sv i ++ rowR rx sv i (k + 1))) := by
              have hk' : ∀ k', u5.ownBlock = some k' → w.heap.size ≤ k' := own_above HOw.out
              have hb1 : Below w.heap.size w (wr.alloc (.cells #[.int .i64 i, .int .i64 cls, .int .i64 k] 24)) := HB.out.alloc HB.out.size _
              have tg : Turned u5.ownBlock.toList wr w4 := (((Turned.refl [] wr).alloc _).nil_mono).grown hgrow (fun k hk'' => .inl (by rw [hk'']; simp))
              refine ⟨HRf.out.turned tg (fun b hb hm => ?_), ?_, hb1.grown hgrow hb1.size (fun k' hk'' => hk' k' hk'')⟩
              · have h1 := HLtB.out b hb
                cases e' : u5.ownBlock with
                | none => rw [e'] at hm; simp at hm
                | some k' => rw [e'] at hm; simp at hm; have := hk' k' e'; omega
              · rw [HSu.out, ← List.append_assoc, flat_snoc, List.length_append, List.length_append]
                exact hown'
            clear hown' hgrow hnil
            go_wp2
            go_roundw
            case rel => exact ⟨k + 1, by have := HKe.out; omega, by go_num, HA4.out⟩
            case measure => have := HKe.out; simp [intOf]; omega
          · rw [if_neg hsw, List.append_nil] at hsucc
            have hsb : (sv == what) = false := by simpa using hsw
            have HA4 : Hid (AllIn w wr br bL n cap pg rx u5 (allR rx what i ++ rowR rx what i (k + 1))) := by rw [hsucc]; exact hA.out
            clear hA hsucc hsw hslen
            go_wp2
            go_roundw
            case rel => exact ⟨k + 1, by have := HKe.out; omega, by go_num, HA4.out⟩
            case measure => have := HKe.out; simp [intOf]; omega
        · have hke : k = (rx i).K := by omega
          have HA4 : Hid (AllIn w wr br bL n cap pg rx u5 (allR rx what (i + 1))) := by rw [allR_succ, ← hke]; exact hA.out
          have hlen : ∃ K : Nat, (∃ a, svOf (rx i).sb (rx i).K = .slice a K K) ∧ K = (rx i).K := by
            by_cases h0 : (rx i).K = 0
            · exact ⟨0, ⟨none, by rw [h0]; rfl⟩, h0.symm⟩
            · exact ⟨_, ⟨_, svOf_pos h0⟩, rfl⟩
          obtain ⟨K, ⟨a, ha⟩, hKe⟩ := hlen
          rw [ha] at hc1
          have hkK2 : ¬ k < K := by omega
          clear hA hke hKe hkK ha hK64 hk
          go_wp2
          go_roundw
          case rel => exact ⟨i + 1, by omega, by go_num, HA4.out⟩
          case measure => simp [intOf]; omega
    · have hie : i = n := by omega
      subst hie
      have hx := hA.out.ref.exts
      generalize (if i = 0 then none else some (⟨bL, 0, none⟩ : Addr)) = A at hx
      have HA4 := Lib.hid hA.out
      clear hA hin hi
      go_wp2
      refine bodyPost_ret (v := u5) (by simp [results, Tryd.results19, go_sem]) rfl ⟨u5, rfl, HA4.out.own, HA4.out.bel⟩
end Go.Proofs.YtaikapgpkkpdjaaDoor.L
