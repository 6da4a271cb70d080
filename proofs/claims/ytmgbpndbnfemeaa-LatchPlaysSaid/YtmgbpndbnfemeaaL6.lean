/- The reference's latches: made, held, free. -/
import Derived.Test.YtmgbpndbnfemeaaL5
import Derived.Deep.DeepCutAuto
import Derived.Laws.NewBlocks
namespace Go.Proofs.Ytmgbpndbnfemeaa.L
open Go.ChangeShapes Go.WideShapes Go.ChangeAt Go.RowKit Go.Maps Go.Proofs.Ytmgbpndbnfemeaa.G
set_option linter.unusedVariables false
set_option linter.unusedSimpArgs false

def rnewPost (n : Nat) (w : World) (e : Ending) (w' : World) : Prop := ∃ br bL, e = .returned (.pointer (some ⟨br, 0, none⟩)) ∧ RefAt w' br bL n (fun _ => -1) ∧ w.heap.size ≤ br ∧ w.heap.size ≤ bL ∧ Turned [] w w'

theorem rnew (pages : Int) (n : Nat) (hn : clamp pages = n) (w : World) : Calls Try.prog 8 #[.int .i64 pages] w (rnewPost n w) := by
  obtain ⟨i0, hi, hz0, hz1, hz2⟩ := info_parts info3
  have hn4 : n ≤ 4096 := by unfold clamp at hn; omega
  go_enter Try.func8, Try.ntmps8
  go_upto_region 1 with fail
  go_cut [3] (fun v wc => v = .int .i64 (n : Int) ∧ wc = w)
  case first =>
    have HN := Lib.hid hn
    clear hn
    go_wp2
    all_goals
      go_meet
      have := HN.out
      unfold clamp at this
      exact ⟨congrArg (Value.int .i64) (by omega), rfl⟩
  case rest =>
    obtain ⟨rfl, rfl⟩ := hcut
    have HN := Lib.hid hn
    clear hn
    have hmk := fun w => run_make_row' 23 3 (.int .i64 0) 8 Try.underlying23 info3 rfl .i64 .i64 n (by omega) (by omega) w
    have hrow := World.rowIs_made wc (.int .i64 0) n 3
    have hrow2 := hrow.alloc (.cells #[.slice (some ⟨wc.heap.size, 0, none⟩) n n] 47)
    have hb2 : ((wc.alloc (.cells (madeCells #[.int .i64 0] n) 3)).alloc (.cells #[.slice (some ⟨wc.heap.size, 0, none⟩) n n] 47)).cell? ⟨wc.heap.size + 1, 0, none⟩ = some (.slice (some ⟨wc.heap.size, 0, none⟩) n n) := by
      exact cell_new0 _ _ _ _ (by simp)
    have hT : Turned [] wc ((wc.alloc (.cells (madeCells #[.int .i64 0] n) 3)).alloc (.cells #[.slice (some ⟨wc.heap.size, 0, none⟩) n n] 47)) := ((Turned.refl _ _).alloc _).alloc _
    have H1 : Hid (RefAt ((wc.alloc (.cells (madeCells #[.int .i64 0] n) 3)).alloc (.cells #[.slice (some ⟨wc.heap.size, 0, none⟩) n n] 47)) (wc.heap.size + 1) wc.heap.size n (fun j => if j < 0 then -1 else 0)) :=
      ⟨hb2, hrow2.congr (fun i _ => by simp), by omega, hn4⟩
    have H3 := Lib.hid hT
    clear hrow hrow2 hb2 hT
    obtain ⟨B, hB⟩ : ∃ B, wc.heap.size = B := ⟨_, rfl⟩
    go_wp2
    rw [hB] at H1 H3
    try simp only [hB]
    have HB := Lib.hid hB
    clear hB hmk
    go_loopw [5] (fun i wr => ∃ k : Nat, k ≤ n ∧ i = .int .i64 k ∧ RefAt wr (B + 1) B n (fun j => if j < k then -1 else 0) ∧ Turned [] wc wr) (fun i _ => n - (intOf i).toNat)
    case atStart => exact ⟨0, Nat.zero_le _, rfl, H1.out, H3.out⟩
    case round =>
      obtain ⟨k, hk, rfl, hr, ht⟩ := hrel
      have hc := hr.row
      have HT := Lib.hid ht
      have HR := Lib.hid hr
      by_cases hlt : k < n
      · have hcell := hr.nums.cell hlt
        have hfr := hr.nums.frozen k
        have hset := hr.set k (-1)
        have HSet := Lib.hid hset
        simp only [Nat.lt_irrefl, if_false] at hcell
        clear hr ht hset
        go_wp2
        go_roundw
        case rel =>
          refine ⟨k + 1, by omega, by go_num, ⟨HSet.out.1.row, HSet.out.1.nums.congr (fun i _ => ?_), by omega, hn4⟩, HT.out.setCell (.inr (by rw [HB.out]; exact Nat.le_refl _)) _⟩
          congr 1
          by_cases e : i = k
          · subst e; simp
          · by_cases e2 : i < k
            · simp [e, e2, show i < k + 1 by omega]
            · simp [e, e2, show ¬ i < k + 1 by omega]
        case measure => simp [intOf]; omega
      · have hke : k = n := by omega
        subst hke
        clear hlt hr ht
        go_wp2
        go_ret
        exact ⟨B + 1, B, rfl, ⟨HR.out.row, HR.out.nums.congr (fun i hi => by simp [hi]), by omega, hn4⟩, by rw [HB.out]; omega, by rw [HB.out]; omega, HT.out⟩

/-- the pages that somebody holds, in order -/
def rheld (n : Nat) (L : Nat → Int) (who : Int) : List Int := if 0 ≤ who then ((List.range n).filter (fun i => decide (L i = who))).map (fun i : Nat => (i : Int)) else []
def rheldPost (n : Nat) (L : Nat → Int) (who : Int) (w : World) (e : Ending) (w' : World) : Prop := ∃ v, e = .returned v ∧ w'.ownsRow w.heap.size 3 1 v (rheld n L who).length ((rheld n L who).map iv) ∧ Below w.heap.size w w'

theorem rheld_snoc (k : Nat) (L : Nat → Int) (who : Int) (h : 0 ≤ who) : rheld (k + 1) L who = rheld k L who ++ if L k = who then [(k : Int)] else [] := by
  unfold rheld
  rw [if_pos h, if_pos h, List.range_succ, List.filter_append, List.map_append]
  congr 1
  by_cases e : L k = who <;> simp [List.filter_cons, e]
theorem rheld_neg (k : Nat) (L : Nat → Int) (who : Int) (h : ¬ 0 ≤ who) : rheld k L who = [] := if_neg h
theorem rheld_len (k : Nat) (L : Nat → Int) (who : Int) : (rheld k L who).length ≤ k := by
  unfold rheld
  split
  · rw [List.length_map]; exact Nat.le_trans (List.length_filter_le _ _) (by simp)
  · simp

set_option maxHeartbeats 1000000 in
theorem rheld_call (br bL n : Nat) (L : Nat → Int) (who : Int) (w : World) (h : RefAt w br bL n L) :
    Calls Try.prog 16 #[.pointer (some ⟨br, 0, none⟩), .int .i64 who] w (rheldPost n L who w) := by
  obtain ⟨i0, hi, hz0, hz1, hz2⟩ := info_parts info3
  have hsm := h.small
  have hbr := lt_of_cell h.row
  have hbL := h.nums.lt
  have HR := Lib.hid h
  clear h
  go_enter Try.func16, Try.ntmps16
  go_wp2
  go_loopw [5, 6] (fun v i wr => ∃ k : Nat, k ≤ n ∧ i = .int .i64 k ∧ wr.ownsRow w.heap.size 3 1 v (rheld k L who).length ((rheld k L who).map iv) ∧ Below w.heap.size w wr) (fun _ i _ => n - (intOf i).toNat)
  case atStart => exact ⟨0, Nat.zero_le _, rfl, by have : rheld 0 L who = [] := by (unfold rheld; split <;> rfl)
                                                   rw [this]; exact ⟨by simp, .inl ⟨rfl, by simp⟩⟩, Below.refl _ _⟩
  case round =>
    obtain ⟨k, hk, rfl, hown, hbw⟩ := hrel
    have HO := Lib.hid hown
    have HBW := Lib.hid hbw
    have hr := HR.out.turned (Turned.of_below hbw) (by simp) (by simp)
    have hc := hr.row
    have hsz := hbw.size
    have Hlen := Lib.hid (rheld_len k L who)
    clear hown hbw
    by_cases hlt : k < n
    · have hcell : wr.cell? ⟨bL, k, none⟩ = some (.int .i64 (L k)) := hr.nums.cell hlt
      by_cases hw : 0 ≤ who
      · have Hsn := Lib.hid (rheld_snoc k L who hw)
        by_cases he : L k = who
        · have Hs2 := Lib.hid (show rheld (k + 1) L who = rheld k L who ++ [(k : Int)] by rw [Hsn.out, if_pos he])
          rw [he] at hcell
          clear hr he Hsn
          go_wp2_with (first | (at_builtin; refine wpList_append_own _ rfl _ _ 23 rfl w.heap.size 3 i0 (.int .i64 0) 1 8 Try.underlying23 hi hz0 hz1 hz2 rfl (by decide) _ _ _ rfl (HO.out.alloc _) ⟨wr.heap.size, 0, none⟩ 1 1 [.int .i64 (k : Int)] rfl rfl ?c1 ?c2 ?c3 ?c4 ?c5 ?_))
          case c1 => exact fun j u hu => cell_new1 wr _ 3 j u hu
          case c2 => intro u hu; simp at hu; subst hu; rfl
          case c3 => have := Hlen.out; unfold maxLen; omega
          case c4 => have := Hlen.out; omega
          case c5 => simp; omega
          intro v' w1 hown' hgrow hnil
          have HO' := Lib.hid hown'
          have HG := Lib.hid hgrow
          clear hown' hgrow hnil
          go_wp2
          go_roundw
          case rel =>
            refine ⟨k + 1, by omega, by go_num, ?_, (HBW.out.alloc HBW.out.size _).grown HG.out (by simp; omega) (own_above HO.out)⟩
            rw [Hs2.out]
            simpa [iv] using HO'.out
          case measure => simp [intOf]; omega
        · have Hs2 := Lib.hid (show rheld (k + 1) L who = rheld k L who by rw [Hsn.out, if_neg he]; simp)
          have he' : (L k == who) = false := by simpa using he
          clear hr he Hsn
          generalize L k = x at *
          go_wp2
          go_roundw
          case rel => exact ⟨k + 1, by omega, by go_num, by rw [Hs2.out]; exact HO.out, HBW.out⟩
          case measure => simp [intOf]; omega
      · have Hs2 := Lib.hid (show rheld (k + 1) L who = rheld k L who by rw [rheld_neg _ _ _ hw, rheld_neg _ _ _ hw])
        clear hr
        go_wp2
        go_roundw
        case rel => exact ⟨k + 1, by omega, by go_num, by rw [Hs2.out]; exact HO.out, HBW.out⟩
        case measure => simp [intOf]; omega
    · have hke : k = n := by omega
      subst hke
      clear hlt hr
      go_wp2
      go_ret
      exact ⟨_, rfl, HO.out, HBW.out⟩

/-- is a page somebody else's -/
def rbusy (n : Nat) (L : Nat → Int) (who page : Int) : Bool := decide (0 ≤ rwho n L page) && (rwho n L page != who)

set_option maxHeartbeats 1000000 in
theorem rfree (br bL n : Nat) (L : Nat → Int) (wh : Int) (xs : List Int) (a : Option Addr) (len cap : Nat) (w : World) (h : RefAt w br bL n L) (hs : SlAt w a len (xs.map (Value.int .i64))) (hlen : len ≤ maxLen) :
    Calls Try.prog 18 #[.pointer (some ⟨br, 0, none⟩), .int .i64 wh, .slice a len cap] w fun e w' => e = .returned (.bool (!(xs.any (rbusy n L wh)))) ∧ w = w' := by
  have hl : xs.length = len := by have := hs.len; simpa using this
  unfold maxLen at hlen
  have HRf := Lib.hid h
  have HSl := Lib.hid hs
  have HL := Lib.hid hl
  clear h hs hl
  go_enter Try.func18, Try.ntmps18
  go_wp2
  go_loop [7] (fun i => ∃ k : Nat, k ≤ len ∧ i = .int .i64 k ∧ (xs.take k).any (rbusy n L wh) = false) (fun i => len - (intOf i).toNat)
  case atStart => exact ⟨0, Nat.zero_le _, rfl, rfl⟩
  case round =>
    obtain ⟨k, hk, rfl, hno⟩ := hrel
    have Hno := Lib.hid hno
    clear hno
    by_cases hlt : k < len
    · obtain ⟨b, off, ea, hc⟩ := HSl.out.cells (by omega)
      subst ea
      have hck := hc k hlt
      have hkx : k < xs.length := by rw [HL.out]; omega
      rw [List.getElem?_map, List.getElem?_eq_getElem hkx] at hck
      simp only [Option.map_some] at hck
      have hw := rwho_call br bL n L xs[k] w HRf.out
      have htk : Hid ((xs.take (k + 1)).any (rbusy n L wh) = ((xs.take k).any (rbusy n L wh) || rbusy n L wh xs[k])) := by
        apply Lib.hid
        rw [List.take_succ_eq_append_getElem hkx, List.any_append]; simp
      have Hany : Hid (rbusy n L wh xs[k] = true → xs.any (rbusy n L wh) = true) := fun h => List.any_eq_true.2 ⟨xs[k], List.getElem_mem hkx, h⟩
      clear hc
      have hpx : rbusy n L wh xs[k] = (decide (0 ≤ rwho n L xs[k]) && (rwho n L xs[k] != wh)) := rfl
      by_cases c1 : 0 ≤ rwho n L xs[k]
      · cases c2 : (rwho n L xs[k] != wh) with
        | true =>
          have HA := Lib.hid (Hany.out (by rw [hpx, c2, decide_eq_true c1]; rfl))
          clear hpx htk Hany
          generalize xs[k] = x at *
          generalize rwho n L x = y at *
          go_wp2_with (first | (go_at_call 14; ((with_reducible refine hw.mono ?_); rintro e ww ⟨rfl, rfl⟩)))
          go_ret
          exact ⟨by rw [HA.out]; rfl, rfl⟩
        | false =>
          have HA := Lib.hid (show (xs.take (k + 1)).any (rbusy n L wh) = false by rw [htk.out, Hno.out, hpx, c2, Bool.and_false]; rfl)
          clear hpx htk Hany
          generalize xs[k] = x at *
          generalize rwho n L x = y at *
          go_wp2_with (first | (go_at_call 14; ((with_reducible refine hw.mono ?_); rintro e ww ⟨rfl, rfl⟩)))
          go_round
          case rel => exact ⟨k + 1, by omega, by go_num, HA.out⟩
          case measure => simp [intOf]; omega
      · have HA := Lib.hid (show (xs.take (k + 1)).any (rbusy n L wh) = false by rw [htk.out, Hno.out, hpx, decide_eq_false c1]; rfl)
        clear hpx htk Hany
        generalize xs[k] = x at *
        generalize rwho n L x = y at *
        go_wp2_with (first | (go_at_call 14; ((with_reducible refine hw.mono ?_); rintro e ww ⟨rfl, rfl⟩)))
        go_round
        case rel => exact ⟨k + 1, by omega, by go_num, HA.out⟩
        case measure => simp [intOf]; omega
    · have hke : k = len := by omega
      subst hke
      clear hlt
      go_wp2
      go_ret
      refine ⟨?_, rfl⟩
      have := Hno.out
      rw [List.take_of_length_le (by rw [HL.out]; omega)] at this
      rw [this]; rfl

end Go.Proofs.Ytmgbpndbnfemeaa.L
