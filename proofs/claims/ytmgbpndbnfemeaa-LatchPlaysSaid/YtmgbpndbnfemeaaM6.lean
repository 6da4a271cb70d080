/- What each call answers: the walk of the law. -/
import Derived.Test.YtmgbpndbnfemeaaM5
namespace Go.Proofs.Ytmgbpndbnfemeaa.L
open Go.ChangeShapes Go.WideShapes Go.ChangeAt Go.RowKit Go.Maps Go.Proofs.Ytmgbpndbnfemeaa.G
set_option linter.unusedVariables false
set_option linter.unusedSimpArgs false

set_option maxRecDepth 100000 in
set_option maxHeartbeats 8000000 in
theorem plays_law (pages : Int) (a1 : Option Addr) (len1 cap1 : Nat) (acts : List (Bool × Int × Int)) (a2 : Option Addr) (len2 cap2 : Nat) (ask : List Int) (q : Int) (w : World)
    (h1 : ActsAt w a1 len1 acts) (h2 : SlAt w a2 len2 (ask.map (Value.int .i64))) (hx : ∀ x ∈ ask, I64 x) (hlen2 : len2 ≤ maxLen) :
    Calls Try.prog 3 #[.int .i64 pages, .slice a1 len1 cap1, .slice a2 len2 cap2, .int .i64 q] w fun e w' => e = .returned (.bool true) ∧ Below w.heap.size w w' := by
  obtain ⟨n, hn⟩ : ∃ n : Nat, clamp pages = n := ⟨(clamp pages).toNat, by unfold clamp; omega⟩
  have cN := new pages
  unfold newPost at cN
  rw [hn] at cN
  have CN := Lib.hid cN
  have cR := rnew pages n hn
  unfold rnewPost at cR
  have CR := Lib.hid cR
  have CW := Lib.hid works
  have HA := Lib.hid h1
  have HAsk := Lib.hid (And.intro h2 (And.intro hx hlen2))
  clear h1 h2 cN cR hx hlen2
  go_enter Try.func3, Try.ntmps3
  by_cases hbig : 200 < len1
  · go_wp2_with (go_at_call 6; ((with_reducible refine (CW.out _).mono ?_); rintro e ww ⟨rfl, hb⟩))
    go_ret
    exact ⟨rfl, hb⟩
  by_cases hbig2 : 100 < len2
  · go_wp2_with (go_at_call 6; ((with_reducible refine (CW.out _).mono ?_); rintro e ww ⟨rfl, hb⟩))
    go_ret
    exact ⟨rfl, hb⟩
  have HP := Lib.hid hn
  clear hn
  go_wp2_with (first
    | (go_at_call 7; ((with_reducible refine (CN.out _).mono ?_); rintro e w1 ⟨bl, bm, rfl, hL, h1, h2, hT⟩; have HL1 : Hid (LatchAt w1 bl bm n []) := hL; have HT1 := Lib.hid hT; have HB1 := Lib.hid (And.intro h1 h2); clear hL hT h1 h2))
    | (go_at_call 8; ((with_reducible refine (CR.out _).mono ?_); rintro e w2 ⟨br, bL, rfl, hR, h1, h2, hT⟩; have HR := Lib.hid hR; have HT2 := Lib.hid hT; have HB2 := Lib.hid (And.intro h1 h2); clear hR hT h1 h2)))
  have HI : Hid (Both w w2 bl bm br bL n [] (fun _ => -1)) := by
    have l1 := lt_of_cell HL1.out.pages
    have l2 := HL1.out.map.lt
    have s1 := HB2.out.1
    have s2 := HB2.out.2
    have s3 := HB1.out.2
    have s4 := HT1.out.size
    simp only at l1
    exact ⟨HL1.out.turned HT2.out (by simp) (by simp), HR.out, by omega, by omega, by omega, s3, by omega, Turned.below_of HT1.out.below HT2.out (by simp)⟩
  clear HL1 HT1 HB1 HR HT2 HB2 CN CR
  go_loopw [11] (fun i wr => ∃ (k : Nat) (l : Holds) (L : Nat → Int), k ≤ len1 ∧ i = .int .i64 k ∧ Both w wr bl bm br bL n l L ∧ SameN n l L) (fun i _ => len1 - (intOf i).toNat)
  case atStart => exact ⟨0, [], _, Nat.zero_le _, rfl, HI.out, sameN_nil n⟩
  case round =>
    obtain ⟨k, l, L, hk, rfl, hin, hs⟩ := hrel
    have HIn := Lib.hid hin
    have HS := Lib.hid hs
    clear hin hs HI
    by_cases hlt : k < len1
    · have hact := (HA.out.turned (Turned.of_below HIn.out.below) (fun _ _ => by simp))
      have hak : k < acts.length := by rw [hact.1]; exact hlt
      obtain ⟨b, off, rfl, hc⟩ := hact.2.2.resolve_left (by omega)
      obtain ⟨c0, c1, c2⟩ := hc k hak
      obtain ⟨p64, w64⟩ := hact.2.1 _ (List.getElem_mem hak)
      clear hc hact
      generalize acts[k] = act at *
      obtain ⟨dr, pg, wh⟩ := act
      simp only at c0 c1 c2 p64 w64
      have P64 := Lib.hid (And.intro p64 w64)
      clear p64 w64
      go_upto_if 43 with fail
      have HT : Hid (Turn w (wr.alloc (.cells #[.bool dr, .int .i64 pg, .int .i64 wh] 30)) bl bm br bL n l L wr.heap.size dr pg wh) := by
        have l2 := HIn.out.latch.map.lt
        have l3 := HIn.out.ref.nums.lt
        exact ⟨HIn.out.calm ((Turned.refl [] wr).alloc _), cells_new wr [.bool dr, .int .i64 pg, .int .i64 wh] 30 0 _ rfl, cells_new wr [.bool dr, .int .i64 pg, .int .i64 wh] 30 1 _ rfl, cells_new wr [.bool dr, .int .i64 pg, .int .i64 wh] 30 2 _ rfl, by omega, by omega⟩
      clear HIn c0 c1 c2
      generalize wr.alloc (.cells #[.bool dr, .int .i64 pg, .int .i64 wh] 30) = wq at *
      generalize wr.heap.size = bA at *
      clear wr
      go_cut [] (fun wc => ∃ l L, Turn w wc bl bm br bL n l L bA dr pg wh ∧ SameN n l L)
      case first =>
        cases dr
        · obtain ⟨E, hE⟩ : ∃ E, rtakeE n L pg wh = E := ⟨_, rfl⟩
          have cD : Hid (∀ w' L', Turn w w' bl bm br bL n l L' bA false pg wh → Calls Try.prog 11 #[.pointer (some ⟨bl, 0, none⟩), .int .i64 pg, .int .i64 wh] w' fun e w'' => e = .returned (.int .i64 E) ∧ Turn w w'' bl bm br bL n (takeL n pg wh l) L' bA false pg wh) :=
            fun w' L' h => h.takeT HS.out.nums P64.out.1 E (by rw [HS.out.takeE_eq]; exact hE)
          have cR : Hid (∀ w' l', Turn w w' bl bm br bL n l' L bA false pg wh → Calls Try.prog 12 #[.pointer (some ⟨br, 0, none⟩), .int .i64 pg, .int .i64 wh] w' fun e w'' => e = .returned (.int .i64 E) ∧ Turn w w'' bl bm br bL n l' (rtakeL n L pg wh) bA false pg wh) :=
            fun w' l' h => h.rtakeT E hE
          have HSE := Lib.hid (HS.out.take pg wh)
          have H0 : Hid (Turn w wq.drew bl bm br bL n l L bA false pg wh) := HT.out.calm (Turned.refl [] wq).drew
          obtain ⟨hc1, hc2⟩ := And.intro HT.out.c1 HT.out.c2
          clear hE
          go_wp2
          go_region_held3 (fun w' => w'.cell? ⟨bA, 1, none⟩ = some (.int .i64 pg) ∧ w'.cell? ⟨bA, 2, none⟩ = some (.int .i64 wh)) (go_keep)
            (first
              | (go_at_call 12; ((with_reducible refine (cR.out _ _ HD1.out).mono ?_); rintro e w3 ⟨rfl, hd⟩; have HD2 := Lib.hid hd; have hd1 := hd.c1; have hd2 := hd.c2; clear hd))
              | (go_at_call 11; ((with_reducible refine (cD.out _ _ HR1.out).mono ?_); rintro e w3 ⟨rfl, hd⟩; have HD2 := Lib.hid hd; have hd1 := hd.c1; have hd2 := hd.c2; clear hd))
              | (go_at_call 12; ((with_reducible refine (cR.out _ _ H0.out).mono ?_); rintro e w3 ⟨rfl, hd⟩; have HR1 := Lib.hid hd; have hd1 := hd.c1; have hd2 := hd.c2; clear hd))
              | (go_at_call 11; ((with_reducible refine (cD.out _ _ H0.out).mono ?_); rintro e w3 ⟨rfl, hd⟩; have HD1 := Lib.hid hd; have hd1 := hd.c1; have hd2 := hd.c2; clear hd)))
          all_goals
            go_wp2
            go_meet
            exact ⟨_, _, HD2.out, HSE.out⟩
        · obtain ⟨E, hE⟩ : ∃ E, rdropE n L pg wh = E := ⟨_, rfl⟩
          have cD : Hid (∀ w' L', Turn w w' bl bm br bL n l L' bA true pg wh → Calls Try.prog 9 #[.pointer (some ⟨bl, 0, none⟩), .int .i64 pg, .int .i64 wh] w' fun e w'' => e = .returned (.int .i64 E) ∧ Turn w w'' bl bm br bL n (dropL n pg wh l) L' bA true pg wh) :=
            fun w' L' h => h.dropT HS.out.nums P64.out.1 E (by rw [HS.out.dropE_eq]; exact hE)
          have cR : Hid (∀ w' l', Turn w w' bl bm br bL n l' L bA true pg wh → Calls Try.prog 10 #[.pointer (some ⟨br, 0, none⟩), .int .i64 pg, .int .i64 wh] w' fun e w'' => e = .returned (.int .i64 E) ∧ Turn w w'' bl bm br bL n l' (rdropL n L pg wh) bA true pg wh) :=
            fun w' l' h => h.rdropT E hE
          have HSE := Lib.hid (HS.out.drop pg wh)
          have H0 : Hid (Turn w wq.drew bl bm br bL n l L bA true pg wh) := HT.out.calm (Turned.refl [] wq).drew
          obtain ⟨hc1, hc2⟩ := And.intro HT.out.c1 HT.out.c2
          clear hE
          go_wp2
          go_region_held3 (fun w' => w'.cell? ⟨bA, 1, none⟩ = some (.int .i64 pg) ∧ w'.cell? ⟨bA, 2, none⟩ = some (.int .i64 wh)) (go_keep)
            (first
              | (go_at_call 10; ((with_reducible refine (cR.out _ _ HD1.out).mono ?_); rintro e w3 ⟨rfl, hd⟩; have HD2 := Lib.hid hd; have hd1 := hd.c1; have hd2 := hd.c2; clear hd))
              | (go_at_call 9; ((with_reducible refine (cD.out _ _ HR1.out).mono ?_); rintro e w3 ⟨rfl, hd⟩; have HD2 := Lib.hid hd; have hd1 := hd.c1; have hd2 := hd.c2; clear hd))
              | (go_at_call 10; ((with_reducible refine (cR.out _ _ H0.out).mono ?_); rintro e w3 ⟨rfl, hd⟩; have HR1 := Lib.hid hd; have hd1 := hd.c1; have hd2 := hd.c2; clear hd))
              | (go_at_call 9; ((with_reducible refine (cD.out _ _ H0.out).mono ?_); rintro e w3 ⟨rfl, hd⟩; have HD1 := Lib.hid hd; have hd1 := hd.c1; have hd2 := hd.c2; clear hd)))
          all_goals
            go_wp2
            go_meet
            exact ⟨_, _, HD2.out, HSE.out⟩
      case rest =>
        clear HT HS
        obtain ⟨l, L, hT, hS⟩ := hcut
        obtain ⟨K, hK⟩ : ∃ K, rwho n L pg = K := ⟨_, rfl⟩
        obtain ⟨B, hB⟩ : ∃ B, (!(ask.any (rbusy n L q))) = B := ⟨_, rfl⟩
        obtain ⟨xs, hxs⟩ : ∃ xs, rheld n L wh = xs := ⟨_, rfl⟩
        have hxs' : heldL l wh = xs := by rw [hS.held_eq hT.both.latch.map.nodup]; exact hxs
        have hxl : xs.length ≤ 4096 := by rw [← hxs]; exact Nat.le_trans (rheld_len n L wh) hT.both.ref.small
        have hx64 : Hid (∀ x ∈ xs, I64 x) := by
          refine Lib.hid ?_
          intro x hx
          rw [← hxs] at hx
          unfold rheld at hx
          split at hx
          · obtain ⟨i, hi, rfl⟩ := List.mem_map.1 hx
            have := (List.mem_filter.1 hi).1
            have h1 := hT.both.ref.small
            simp at this
            unfold I64; omega
          · cases hx
        have cW : Hid (∀ w', Turn w w' bl bm br bL n l L bA dr pg wh → Calls Try.prog 13 #[.pointer (some ⟨bl, 0, none⟩), .int .i64 pg] w' fun e w'' => e = .returned (.tuple #[.int .i64 (max K 0), .bool (decide (0 ≤ K))]) ∧ w' = w'') :=
          fun w' h => h.whoT hS P64.out.1 K hK
        have cRW : Hid (∀ w', Turn w w' bl bm br bL n l L bA dr pg wh → Calls Try.prog 14 #[.pointer (some ⟨br, 0, none⟩), .int .i64 pg] w' fun e w'' => e = .returned (.int .i64 K) ∧ w' = w'') :=
          fun w' h => hK ▸ rwho_call br bL n L pg w' h.both.ref
        have cH : Hid (∀ w', Turn w w' bl bm br bL n l L bA dr pg wh → Calls Try.prog 15 #[.pointer (some ⟨bl, 0, none⟩), .int .i64 wh] w' fun e w'' => ∃ a cap, e = .returned (.slice a xs.length cap) ∧ SlAt w'' a xs.length (xs.map iv) ∧ Turned [] w' w'' ∧ Turn w w'' bl bm br bL n l L bA dr pg wh) :=
          fun w' h => h.heldT hS xs hxs'
        have cRH : Hid (∀ w', Turn w w' bl bm br bL n l L bA dr pg wh → Calls Try.prog 16 #[.pointer (some ⟨br, 0, none⟩), .int .i64 wh] w' fun e w'' => ∃ a cap, e = .returned (.slice a xs.length cap) ∧ SlAt w'' a xs.length (xs.map iv) ∧ Turned [] w' w'' ∧ Turn w w'' bl bm br bL n l L bA dr pg wh) :=
          fun w' h => h.rheldT xs hxs
        have cF : Hid (∀ w', Turn w w' bl bm br bL n l L bA dr pg wh → Calls Try.prog 17 #[.pointer (some ⟨bl, 0, none⟩), .int .i64 q, .slice a2 len2 cap2] w' fun e w'' => e = .returned (.bool B) ∧ Turned [] w' w'' ∧ Turn w w'' bl bm br bL n l L bA dr pg wh) :=
          fun w' h => h.freeT hS ask a2 len2 cap2 HAsk.out.1 HAsk.out.2.2 HAsk.out.2.1 q B hB
        have cRF : Hid (∀ w', Turn w w' bl bm br bL n l L bA dr pg wh → Calls Try.prog 18 #[.pointer (some ⟨br, 0, none⟩), .int .i64 q, .slice a2 len2 cap2] w' fun e w'' => e = .returned (.bool B) ∧ w' = w'') :=
          fun w' h => h.rfreeT ask a2 len2 cap2 HAsk.out.1 HAsk.out.2.2 q B hB
        have HT := Lib.hid hT
        have HS := Lib.hid hS
        have hc1 := hT.c1
        have hc2 := hT.c2
        clear hT hS hK hB hxs hxs'
        obtain ⟨m, hm⟩ : ∃ m, xs.length = m := ⟨_, rfl⟩
        rw [hm] at cH cRH hxl
        have HM := Lib.hid hm
        clear hm
        go_upto_region 15 with (first
          | (go_at_call 13; ((with_reducible refine (cW.out _ HT.out).mono ?_); rintro e w3 ⟨rfl, rfl⟩))
          | (go_at_call 14; ((with_reducible refine (cRW.out _ HT.out).mono ?_); rintro e w3 ⟨rfl, rfl⟩)))
        go_cut [16, 17] (fun u v wd => ∃ s1 p1 s2 p2, u = .slice s1 m p1 ∧ v = .slice s2 m p2 ∧ SlAt wd s1 m (xs.map iv) ∧ SlAt wd s2 m (xs.map iv) ∧ Turn w wd bl bm br bL n l L bA dr pg wh)
        case first =>
          have H0 : Hid (Turn w wc.drew bl bm br bL n l L bA dr pg wh) := HT.out.calm (Turned.refl [] wc).drew
          go_region_held3 (fun w' => w'.cell? ⟨bA, 1, none⟩ = some (.int .i64 pg) ∧ w'.cell? ⟨bA, 2, none⟩ = some (.int .i64 wh)) (go_keep)
            (first
              | (go_at_call 16; ((with_reducible refine (cRH.out _ HD1.out).mono ?_); rintro e w3 ⟨s2, p2, rfl, hs, ht, hd⟩; have HD2 := Lib.hid hd; have HX1 := Lib.hid (HL1.out.turned ht (fun _ _ => by simp)); have HX2 := Lib.hid hs; have hd1 := hd.c1; have hd2 := hd.c2; clear hd hs ht))
              | (go_at_call 15; ((with_reducible refine (cH.out _ HR1.out).mono ?_); rintro e w3 ⟨s1, p1, rfl, hs, ht, hd⟩; have HD2 := Lib.hid hd; have HX2 := Lib.hid (HL2.out.turned ht (fun _ _ => by simp)); have HX1 := Lib.hid hs; have hd1 := hd.c1; have hd2 := hd.c2; clear hd hs ht))
              | (go_at_call 16; ((with_reducible refine (cRH.out _ H0.out).mono ?_); rintro e w3 ⟨s2, p2, rfl, hs, ht, hd⟩; have HR1 := Lib.hid hd; have HL2 := Lib.hid hs; have hd1 := hd.c1; have hd2 := hd.c2; clear hd hs ht))
              | (go_at_call 15; ((with_reducible refine (cH.out _ H0.out).mono ?_); rintro e w3 ⟨s1, p1, rfl, hs, ht, hd⟩; have HD1 := Lib.hid hd; have HL1 := Lib.hid hs; have hd1 := hd.c1; have hd2 := hd.c2; clear hd hs ht)))
          all_goals
            go_wp2
            go_meet
            exact ⟨_, _, _, _, rfl, rfl, HX1.out, HX2.out, HD2.out⟩
        case rest =>
          clear HT hc1 hc2
          obtain ⟨s1, p1, s2, p2, rfl, rfl, hx1, hx2, hT⟩ := hcut
          have HT := Lib.hid hT
          have HX := Lib.hid (And.intro hx1 hx2)
          have hc1 := hT.c1
          have hc2 := hT.c2
          clear hx1 hx2 hT cW cRW cH cRH
          go_upto_region 18 with (first
            | (go_at_call 17; ((with_reducible refine (cF.out _ HT.out).mono ?_); rintro e w3 ⟨rfl, ht, hd⟩; have HT2 := Lib.hid hd; have HX2 := Lib.hid (And.intro (HX.out.1.turned ht (fun _ _ => by simp)) (HX.out.2.turned ht (fun _ _ => by simp))); clear ht hd))
            | (go_at_call 18; ((with_reducible refine (cRF.out _ HT2.out).mono ?_); rintro e w3 ⟨rfl, rfl⟩)))
          clear HT HX hc1 hc2
          have HT := HT2
          have HX := HX2
          clear HT2 HX2 cF cRF
          go_wp2
          go_loopw [18] (fun i wr => ∃ j z : Nat, j ≤ m ∧ i = .int .i64 j ∧ wr = w3.drewN z) (fun i _ => m - (intOf i).toNat)
          case atStart => exact ⟨0, 0, Nat.zero_le _, rfl, rfl⟩
          case round =>
            obtain ⟨j, z, hjm, rfl, rfl⟩ := hrel
            by_cases hj : j < m
            · have hjl : j < xs.length := by rw [HM.out]; exact hj
              obtain ⟨b1, o1, rfl, hcc1⟩ := HX.out.1.cells (by omega)
              obtain ⟨b2, o2, rfl, hcc2⟩ := HX.out.2.cells (by omega)
              have hd1 := hcc1 j hj
              have hd2 := hcc2 j hj
              rw [List.getElem?_map, List.getElem?_eq_getElem hjl] at hd1 hd2
              simp only [Option.map_some, iv] at hd1 hd2
              clear hcc1 hcc2
              generalize xs[j] = x at *
              go_wp2
              go_quiet (fail)
              go_wp2
              go_roundw
              case rel => exact ⟨j + 1, _, by omega, by go_num, rfl⟩
              case measure => simp [intOf]; omega
            · have hje : j = m := by omega
              subst hje
              go_wp2
              go_roundw
              case rel => exact ⟨k + 1, l, L, by omega, by go_num, (HT.out.both.calm ((Turned.refl [] w3).drewN z)), HS.out⟩
              case measure => simp [intOf]; omega
    · have hke : k = len1 := by omega
      subst hke
      clear hlt
      go_wp2_with (go_at_call 6; ((with_reducible refine (CW.out _).mono ?_); rintro e ww ⟨rfl, hb⟩))
      go_ret
      exact ⟨rfl, below_next HIn.out.below hb⟩

end Go.Proofs.Ytmgbpndbnfemeaa.L
