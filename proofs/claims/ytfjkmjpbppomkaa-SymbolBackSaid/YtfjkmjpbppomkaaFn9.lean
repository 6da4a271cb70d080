/- Each length and each distance is just one symbol and number besides: the walk. -/
import Derived.Test.YtfjkmjpbppomkaaFn8
namespace Go.Proofs.Ytfjkmjpbppomkaa.S
open Go.ChangeShapes Go.WideShapes Go.ChangeAt Go.RowKit
set_option linter.unusedVariables false
set_option linter.unusedSimpArgs false

theorem lb_six (c : Int) (h0 : 0 ≤ c) (h1 : c ≤ 5) : c = 0 ∨ c = 1 ∨ c = 2 ∨ c = 3 ∨ c = 4 ∨ c = 5 := by omega


theorem db_14 (c : Int) (h0 : 0 ≤ c) (h1 : c ≤ 13) : c = 0 ∨ c = 1 ∨ c = 2 ∨ c = 3 ∨ c = 4 ∨ c = 5 ∨ c = 6 ∨ c = 7 ∨ c = 8 ∨ c = 9 ∨ c = 10 ∨ c = 11 ∨ c = 12 ∨ c = 13 := by omega
theorem pow_lt6 (B C : Int) (h0 : 0 ≤ C) (h1 : C ≤ 13) (h : B < 2 ^ C.toNat) : B < 8193 := by
  rcases db_14 C h0 h1 with rfl | rfl | rfl | rfl | rfl | rfl | rfl | rfl | rfl | rfl | rfl | rfl | rfl | rfl <;> simp at h <;> omega

theorem wrap_pow (k : Nat) (h : k < 21) : IntKind.u64.wrap (2 ^ k) = 2 ^ k := by
  have : ∀ k : Fin 21, IntKind.u64.wrap (2 ^ k.val) = 2 ^ k.val := by decide
  exact this ⟨k, h⟩
theorem shl_test (C B m : Int) (h0 : 0 ≤ C) (h1 : C ≤ m) (hm : m ≤ 20) (hB : B < 2 ^ C.toNat) : (decide (C < 0) || decide (m < C) || decide (IntKind.u64.wrap (2 ^ C.toNat) ≤ B)) = false := by
  rw [wrap_pow _ (by omega), decide_eq_false (by omega), decide_eq_false (by omega), decide_eq_false (by omega)]
  rfl

set_option maxHeartbeats 8000000 in
set_option maxRecDepth 100000 in
theorem back_core (n s x A B C D E F a b c a' b' c' i j p q : Int) (t t' one two : Bool) (hn : 0 ≤ n) (hn' : n < 65536) (hs0 : 0 ≤ s) (hs1 : s < 65536) (hx : 0 ≤ x) (hx' : x < 65536) (w : World)
    (h6 : ∀ w, Calls Try.prog 6 #[.int .i64 (3 + n % 256)] w fun e w' => e = .returned (.tuple #[.int .i64 A, .int .u32 B, .int .i64 C, .bool true]) ∧ Below w.heap.size w w')
    (h14 : ∀ w, Calls Try.prog 14 #[.int .i64 A, .int .u32 B] w fun e w' => e = .returned (.tuple #[.int .i64 (3 + n % 256), .bool true]) ∧ w = w')
    (hA : 0 ≤ A ∧ A < 300) (hC : 0 ≤ C ∧ C ≤ 5 ∧ 0 ≤ B ∧ B < 2 ^ C.toNat)
    (h6n : ∀ w, Calls Try.prog 6 #[.int .i64 (3 + n % 256 + 1)] w fun e w' => e = .returned (.tuple #[.int .i64 a, .int .u32 b, .int .i64 c, .bool t]) ∧ Below w.heap.size w w')
    (ht : (t = true ∧ 3 + n % 256 < 258 ∧ (a = A ∧ b = B + 1 ∨ a = A + 1 ∧ b = 0)) ∨ (t = false ∧ ¬ 3 + n % 256 < 258))
    (h8 : ∀ w, Calls Try.prog 8 #[.int .i64 (1 + n % 32768)] w fun e w' => e = .returned (.tuple #[.int .i64 D, .int .u32 E, .int .i64 F, .bool true]) ∧ Below w.heap.size w w')
    (h15 : ∀ w, Calls Try.prog 15 #[.int .i64 D, .int .u32 E] w fun e w' => e = .returned (.tuple #[.int .i64 (1 + n % 32768), .bool true]) ∧ w = w')
    (hD : 0 ≤ D ∧ D < 300) (hF : 0 ≤ F ∧ F ≤ 13 ∧ 0 ≤ E ∧ E < 2 ^ F.toNat)
    (h8n : ∀ w, Calls Try.prog 8 #[.int .i64 (1 + n % 32768 + 1)] w fun e w' => e = .returned (.tuple #[.int .i64 a', .int .u32 b', .int .i64 c', .bool t']) ∧ Below w.heap.size w w')
    (ht' : (t' = true ∧ 1 + n % 32768 < 32768 ∧ (a' = D ∧ b' = E + 1 ∨ a' = D + 1 ∧ b' = 0)) ∨ (t' = false ∧ ¬ 1 + n % 32768 < 32768))
    (h14s : ∀ w, Calls Try.prog 14 #[.int .i64 (s % 400), .int .u32 x] w fun e w' => e = .returned (.tuple #[.int .i64 i, .bool one]) ∧ w = w')
    (h6s : one = true → ∀ w, Calls Try.prog 6 #[.int .i64 i] w fun e w' => e = .returned (.tuple #[.int .i64 (s % 400), .int .u32 x, .int .i64 p, .bool true]) ∧ Below w.heap.size w w')
    (h15s : ∀ w, Calls Try.prog 15 #[.int .i64 (s % 400), .int .u32 x] w fun e w' => e = .returned (.tuple #[.int .i64 j, .bool two]) ∧ w = w')
    (h8s : two = true → ∀ w, Calls Try.prog 8 #[.int .i64 j] w fun e w' => e = .returned (.tuple #[.int .i64 (s % 400), .int .u32 x, .int .i64 q, .bool true]) ∧ Below w.heap.size w w') :
    Calls Try.prog 4 #[.int .u16 n, .int .u16 s, .int .u16 x] w fun e w' => e = .returned (.bool true) ∧ Below w.heap.size w w' := by
  obtain ⟨hC0, hC1, hB0, hB1⟩ := hC
  obtain ⟨hF0, hF1, hE0, hE1⟩ := hF
  have hBb := pow_lt6 B C hC0 (by omega) hB1
  have hEb := pow_lt6 E F hF0 hF1 hE1
  have HB1 := Lib.hid hB1
  have HE1 := Lib.hid hE1
  have k0 : 3 ≤ 3 + n % 256 := by omega
  have k1 : 3 + n % 256 ≤ 258 := by omega
  have HT := Lib.hid ht
  have HT' := Lib.hid ht'
  have H6 := Lib.hid h6
  have H14 := Lib.hid h14
  have H6n := Lib.hid h6n
  have H8 := Lib.hid h8
  have H15 := Lib.hid h15
  have H8n := Lib.hid h8n
  have H14s := Lib.hid h14s
  have H6s := Lib.hid h6s
  have H15s := Lib.hid h15s
  have H8s := Lib.hid h8s
  clear hB1 hE1 ht ht' h6 h14 h6n h8 h15 h8n h14s h6s h15s h8s
  go_enter Try.func4, Try.ntmps4
  go_upto_region 4 with (first | (go_at_call 6; ((with_reducible refine (H6.out _).mono ?_); rintro e ww ⟨rfl, hb1⟩; have B1 := Lib.hid hb1; clear hb1)) | (go_at_call 14; ((with_reducible refine (H14.out _).mono ?_); rintro e ww ⟨rfl, rfl⟩)))
  go_cut [85] (fun v wc => v = .bool false ∧ wc = ww)
  case first =>
    as_aux_lemma =>
      go_wp2
      go_meet
      exact ⟨by rw [shl_test C B 5 hC0 hC1 (by omega) HB1.out], rfl⟩
  case rest =>
    obtain ⟨rfl, rfl⟩ := hcut
    go_upto_region 7 with (first | (go_at_call 6; ((with_reducible refine (H6n.out _).mono ?_); rintro e ww ⟨rfl, hb2⟩; have B2 := Lib.hid hb2; clear hb2)))
    go_cut [14, 15, 122] (fun _ _ v wc => v = .bool false ∧ wc = ww)
    case first =>
      rcases HT.out with ⟨rfl, h1, ⟨h2, h3⟩ | ⟨h2, rfl⟩⟩ | ⟨rfl, h1⟩
      · as_aux_lemma =>
          clear HT HT' H6 H14 H6n H8 H15 H8n H14s H6s H15s H8s HB1 HE1
          have g2 : (a == A) = true := by simp [h2]
          have H3 := Lib.hid h3
          have hb0 : 0 ≤ b := by omega
          have hb1 : b < 9000 := by omega
          clear h2 h3 k0 k1
          go_wp2
          all_goals
            go_meet
            first | exact ⟨rfl, rfl⟩ | (exfalso; have := H3.out; omega)
      · as_aux_lemma =>
          clear HT HT' H6 H14 H6n H8 H15 H8n H14s H6s H15s H8s HB1 HE1
          have g2 : (a == A) = false := beq_eq_false_iff_ne.mpr (by omega)
          have ha0 : -1000 ≤ A := by omega
          have ha1 : A < 1000 := by omega
          have H2 := Lib.hid h2
          clear h2 k0 k1
          go_wp2
          all_goals
            go_meet
            first | exact ⟨rfl, rfl⟩ | (exfalso; have := H2.out; omega)
      · as_aux_lemma =>
          clear HT HT' H6 H14 H6n H8 H15 H8n H14s H6s H15s H8s HB1 HE1
          have hd : decide (3 + n % 256 < 258) = false := decide_eq_false (by omega)
          clear h1 k0 k1
          go_wp2
          go_meet
          exact ⟨rfl, rfl⟩
    case rest =>
      obtain ⟨rfl, rfl⟩ := hcut
      go_upto_region 12 with (first | (go_at_call 8; ((with_reducible refine (H8.out _).mono ?_); rintro e ww ⟨rfl, hb3⟩; have B3 := Lib.hid hb3; clear hb3)) | (go_at_call 15; ((with_reducible refine (H15.out _).mono ?_); rintro e ww ⟨rfl, rfl⟩)))
      go_cut [166] (fun v wc => v = .bool false ∧ wc = ww)
      case first =>
        as_aux_lemma =>
          go_wp2
          go_meet
          exact ⟨by rw [shl_test F E 13 hF0 hF1 (by omega) HE1.out], rfl⟩
      case rest =>
        obtain ⟨rfl, rfl⟩ := hcut
        go_upto_region 15 with (first | (go_at_call 8; ((with_reducible refine (H8n.out _).mono ?_); rintro e ww ⟨rfl, hb4⟩; have B4 := Lib.hid hb4; clear hb4)))
        go_cut [25, 26, 203] (fun _ _ v wc => v = .bool false ∧ wc = ww)
        case first =>
          rcases HT'.out with ⟨rfl, h1, ⟨h2, h3⟩ | ⟨h2, rfl⟩⟩ | ⟨rfl, h1⟩
          · as_aux_lemma =>
              clear HT HT' H6 H14 H6n H8 H15 H8n H14s H6s H15s H8s HB1 HE1
              have g2 : (a' == D) = true := by simp [h2]
              have H3 := Lib.hid h3
              have hb0 : 0 ≤ b' := by omega
              have hb1 : b' < 9000 := by omega
              clear h2 h3 k0 k1
              go_wp2
              all_goals
                go_meet
                first | exact ⟨rfl, rfl⟩ | (exfalso; have := H3.out; omega)
          · as_aux_lemma =>
              clear HT HT' H6 H14 H6n H8 H15 H8n H14s H6s H15s H8s HB1 HE1
              have g2 : (a' == D) = false := beq_eq_false_iff_ne.mpr (by omega)
              have ha0 : -1000 ≤ D := by omega
              have ha1 : D < 1000 := by omega
              have H2 := Lib.hid h2
              clear h2 k0 k1
              go_wp2
              all_goals
                go_meet
                first | exact ⟨rfl, rfl⟩ | (exfalso; have := H2.out; omega)
          · as_aux_lemma =>
              clear HT HT' H6 H14 H6n H8 H15 H8n H14s H6s H15s H8s HB1 HE1
              have hd : decide (1 + n % 32768 < 32768) = false := decide_eq_false (by omega)
              clear h1 k0 k1
              go_wp2
              go_meet
              exact ⟨rfl, rfl⟩
        case rest =>
          obtain ⟨rfl, rfl⟩ := hcut
          cases one with
          | true =>
            have G6 := Lib.hid (H6s.out rfl)
            clear H6s
            cases two with
            | true =>
              have G8 := Lib.hid (H8s.out rfl)
              clear H8s
              as_aux_lemma =>
              go_wp2_with (first | (go_at_call 14; ((with_reducible refine (H14s.out _).mono ?_); rintro e ww ⟨rfl, rfl⟩)) | (go_at_call 15; ((with_reducible refine (H15s.out _).mono ?_); rintro e ww ⟨rfl, rfl⟩)) | (go_at_call 6; ((with_reducible refine (G6.out _).mono ?_); rintro e ww ⟨rfl, hb6⟩; have B6 := Lib.hid hb6; clear hb6)) | (go_at_call 8; ((with_reducible refine (G8.out _).mono ?_); rintro e ww ⟨rfl, hb8⟩; have B8 := Lib.hid hb8; clear hb8)) | (go_at_call 18; ((with_reducible refine (works _).mono ?_); rintro e ww ⟨rfl, hb5⟩; have B5 := Lib.hid hb5; clear hb5)))
              go_ret
              exact ⟨rfl, bnx (bnx (bnx (bnx (bnx (bnx B1.out B2.out) B3.out) B4.out) B6.out) B8.out) B5.out⟩
            | false =>
              as_aux_lemma =>
              go_wp2_with (first | (go_at_call 14; ((with_reducible refine (H14s.out _).mono ?_); rintro e ww ⟨rfl, rfl⟩)) | (go_at_call 15; ((with_reducible refine (H15s.out _).mono ?_); rintro e ww ⟨rfl, rfl⟩)) | (go_at_call 6; ((with_reducible refine (G6.out _).mono ?_); rintro e ww ⟨rfl, hb6⟩; have B6 := Lib.hid hb6; clear hb6)) | (go_at_call 18; ((with_reducible refine (works _).mono ?_); rintro e ww ⟨rfl, hb5⟩; have B5 := Lib.hid hb5; clear hb5)))
              go_ret
              exact ⟨rfl, bnx (bnx (bnx (bnx (bnx B1.out B2.out) B3.out) B4.out) B6.out) B5.out⟩
          | false => 
            cases two with
            | true =>
              have G8 := Lib.hid (H8s.out rfl)
              clear H8s
              as_aux_lemma =>
              go_wp2_with (first | (go_at_call 14; ((with_reducible refine (H14s.out _).mono ?_); rintro e ww ⟨rfl, rfl⟩)) | (go_at_call 15; ((with_reducible refine (H15s.out _).mono ?_); rintro e ww ⟨rfl, rfl⟩)) | (go_at_call 8; ((with_reducible refine (G8.out _).mono ?_); rintro e ww ⟨rfl, hb8⟩; have B8 := Lib.hid hb8; clear hb8)) | (go_at_call 18; ((with_reducible refine (works _).mono ?_); rintro e ww ⟨rfl, hb5⟩; have B5 := Lib.hid hb5; clear hb5)))
              go_ret
              exact ⟨rfl, bnx (bnx (bnx (bnx (bnx B1.out B2.out) B3.out) B4.out) B8.out) B5.out⟩
            | false =>
              as_aux_lemma =>
              go_wp2_with (first | (go_at_call 14; ((with_reducible refine (H14s.out _).mono ?_); rintro e ww ⟨rfl, rfl⟩)) | (go_at_call 15; ((with_reducible refine (H15s.out _).mono ?_); rintro e ww ⟨rfl, rfl⟩)) | (go_at_call 18; ((with_reducible refine (works _).mono ?_); rintro e ww ⟨rfl, hb5⟩; have B5 := Lib.hid hb5; clear hb5)))
              go_ret
              exact ⟨rfl, bnx (bnx (bnx (bnx B1.out B2.out) B3.out) B4.out) B5.out⟩


theorem back (n s x : Int) (hn : 0 ≤ n) (hn' : n < 65536) (hs0 : 0 ≤ s) (hs1 : s < 65536) (hx : 0 ≤ x) (hx' : x < 65536) (w : World) :
    Calls Try.prog 4 #[.int .u16 n, .int .u16 s, .int .u16 x] w fun e w' => e = .returned (.bool true) ∧ Below w.heap.size w w' := by
  have k0 : 3 ≤ 3 + n % 256 := by omega
  have k1 : 3 + n % 256 ≤ 258 := by omega
  have d0 : 1 ≤ 1 + n % 32768 := by omega
  have d1 : 1 + n % 32768 ≤ 32768 := by omega
  obtain ⟨a1, a2, a3, a4, a5, a6⟩ := len_back (3 + n % 256) k0 k1
  obtain ⟨b1, b2, b3, b4, b5, b6⟩ := dist_back (1 + n % 32768) d0 d1
  have L : ∃ a b c t, (∀ w, Calls Try.prog 6 #[.int .i64 (3 + n % 256 + 1)] w fun e w' => e = .returned (.tuple #[.int .i64 a, .int .u32 b, .int .i64 c, .bool t]) ∧ Below w.heap.size w w') ∧
      ((t = true ∧ 3 + n % 256 < 258 ∧ (a = lsym (3 + n % 256) ∧ b = (3 + n % 256 - ls (lsym (3 + n % 256))) + 1 ∨ a = lsym (3 + n % 256) + 1 ∧ b = 0)) ∨ (t = false ∧ ¬ 3 + n % 256 < 258)) := by
    by_cases h : 3 + n % 256 < 258
    · exact ⟨_, _, _, _, fun w => length_yes _ w (by omega) (by omega), Or.inl ⟨rfl, h, len_next _ k0 h⟩⟩
    · exact ⟨_, _, _, _, fun w => length_no _ w (by omega), Or.inr ⟨rfl, h⟩⟩
  have M : ∃ a b c t, (∀ w, Calls Try.prog 8 #[.int .i64 (1 + n % 32768 + 1)] w fun e w' => e = .returned (.tuple #[.int .i64 a, .int .u32 b, .int .i64 c, .bool t]) ∧ Below w.heap.size w w') ∧
      ((t = true ∧ 1 + n % 32768 < 32768 ∧ (a = dsym (1 + n % 32768) ∧ b = (1 + n % 32768 - ds (dsym (1 + n % 32768))) + 1 ∨ a = dsym (1 + n % 32768) + 1 ∧ b = 0)) ∨ (t = false ∧ ¬ 1 + n % 32768 < 32768)) := by
    by_cases h : 1 + n % 32768 < 32768
    · exact ⟨_, _, _, _, fun w => dist_yes _ w (by omega) (by omega), Or.inl ⟨rfl, h, dist_next _ d0⟩⟩
    · exact ⟨_, _, _, _, fun w => dist_no _ w (by omega), Or.inr ⟨rfl, h⟩⟩
  obtain ⟨a, b, c, t, g1, g2⟩ := L
  obtain ⟨a', b', c', t', g3, g4⟩ := M
  refine back_core n s x _ _ _ _ _ _ a b c a' b' c' (lof (s % 400) x) (dof (s % 400) x) (lb (s % 400)) (db (s % 400)) t t' (lofOk (s % 400) x) (dofOk (s % 400) x) hn hn' hs0 hs1 hx hx' w (fun w => length_yes _ w k0 k1) (fun w => ?_) (by have := lsym_at _ k0; omega) ⟨a1, a2, a3, a4⟩ g1 g2
    (fun w => dist_yes _ w d0 d1) (fun w => ?_) (by have := dsym_at _ d0; omega) ⟨b1, b2, b3, b4⟩ g3 g4 (fun w => lengthOf _ _ hx (by omega) w) (fun h w => ?_) (fun w => distOf _ _ hx (by omega) w) (fun h w => ?_)
  · have := lengthOf (lsym (3 + n % 256)) (3 + n % 256 - ls (lsym (3 + n % 256))) a3 (by have := ls_bd _ (lsym_at _ k0).1 (lsym_at _ k0).2.1; omega) w
    rwa [a5, a6] at this
  · have := distOf (dsym (1 + n % 32768)) (1 + n % 32768 - ds (dsym (1 + n % 32768))) b3 (by have := ds_bd _ (dsym_at _ d0).1 (dsym_at _ d0).2.1; omega) w
    rwa [b5, b6] at this
  · obtain ⟨e1, e2, e3, e4⟩ := sym_len _ _ hx h
    have := length_yes (ls (s % 400) + x) w e2 e3
    rw [e4, e1] at this
    rw [show lof (s % 400) x = ls (s % 400) + x by unfold lof; rw [h, if_pos rfl]]
    exact this
  · obtain ⟨e1, e2, e3, e4⟩ := sym_dist _ _ hx h
    have := dist_yes (ds (s % 400) + x) w e2 e3
    rw [e4, e1] at this
    rw [show dof (s % 400) x = ds (s % 400) + x by unfold dof; rw [h, if_pos rfl]]
    exact this

end Go.Proofs.Ytfjkmjpbppomkaa.S
