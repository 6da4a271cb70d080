/- The document's examples, and the law on what symbols tell. -/
import Derived.Test.YtfjkmjpbppomkaaFn6
namespace Go.Proofs.Ytfjkmjpbppomkaa.S
open Go.ChangeShapes Go.WideShapes Go.ChangeAt Go.RowKit
set_option linter.unusedVariables false
set_option linter.unusedSimpArgs false

theorem Below.next {B : Nat} {a b c : World} (h : Below B a b) (k : Below b.heap.size b c) (hB : B ≤ a.heap.size) : Below B a c := h.trans (k.mono (Nat.le_trans hB h.size))

theorem works (w : World) : Calls Try.prog 18 #[] w fun e w' => e = .returned (.bool true) ∧ Below w.heap.size w w' := by
  have h1 := length_yes 13
  have h2 := dist_yes 6
  have h3 := lengthOf 284 31
  rw [show lsym 13 = 266 by decide, show ls 266 = 13 by decide, show lb 266 = 1 by decide] at h1
  rw [show dsym 6 = 4 by decide, show ds 4 = 5 by decide, show db 4 = 1 by decide] at h2
  rw [show lof 284 31 = 0 by decide, show lofOk 284 31 = false by decide] at h3
  go_enter Try.func18, Try.ntmps18
  go_wp2_with (first | (go_at_call 6; refine (h1 _ (by omega) (by omega)).mono ?_; rintro e w1 ⟨rfl, hb1⟩; have H1 := Lib.hid hb1; clear hb1) | (go_at_call 8; refine (h2 _ (by omega) (by omega)).mono ?_; rintro e w2 ⟨rfl, hb2⟩; have H2 := Lib.hid hb2; clear hb2) | (go_at_call 14; refine (h3 (by omega) (by omega) _).mono ?_; rintro e w3 ⟨rfl, rfl⟩))
  go_ret
  exact ⟨rfl, Below.next H1.out H2.out (Nat.le_refl _)⟩


theorem lb_of (s : Int) : lb s = max (rlb s) 0 ∧ lbOk s = decide (0 ≤ rlb s) := by
  have h := lb_cases s
  unfold rlb lbOk
  by_cases c : s < 257 ∨ 285 < s
  · rw [if_pos c, show lb s = 0 by unfold lb; rw [if_pos c]]
    exact ⟨by decide, by rw [decide_eq_false (by omega)]; decide⟩
  · rw [if_neg c]
    exact ⟨by omega, by rw [decide_eq_true (by omega), decide_eq_true (by omega)]⟩
theorem db_of (s : Int) : db s = max (rdb s) 0 ∧ dbOk s = decide (0 ≤ rdb s) := by
  have h := db_cases s
  unfold rdb dbOk
  by_cases c : s < 0 ∨ 29 < s
  · rw [if_pos c, show db s = 0 by unfold db; rw [if_pos c]]
    exact ⟨by decide, by rw [decide_eq_false (by omega)]; decide⟩
  · rw [if_neg c]
    exact ⟨by omega, by rw [decide_eq_true (by omega), decide_eq_true (by omega)]⟩
theorem lof_pos (s x : Int) (hx : 0 ≤ x) : lofOk s x = decide (0 < lof s x) := by
  unfold lof
  cases h : lofOk s x
  · simp
  · have : lbOk s = true := by unfold lofOk at h; simp at h; exact h.1.1
    have h2 : 257 ≤ s ∧ s ≤ 285 := by unfold lbOk at this; simpa using this
    have := ls_bd s h2.1 h2.2
    rw [if_pos rfl, decide_eq_true (by omega)]
theorem dof_pos (s x : Int) (hx : 0 ≤ x) : dofOk s x = decide (0 < dof s x) := by
  unfold dof
  cases h : dofOk s x
  · simp
  · have : dbOk s = true := by unfold dofOk at h; simp at h; exact h.1
    have h2 : 0 ≤ s ∧ s ≤ 29 := by unfold dbOk at this; simpa using this
    have := ds_bd s h2.1 h2.2
    rw [if_pos rfl, decide_eq_true (by omega)]

theorem bnx {a b c : World} (h : Below a.heap.size a b) (k : Below b.heap.size b c) : Below a.heap.size a c := h.trans (k.mono h.size)

set_option maxHeartbeats 4000000 in
set_option maxRecDepth 100000 in
theorem tells_core (n s x : Int) (hx : 0 ≤ x) (hx' : x < 4294967296) (w0 : World)
    (a b c : Int) (is : Bool) (X Y : Int) (dd ee ff : Int) (was : Bool) (p q : Int) (k m u v : Int)
    (h6 : ∀ w, Calls Try.prog 6 #[.int .i64 n] w fun e w' => e = .returned (.tuple #[.int .i64 a, .int .u32 b, .int .i64 c, .bool is]) ∧ Below w.heap.size w w')
    (h7 : ∀ w, Calls Try.prog 7 #[.int .i64 n] w fun e w' => e = .returned (.tuple #[.int .i64 X, .int .i64 Y]) ∧ Below w.heap.size w w')
    (h8 : ∀ w, Calls Try.prog 8 #[.int .i64 n] w fun e w' => e = .returned (.tuple #[.int .i64 dd, .int .u32 ee, .int .i64 ff, .bool was]) ∧ Below w.heap.size w w')
    (h9 : ∀ w, Calls Try.prog 9 #[.int .i64 n] w fun e w' => e = .returned (.tuple #[.int .i64 p, .int .i64 q]) ∧ Below w.heap.size w w')
    (hl : (is = true ∧ 0 ≤ X ∧ a = X ∧ b = Y ∧ 0 ≤ b ∧ b < 100000 ∧ rlb X = c) ∨ (is = false ∧ X = -1 ∧ a = 0 ∧ b = 0 ∧ c = 0))
    (hd : (was = true ∧ 0 ≤ p ∧ dd = p ∧ ee = q ∧ 0 ≤ ee ∧ ee < 100000 ∧ rdb p = ff) ∨ (was = false ∧ p = -1 ∧ dd = 0 ∧ ee = 0 ∧ ff = 0)) :
    Calls Try.prog 3 #[.int .i64 n, .int .i64 s, .int .u32 x] w0 fun e w' => e = .returned (.bool true) ∧ Below w0.heap.size w0 w' := by
  have e1 := lb_of s
  have e2 := db_of s
  have h12 := lengthBits s
  have h13 := distBits s
  have h14 := lengthOf s x hx hx'
  have h15 := distOf s x hx hx'
  rw [e1.1, e1.2] at h12
  rw [e2.1, e2.2] at h13
  rw [lof_pos s x hx] at h14
  rw [dof_pos s x hx] at h15
  have H6 := Lib.hid h6
  have H7 := Lib.hid h7
  have H8 := Lib.hid h8
  have H9 := Lib.hid h9
  have H12 := Lib.hid h12
  have H13 := Lib.hid h13
  have H14 := Lib.hid h14
  have H15 := Lib.hid h15
  clear h6 h7 h8 h9 h12 h13 h14 h15 e1 e2
  have hh : Hid (rlb X = c ∨ is = false) := by
    rcases hl with ⟨_, _, _, _, _, _, h⟩ | ⟨h, _⟩
    · exact Or.inl h
    · exact Or.inr h
  have hg : Hid (rdb p = ff ∨ was = false) := by
    rcases hd with ⟨_, _, _, _, _, _, h⟩ | ⟨h, _⟩
    · exact Or.inl h
    · exact Or.inr h
  have H10 : Hid (∀ w, is = true → Calls Try.prog 10 #[.int .i64 X] w fun e w' => e = .returned (.int .i64 c) ∧ w = w') := by
    intro w h
    rcases hh with hh | hh
    · rw [← hh]; exact refLB X w
    · rw [h] at hh; cases hh
  have H11 : Hid (∀ w, was = true → Calls Try.prog 11 #[.int .i64 p] w fun e w' => e = .returned (.int .i64 ff) ∧ w = w') := by
    intro w h
    rcases hg with hg | hg
    · rw [← hg]; exact refDB p w
    · rw [h] at hg; cases hg
  have hk : ∀ t, Hid (rlb t = rlb t) := fun t => rfl
  clear hh hg hk
  rcases hl with ⟨rfl, hX, rfl, rfl, hb0, hb1, hc⟩ | ⟨rfl, rfl, rfl, rfl, rfl⟩
  all_goals rcases hd with ⟨rfl, hp, rfl, rfl, he0, he1, hf⟩ | ⟨rfl, rfl, rfl, rfl, rfl⟩
  all_goals
    try clear hc
    try clear hf
    obtain ⟨k, hk⟩ : ∃ k, rlb s = k := ⟨_, rfl⟩
    obtain ⟨m, hm⟩ : ∃ m, rdb s = m := ⟨_, rfl⟩
    obtain ⟨u, hu⟩ : ∃ u, lof s x = u := ⟨_, rfl⟩
    obtain ⟨v, hv⟩ : ∃ v, dof s x = v := ⟨_, rfl⟩
    rw [hk] at H12
    rw [hm] at H13
    rw [hu] at H14
    rw [hv] at H15
    have K10 := refLB s
    have K11 := refDB s
    have K16 := refLengthOf s x hx hx'
    have K17 := refDistOf s x hx hx'
    rw [hk] at K10
    rw [hm] at K11
    rw [hu] at K16
    rw [hv] at K17
    have G10 := Lib.hid K10
    have G11 := Lib.hid K11
    have G16 := Lib.hid K16
    have G17 := Lib.hid K17
    clear K10 K11 K16 K17 hk hm hu hv
    go_enter Try.func3, Try.ntmps3
    go_wp2_with (first | (go_at_call 6; ((with_reducible refine (H6.out _).mono ?_); rintro e ww ⟨rfl, hb1⟩; have H1 := Lib.hid hb1; clear hb1)) | (go_at_call 7; ((with_reducible refine (H7.out _).mono ?_); rintro e ww ⟨rfl, hb2⟩; have H2 := Lib.hid hb2; clear hb2)) | (go_at_call 8; ((with_reducible refine (H8.out _).mono ?_); rintro e ww ⟨rfl, hb3⟩; have H3 := Lib.hid hb3; clear hb3)) | (go_at_call 9; ((with_reducible refine (H9.out _).mono ?_); rintro e ww ⟨rfl, hb4⟩; have H4 := Lib.hid hb4; clear hb4)) | (go_at_call 12; ((with_reducible refine (H12.out _).mono ?_); rintro e ww ⟨rfl, rfl⟩)) | (go_at_call 13; ((with_reducible refine (H13.out _).mono ?_); rintro e ww ⟨rfl, rfl⟩)) | (go_at_call 14; ((with_reducible refine (H14.out _).mono ?_); rintro e ww ⟨rfl, rfl⟩)) | (go_at_call 15; ((with_reducible refine (H15.out _).mono ?_); rintro e ww ⟨rfl, rfl⟩)) | (go_at_call 10; ((first | (with_reducible refine (G10.out _).mono ?_) | (with_reducible refine (H10.out _ trivial).mono ?_)); rintro e ww ⟨rfl, rfl⟩)) | (go_at_call 11; ((first | (with_reducible refine (G11.out _).mono ?_) | (with_reducible refine (H11.out _ trivial).mono ?_)); rintro e ww ⟨rfl, rfl⟩)) | (go_at_call 16; ((with_reducible refine (G16.out _).mono ?_); rintro e ww ⟨rfl, hb5⟩; have H5 := Lib.hid hb5; clear hb5)) | (go_at_call 17; ((with_reducible refine (G17.out _).mono ?_); rintro e ww ⟨rfl, hb6⟩; have H6' := Lib.hid hb6; clear hb6)) | (go_at_call 18; ((with_reducible refine (works _).mono ?_); rintro e ww ⟨rfl, hb7⟩; have H7' := Lib.hid hb7; clear hb7)))
    all_goals
      go_ret
      exact ⟨rfl, bnx (bnx (bnx (bnx (bnx (bnx H1.out H2.out) H3.out) H4.out) H5.out) H6'.out) H7'.out⟩


theorem tells (n s x : Int) (hx : 0 ≤ x) (hx' : x < 4294967296) (w : World) :
    Calls Try.prog 3 #[.int .i64 n, .int .i64 s, .int .u32 x] w fun e w' => e = .returned (.bool true) ∧ Below w.heap.size w w' := by
  by_cases hn : 3 ≤ n ∧ n ≤ 258
  · obtain ⟨a0, a1, a2, a3⟩ := lsym_at n hn.1
    obtain ⟨a4, a5⟩ := ls_bd _ a0 a1
    obtain ⟨b0, b1, b2, b3⟩ := dsym_at n (by omega)
    obtain ⟨b4, b5⟩ := ds_bd _ b0 b1
    exact tells_core n s x hx hx' w _ _ _ _ _ _ _ _ _ _ _ _ 0 0 0 0 (fun w => length_yes n w hn.1 hn.2) (fun w => refLength_yes n w hn.1 hn.2) (fun w => dist_yes n w (by omega) (by omega)) (fun w => refDist_yes n w (by omega) (by omega))
      (Or.inl ⟨rfl, by omega, rfl, rfl, by omega, by omega, if_neg (by omega)⟩) (Or.inl ⟨rfl, by omega, rfl, rfl, by omega, by omega, if_neg (by omega)⟩)
  · by_cases hd : 1 ≤ n ∧ n ≤ 32768
    · obtain ⟨b0, b1, b2, b3⟩ := dsym_at n hd.1
      obtain ⟨b4, b5⟩ := ds_bd _ b0 b1
      exact tells_core n s x hx hx' w _ _ _ _ _ _ _ _ _ _ _ _ 0 0 0 0 (fun w => length_no n w (by omega)) (fun w => refLength_no n w (by omega)) (fun w => dist_yes n w hd.1 hd.2) (fun w => refDist_yes n w hd.1 hd.2)
        (Or.inr ⟨rfl, rfl, rfl, rfl, rfl⟩) (Or.inl ⟨rfl, by omega, rfl, rfl, by omega, by omega, if_neg (by omega)⟩)
    · exact tells_core n s x hx hx' w _ _ _ _ _ _ _ _ _ _ _ _ 0 0 0 0 (fun w => length_no n w (by omega)) (fun w => refLength_no n w (by omega)) (fun w => dist_no n w (by omega)) (fun w => refDist_no n w (by omega))
        (Or.inr ⟨rfl, rfl, rfl, rfl, rfl⟩) (Or.inr ⟨rfl, rfl, rfl, rfl, rfl⟩)

end Go.Proofs.Ytfjkmjpbppomkaa.S
