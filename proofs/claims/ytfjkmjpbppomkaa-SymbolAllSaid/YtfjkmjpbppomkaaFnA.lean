/- All lengths, and all distances, together, are just what all symbols tell: the walk. -/
import Derived.Test.YtfjkmjpbppomkaaFn8
import Derived.Deep.LoopGhost
namespace Go.Proofs.Ytfjkmjpbppomkaa.S
open Go.ChangeShapes Go.WideShapes Go.ChangeAt Go.RowKit
set_option linter.unusedVariables false
set_option linter.unusedSimpArgs false

/-- how many lengths, distances, the symbols ahead tell -/
def upL (s : Int) : Int := if s ≤ 257 then 0 else if s ≤ 285 then ls s - 3 else 256
def upD (s : Int) : Int := if s ≤ 0 then 0 else if s ≤ 29 then ds s - 1 else 32768
/-- how many of a symbol's numbers besides, up to one, tell a length -/
def inL (s e : Int) : Int := if s = 284 ∧ e = 32 then 31 else e

theorem upL_step (s : Int) (h0 : 257 ≤ s) (h1 : s ≤ 285) : upL s = ls s - 3 ∧ upL (s + 1) = ls s - 3 + inL s (2 ^ (lb s).toNat) := by
  have a : upL s = ls s - 3 := by
    unfold upL
    by_cases e : s ≤ 257
    · rw [if_pos e]
      obtain rfl : s = 257 := by omega
      decide
    · rw [if_neg e, if_pos h1]
  refine ⟨a, ?_⟩
  unfold upL inL
  rw [if_neg (by omega)]
  by_cases e : s < 285
  · obtain ⟨e1, e2, e3, e4⟩ := ls_step s h0 e
    rw [if_pos (by omega)]
    by_cases q : s < 284
    · rw [e1 q, if_neg (by omega)]; omega
    · have q' : s = 284 := by omega
      rw [e2 q', if_pos ⟨q', by rw [q']; decide⟩]; omega
  · obtain rfl : s = 285 := by omega
    decide
theorem upD_step (s : Int) (h0 : 0 ≤ s) (h1 : s ≤ 29) : upD s = ds s - 1 ∧ upD (s + 1) = ds s - 1 + 2 ^ (db s).toNat := by
  have a : upD s = ds s - 1 := by
    unfold upD
    by_cases e : s ≤ 0
    · rw [if_pos e]
      obtain rfl : s = 0 := by omega
      decide
    · rw [if_neg e, if_pos h1]
  refine ⟨a, ?_⟩
  unfold upD
  rw [if_neg (by omega)]
  by_cases e : s < 29
  · obtain ⟨e1, e3, e4⟩ := ds_step s h0 e
    rw [if_pos (by omega), e1]; omega
  · obtain rfl : s = 29 := by omega
    decide
theorem up_no (s : Int) (h : s < 257 ∨ 285 < s) : upL (s + 1) = upL s := by
  unfold upL
  rcases h with h | h
  · rw [if_pos (by omega), if_pos (by omega)]
  · rw [if_neg (by omega), if_neg (by omega), if_neg (by omega), if_neg (by omega)]
theorem upd_no (s : Int) (h : s < 0 ∨ 29 < s) : upD (s + 1) = upD s := by
  unfold upD
  rcases h with h | h
  · rw [if_pos (by omega), if_pos (by omega)]
  · rw [if_neg (by omega), if_neg (by omega), if_neg (by omega), if_neg (by omega)]
theorem upL_bd (s : Int) : 0 ≤ upL s ∧ upL s ≤ 256 := by
  unfold upL
  split
  · omega
  · split
    · have := ls_bd s (by omega) (by omega); omega
    · omega
theorem upD_bd (s : Int) : 0 ≤ upD s ∧ upD s ≤ 32768 := by
  unfold upD
  split
  · omega
  · split
    · have := ds_bd s (by omega) (by omega); omega
    · omega

theorem wrap32_pow (k : Nat) (h : k < 21) : IntKind.u32.wrap (2 ^ k) = 2 ^ k := by
  have : ∀ k : Fin 21, IntKind.u32.wrap (2 ^ k.val) = 2 ^ k.val := by decide
  exact this ⟨k, h⟩

/-- a symbol's number besides, one by one -/
theorem lof_each (s e : Int) (h0 : 257 ≤ s) (h1 : s ≤ 285) (he : 0 ≤ e) (he' : e < 2 ^ (lb s).toNat) :
    (lofOk s e = true ∧ lof s e = ls s + e ∧ inL s e = e ∧ inL s (e + 1) = e + 1) ∨ (lofOk s e = false ∧ inL s (e + 1) = inL s e) := by
  have ok : lbOk s = true := decide_eq_true ⟨h0, h1⟩
  by_cases q : s = 284 ∧ e = 31
  · right
    obtain ⟨rfl, rfl⟩ := q
    decide
  · left
    have : lofOk s e = true := by
      unfold lofOk
      rw [ok, decide_eq_true he']
      simp only [Bool.true_and, Bool.not_eq_true', Bool.and_eq_false_iff, decide_eq_false_iff_not]
      omega
    refine ⟨this, by unfold lof; rw [this, if_pos rfl], ?_, ?_⟩
    · unfold inL
      by_cases r : s = 284 ∧ e = 32
      · exfalso
        obtain ⟨rfl, rfl⟩ := r
        revert he'; decide
      · rw [if_neg r]
    · unfold inL
      rw [if_neg (by omega)]
theorem dof_each (s e : Int) (h0 : 0 ≤ s) (h1 : s ≤ 29) (he' : e < 2 ^ (db s).toNat) : dofOk s e = true ∧ dof s e = ds s + e := by
  have : dofOk s e = true := by
    unfold dofOk
    rw [show dbOk s = true from decide_eq_true ⟨h0, h1⟩, decide_eq_true he']
    rfl
  exact ⟨this, by unfold dof; rw [this, if_pos rfl]⟩
theorem lof_beyond (s x : Int) (hx : 2 ^ (lb s).toNat ≤ x) : lofOk s x = false := by
  unfold lofOk
  rw [decide_eq_false (by omega)]
  simp

theorem db_14 (c : Int) (h0 : 0 ≤ c) (h1 : c ≤ 13) : c = 0 ∨ c = 1 ∨ c = 2 ∨ c = 3 ∨ c = 4 ∨ c = 5 ∨ c = 6 ∨ c = 7 ∨ c = 8 ∨ c = 9 ∨ c = 10 ∨ c = 11 ∨ c = 12 ∨ c = 13 := by omega
theorem lb_six (c : Int) (h0 : 0 ≤ c) (h1 : c ≤ 5) : c = 0 ∨ c = 1 ∨ c = 2 ∨ c = 3 ∨ c = 4 ∨ c = 5 := by omega

set_option maxHeartbeats 4000000 in
set_option maxRecDepth 100000 in
theorem all_core (x : Int) (hx : 0 ≤ x) (hx' : x < 4294967296) (w : World) :
    Calls Try.prog 5 #[.int .u32 x] w fun e w' => e = .returned (.bool true) ∧ Below w.heap.size w w' := by
  go_enter Try.func5, Try.ntmps5
  go_upto_block 0 with fail
  go_cut [3] (fun n wc => n = .int .i64 256 ∧ wc = w)
  case first =>
    go_wp2_with fail
    go_loop [3, 4] (fun n s => ∃ k : Int, 0 ≤ k ∧ k ≤ 400 ∧ s = .int .i64 k ∧ n = .int .i64 (upL k)) (fun _ s => (400 - intOf s).toNat)
    case atStart => exact ⟨0, by omega, by omega, rfl, rfl⟩
    case round =>
      obtain ⟨s, hs0, hs1, rfl, rfl⟩ := hrel
      by_cases hlt : s < 400
      · by_cases hv : 257 ≤ s ∧ s ≤ 285
        · obtain ⟨h0, h1⟩ := hv
          have hL := lengthBits s
          rw [show lbOk s = true from decide_eq_true ⟨h0, h1⟩] at hL
          have hu := upL_step s h0 h1
          have hbd := upL_bd s
          have hb5 : 0 ≤ lb s ∧ lb s ≤ 5 := by have := lb_cases s; omega
          obtain ⟨L, hL0⟩ : ∃ L, upL s = L := ⟨_, rfl⟩
          have HU := Lib.hid hu
          have HLL := Lib.hid hL0
          have HS := Lib.hid hL
          rw [hL0] at hbd
          rw [hL0]
          clear hu hL0 hL
          obtain ⟨b0, b5⟩ := hb5
          go_upto_block 2 with (first | (go_at_call 12; ((with_reducible refine (HS.out _).mono ?_); rintro e ww ⟨rfl, rfl⟩)))
          go_cut [3] (fun n wc => n = .int .i64 (upL (s + 1)) ∧ wc = w)
          case first =>
            go_wp2_with fail
            go_loop [3, 7] (fun n e => ∃ k : Int, 0 ≤ k ∧ k ≤ 2 ^ (lb s).toNat ∧ e = .int .u32 k ∧ n = .int .i64 (ls s - 3 + inL s k)) (fun _ e => ((2 : Int) ^ (lb s).toNat - intOf e).toNat)
            case atStart => exact ⟨0, by omega, by have : 0 < (2 : Int) ^ (lb s).toNat := Int.pow_pos (by decide); omega, rfl, by rw [← HLL.out, HU.out.1, show inL s 0 = 0 from if_neg (by omega), Int.add_zero]⟩
            case round =>
              obtain ⟨k, hk0, hk1, rfl, rfl⟩ := hrel
              have h32 : (2 : Int) ^ (lb s).toNat ≤ 32 := by rcases lb_six (lb s) b0 b5 with e | e | e | e | e | e <;> rw [e] <;> decide
              have hw : (2 : Int) ^ (lb s).toNat % 4294967296 = 2 ^ (lb s).toNat := by have : 0 < (2 : Int) ^ (lb s).toNat := Int.pow_pos (by decide); omega
              by_cases hlt' : k < 2 ^ (lb s).toNat % 4294967296
              · have hk2 : k < 2 ^ (lb s).toNat := by rw [hw] at hlt'; exact hlt'
                have hb := ls_bd s h0 h1
                have h14 := lengthOf s k hk0 (by omega)
                have HW := Lib.hid hw
                have H32 := Lib.hid h32
                have HK2 := Lib.hid hk2
                have HK1 := Lib.hid hk1
                have hkb : k < 32 := by omega
                rcases lof_each s k h0 h1 hk0 hk2 with ⟨e1, e2, e3, e4⟩ | ⟨e1, e2⟩
                · rw [e1, e2] at h14
                  rw [e3]
                  have E4 := Lib.hid e4
                  clear e1 e2 e3 e4 hw h32 hk2 hk1
                  obtain ⟨M, hM⟩ : ∃ M, ls s = M := ⟨_, rfl⟩
                  have HM := Lib.hid hM
                  rw [hM] at h14 hb
                  rw [hM]
                  clear hM
                  go_wp2_with (first | (go_at_call 14; ((with_reducible refine (h14 _).mono ?_); rintro e ww ⟨rfl, rfl⟩)))
                  go_round
                  case rel => exact ⟨k + 1, by omega, by have := HK2.out; omega, by go_num, by rw [E4.out]; go_num⟩
                  case measure => simp [intOf]; have := HK2.out; omega
                · rw [e1] at h14
                  have E2 := Lib.hid e2
                  clear e1 e2 hw h32 hk2 hk1
                  go_wp2_with (first | (go_at_call 14; ((with_reducible refine (h14 _).mono ?_); rintro e ww ⟨rfl, rfl⟩)))
                  go_round
                  case rel => exact ⟨k + 1, by omega, by have := HK2.out; omega, by go_num, by rw [E2.out]⟩
                  case measure => simp [intOf]; have := HK2.out; omega
              · have he : k = 2 ^ (lb s).toNat := by rw [hw] at hlt'; omega
                have HE := Lib.hid he
                clear he hw h32 hk1
                go_wp2
                go_meet
                exact ⟨by rw [HU.out.2, HE.out], rfl⟩
          case rest =>
            obtain ⟨rfl, rfl⟩ := hcut
            have h32 : (2 : Int) ^ (lb s).toNat ≤ 32 := by rcases lb_six (lb s) b0 b5 with e | e | e | e | e | e <;> rw [e] <;> decide
            have hp : 0 < (2 : Int) ^ (lb s).toNat := Int.pow_pos (by decide)
            have h14 := lengthOf s ((2 ^ (lb s).toNat + x % 1000) % 4294967296) (by omega) (by omega)
            rw [lof_beyond s _ (by omega)] at h14
            clear h32 hp
            go_wp2_with (first | (go_at_call 14; ((with_reducible refine (h14 _).mono ?_); rintro e ww ⟨rfl, rfl⟩)))
            go_round
            case rel => exact ⟨s + 1, by omega, by omega, rfl, rfl⟩
            case measure => simp [intOf]; omega
        · have hL := lengthBits s
          rw [show lbOk s = false from decide_eq_false hv] at hL
          have HU := Lib.hid (up_no s (by omega))
          have hbd := upL_bd s
          obtain ⟨L, hL0⟩ : ∃ L, upL s = L := ⟨_, rfl⟩
          have HLL := Lib.hid hL0
          rw [hL0] at hbd
          rw [hL0]
          clear hL0 hv
          go_wp2_with (first | (go_at_call 12; ((with_reducible refine (hL _).mono ?_); rintro e ww ⟨rfl, rfl⟩)))
          go_round
          case rel => exact ⟨s + 1, by omega, by omega, rfl, by rw [HU.out, HLL.out]⟩
          case measure => simp [intOf]; omega
      · obtain rfl : s = 400 := by omega
        go_wp2
        go_meet
        exact ⟨by rw [show upL 400 = 256 by decide], rfl⟩
  case rest =>
    obtain ⟨rfl, rfl⟩ := hcut
    go_upto_block 4 with fail
    go_cut [12] (fun n wd => n = .int .i64 32768 ∧ wd = wc)
    case first =>
      go_wp2_with fail
      go_loop [12, 13] (fun n s => ∃ k : Int, 0 ≤ k ∧ k ≤ 40 ∧ s = .int .i64 k ∧ n = .int .i64 (upD k)) (fun _ s => (40 - intOf s).toNat)
      case atStart => exact ⟨0, by omega, by omega, rfl, rfl⟩
      case round =>
        obtain ⟨s, hs0, hs1, rfl, rfl⟩ := hrel
        by_cases hlt : s < 40
        · by_cases hv : 0 ≤ s ∧ s ≤ 29
          · obtain ⟨h0, h1⟩ := hv
            have hL := distBits s
            rw [show dbOk s = true from decide_eq_true ⟨h0, h1⟩] at hL
            have hu := upD_step s h0 h1
            have hbd := upD_bd s
            have hb5 : 0 ≤ db s ∧ db s ≤ 13 := by have := db_cases s; omega
            obtain ⟨L, hL0⟩ : ∃ L, upD s = L := ⟨_, rfl⟩
            have HU := Lib.hid hu
            have HLL := Lib.hid hL0
            have HS := Lib.hid hL
            rw [hL0] at hbd
            rw [hL0]
            clear hu hL0 hL
            obtain ⟨b0, b5⟩ := hb5
            go_wp2_with (first | (go_at_call 13; ((with_reducible refine (HS.out _).mono ?_); rintro e ww ⟨rfl, rfl⟩)))
            go_loop [12, 16] (fun n e => ∃ k : Int, 0 ≤ k ∧ k ≤ 2 ^ (db s).toNat ∧ e = .int .u32 k ∧ n = .int .i64 (ds s - 1 + k)) (fun _ e => ((2 : Int) ^ (db s).toNat - intOf e).toNat)
            case atStart => exact ⟨0, by omega, by have : 0 < (2 : Int) ^ (db s).toNat := Int.pow_pos (by decide); omega, rfl, by rw [← HLL.out, HU.out.1, Int.add_zero]⟩
            case round =>
              obtain ⟨k, hk0, hk1, rfl, rfl⟩ := hrel
              have h32 : (2 : Int) ^ (db s).toNat ≤ 8192 := by rcases db_14 (db s) b0 b5 with e | e | e | e | e | e | e | e | e | e | e | e | e | e <;> rw [e] <;> decide
              have hw : (2 : Int) ^ (db s).toNat % 4294967296 = 2 ^ (db s).toNat := by have : 0 < (2 : Int) ^ (db s).toNat := Int.pow_pos (by decide); omega
              by_cases hlt' : k < 2 ^ (db s).toNat % 4294967296
              · have hk2 : k < 2 ^ (db s).toNat := by rw [hw] at hlt'; exact hlt'
                have hb := ds_bd s h0 h1
                have h14 := distOf s k hk0 (by omega)
                have HK2 := Lib.hid hk2
                have hkb : k < 8192 := by omega
                obtain ⟨e1, e2⟩ := dof_each s k h0 h1 hk2
                rw [e1, e2] at h14
                clear e1 e2 hw h32 hk2 hk1
                obtain ⟨M, hM⟩ : ∃ M, ds s = M := ⟨_, rfl⟩
                rw [hM] at h14 hb
                rw [hM]
                clear hM
                go_wp2_with (first | (go_at_call 15; ((with_reducible refine (h14 _).mono ?_); rintro e ww ⟨rfl, rfl⟩)))
                go_round
                case rel => exact ⟨k + 1, by omega, by have := HK2.out; omega, by go_num, by go_num⟩
                case measure => simp [intOf]; have := HK2.out; omega
              · have he : k = 2 ^ (db s).toNat := by rw [hw] at hlt'; omega
                have HE := Lib.hid he
                clear he hw h32 hk1
                go_wp2
                go_round
                case rel => exact ⟨s + 1, by omega, by omega, rfl, by rw [HU.out.2, HE.out]⟩
                case measure => simp [intOf]; omega
          · have hL := distBits s
            rw [show dbOk s = false from decide_eq_false hv] at hL
            have HU := Lib.hid (upd_no s (by omega))
            have hbd := upD_bd s
            obtain ⟨L, hL0⟩ : ∃ L, upD s = L := ⟨_, rfl⟩
            have HLL := Lib.hid hL0
            rw [hL0] at hbd
            rw [hL0]
            clear hL0 hv
            go_wp2_with (first | (go_at_call 13; ((with_reducible refine (hL _).mono ?_); rintro e ww ⟨rfl, rfl⟩)))
            go_round
            case rel => exact ⟨s + 1, by omega, by omega, rfl, by rw [HU.out, HLL.out]⟩
            case measure => simp [intOf]; omega
        · obtain rfl : s = 40 := by omega
          go_wp2
          go_meet
          exact ⟨by rw [show upD 40 = 32768 by decide], rfl⟩
    case rest =>
      obtain ⟨rfl, rfl⟩ := hcut
      go_wp2_with (first | (go_at_call 18; ((with_reducible refine (works _).mono ?_); rintro e ww ⟨rfl, hb5⟩; have B5 := Lib.hid hb5; clear hb5)))
      go_ret
      exact ⟨rfl, B5.out⟩

end Go.Proofs.Ytfjkmjpbppomkaa.S
