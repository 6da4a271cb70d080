/- The latches' call Free, and what it calls. -/
import Derived.Test.YtmgbpndbnfemeaaGSl
import Derived.Test.YtmgbpndbnfemeaaL1
import Derived.Deep.LoopGhost
namespace Go.Proofs.Ytmgbpndbnfemeaa.L
open Go.ChangeShapes Go.WideShapes Go.ChangeAt Go.RowKit Go.Maps Go.Proofs.Ytmgbpndbnfemeaa.G
set_option linter.unusedVariables false
set_option linter.unusedSimpArgs false

/-- is a page somebody else's -/
def busy (l : Holds) (who page : Int) : Bool := match mget l page with | some (.int .i64 k) => k != who | _ => false

/-- the closure -/
theorem free_one (p wh : Int) (bl bm : Nat) (np : Int) (l : Holds) (a1 a2 : Addr) (w : World) (h : LatchAt w bl bm np l) (hl : Nums l) (hp : I64 p) (h1 : w.cell? a1 = some (.pointer (some ⟨bl, 0, none⟩))) (h2 : w.cell? a2 = some (.int .i64 wh)) :
    Calls Try.prog 23 #[.int .i64 p, .pointer (some a1), .pointer (some a2)] w fun e w' => e = .returned (.bool (busy l wh p)) ∧ w = w' := by
  have hw := who bl bm np p l w h hp
  rcases look_num hl p with LK | ⟨k, LK⟩
  · have HE := Lib.hid (show busy l wh p = false by unfold busy; rw [LK])
    rw [LK] at hw
    simp only [iv, Option.getD, Option.isSome] at hw
    generalize busy l wh p = E at *
    go_enter Try.func23, Try.ntmps23
    go_wp2_with (first | (go_at_call 13; ((with_reducible refine hw.mono ?_); rintro e ww ⟨rfl, rfl⟩)))
    go_ret
    exact ⟨by rw [HE.out]; rfl, rfl⟩
  · have HE := Lib.hid (show busy l wh p = (k != wh) by unfold busy; rw [LK]; rfl)
    rw [LK] at hw
    simp only [iv, Option.getD, Option.isSome] at hw
    generalize busy l wh p = E at *
    go_enter Try.func23, Try.ntmps23
    go_wp2_with (first | (go_at_call 13; ((with_reducible refine hw.mono ?_); rintro e ww ⟨rfl, rfl⟩)))
    go_ret
    exact ⟨by rw [HE.out]; rfl, rfl⟩

/-- the first that is so -/
theorem index_func (xs : List Int) (p : Int → Bool) (a : Option Addr) (len cap : Nat) (w : World) (a1 a2 : Addr) (hs : SlAt w a len (xs.map (Value.int .i64))) (hlen : len ≤ maxLen)
    (hf : ∀ x ∈ xs, Calls Try.prog 23 #[.int .i64 x, .pointer (some a1), .pointer (some a2)] w fun e w' => e = .returned (.bool (p x)) ∧ w = w') :
    Calls Try.prog 27 #[.slice a len cap, .func (.func 23) #[] #[.pointer (some a1), .pointer (some a2)]] w fun e w' => ∃ r : Int, e = .returned (.int .i64 r) ∧ w = w' ∧ decide (0 ≤ r) = xs.any p := by
  have hl : xs.length = len := by have := hs.len; simpa using this
  unfold maxLen at hlen
  go_enter Try.func27, Try.ntmps27
  go_wp2
  go_loop [8] (fun i => ∃ k : Nat, k ≤ len ∧ i = .int .i64 k ∧ (xs.take k).any p = false) (fun i => len - (intOf i).toNat)
  case atStart => exact ⟨0, Nat.zero_le _, rfl, rfl⟩
  case round =>
    obtain ⟨k, hk, rfl, hno⟩ := hrel
    have Hno := Lib.hid hno
    clear hno
    by_cases hlt : k < len
    · obtain ⟨b, off, ea, hc⟩ := hs.cells (by omega)
      subst ea
      have hck := hc k hlt
      have hkx : k < xs.length := by omega
      rw [List.getElem?_map, List.getElem?_eq_getElem hkx] at hck
      simp only [Option.map_some] at hck
      have hfk := hf xs[k] (List.getElem_mem hkx)
      have htk : Hid ((xs.take (k + 1)).any p = ((xs.take k).any p || p xs[k])) := by
        apply Lib.hid
        rw [List.take_succ_eq_append_getElem hkx, List.any_append]; simp
      have Hany : Hid (p xs[k] = true → xs.any p = true) := fun h => List.any_eq_true.2 ⟨xs[k], List.getElem_mem hkx, h⟩
      have HF := Lib.hid hf
      have HS := Lib.hid hs
      have HC := Lib.hid hc
      have HL := Lib.hid hl
      clear hf hs hc hl
      generalize xs[k] = x at *
      cases hpx : p x with
      | true =>
        have HA := Lib.hid (Hany.out hpx)
        rw [hpx] at hfk
        clear hpx htk Hany
        go_wp2_with (first | (go_at_call 23; ((with_reducible refine hfk.mono ?_); rintro e ww ⟨rfl, rfl⟩)))
        go_ret
        exact ⟨(k : Int), rfl, rfl, by rw [HA.out]; simp⟩
      | false =>
        rw [hpx] at hfk htk Hany
        clear hpx
        go_wp2_with (first | (go_at_call 23; ((with_reducible refine hfk.mono ?_); rintro e ww ⟨rfl, rfl⟩)))
        go_round
        case rel => exact ⟨k + 1, by omega, by go_num, by rw [htk.out, Hno.out]; rfl⟩
        case measure => simp [intOf]; omega
    · have hke : k = len := by omega
      subst hke
      have Hf := Lib.hid hf
      clear hf hlt
      go_wp2
      go_ret
      refine ⟨-1, rfl, rfl, ?_⟩
      have := Hno.out
      rw [List.take_of_length_le (by omega)] at this
      rw [this]; rfl


theorem contains_func (xs : List Int) (p : Int → Bool) (a : Option Addr) (len cap : Nat) (w : World) (a1 a2 : Addr) (hs : SlAt w a len (xs.map (Value.int .i64))) (hlen : len ≤ maxLen)
    (hf : ∀ x ∈ xs, Calls Try.prog 23 #[.int .i64 x, .pointer (some a1), .pointer (some a2)] w fun e w' => e = .returned (.bool (p x)) ∧ w = w') :
    Calls Try.prog 22 #[.slice a len cap, .func (.func 23) #[] #[.pointer (some a1), .pointer (some a2)]] w fun e w' => e = .returned (.bool (xs.any p)) ∧ w = w' := by
  have H := Lib.hid (index_func xs p a len cap w a1 a2 hs hlen hf)
  clear hf hs
  generalize xs.any p = B at *
  go_enter Try.func22, Try.ntmps22
  go_wp2_with (first | (go_at_call 27; ((with_reducible refine H.out.mono ?_); rintro e ww ⟨r, rfl, rfl, hr⟩; have HR := Lib.hid hr; clear hr)))
  go_ret
  exact ⟨by rw [← HR.out]; rfl, rfl⟩

/-- are all pages nobody's, or one's own -/
theorem free (xs : List Int) (a : Option Addr) (len cap : Nat) (bl bm : Nat) (np wh : Int) (l : Holds) (w : World) (h : LatchAt w bl bm np l) (hl : Nums l) (hs : SlAt w a len (xs.map (Value.int .i64))) (hlen : len ≤ maxLen) (hx : ∀ x ∈ xs, I64 x) :
    Calls Try.prog 17 #[.pointer (some ⟨bl, 0, none⟩), .int .i64 wh, .slice a len cap] w fun e w' => e = .returned (.bool (!(xs.any (busy l wh)))) ∧ Below w.heap.size w w' := by
  have t1 := (Turned.refl [] w).alloc (.cells #[.pointer (some ⟨bl, 0, none⟩)] 25)
  have t2 := t1.alloc (.cells #[.int .i64 wh] 3)
  have h2 := h.turned t2 (by simp) (by simp)
  have hs2 := hs.turned t2 (fun _ _ => by simp)
  have c1 : ((w.alloc (.cells #[.pointer (some ⟨bl, 0, none⟩)] 25)).alloc (.cells #[.int .i64 wh] 3)).cell? ⟨w.heap.size, 0, none⟩ = some (.pointer (some ⟨bl, 0, none⟩)) := by
    have := cell_new1 w (.pointer (some ⟨bl, 0, none⟩)) 25 0 _ rfl
    exact ((Turned.refl [] _).alloc _).cell this (by simp)
  have c2 : ((w.alloc (.cells #[.pointer (some ⟨bl, 0, none⟩)] 25)).alloc (.cells #[.int .i64 wh] 3)).cell? ⟨w.heap.size + 1, 0, none⟩ = some (.int .i64 wh) := by
    exact cell_new0 _ _ _ _ (by simp)
  have H := Lib.hid (contains_func xs (busy l wh) a len cap _ _ _ hs2 hlen (fun x hxm => free_one x wh bl bm np l _ _ _ h2 hl (hx x hxm) c1 c2))
  have HB := Lib.hid t2.below
  clear hs hs2 h h2 c1 c2 t1 t2 hx
  generalize xs.any (busy l wh) = B at *
  go_enter Try.func17, Try.ntmps17
  go_wp2_with (first | (go_at_call 22; ((with_reducible refine H.out.mono ?_); rintro e ww ⟨rfl, rfl⟩)))
  go_ret
  exact ⟨rfl, HB.out⟩

theorem free_nil (page wh : Int) (a : Option Addr) (cap : Nat) (w : World) (hs : SlAt w a 1 [.int .i64 page]) :
    Calls Try.prog 17 #[.pointer none, .int .i64 wh, .slice a 1 cap] w fun e w' => e = .returned (.bool true) ∧ Below w.heap.size w w' := by
  have t2 := ((Turned.refl [] w).alloc (.cells #[.pointer none] 25)).alloc (.cells #[.int .i64 wh] 3)
  have hs2 := hs.turned t2 (fun _ _ => by simp)
  have c1 : ((w.alloc (.cells #[.pointer none] 25)).alloc (.cells #[.int .i64 wh] 3)).cell? ⟨w.heap.size, 0, none⟩ = some (.pointer none) := by
    have := cell_new1 w (.pointer none) 25 0 _ rfl
    exact ((Turned.refl [] _).alloc _).cell this (by simp)
  have H := Lib.hid (contains_func [page] (fun _ => false) a 1 cap _ ⟨w.heap.size, 0, none⟩ ⟨w.heap.size + 1, 0, none⟩ hs2 (by unfold maxLen; omega) (fun x hxm => by
    go_enter Try.func23, Try.ntmps23
    go_wp2_with (first | (go_at_call 13; ((with_reducible refine (who_nil _ _).mono ?_); rintro e ww ⟨rfl, rfl⟩)))
    go_ret
    exact ⟨rfl, rfl⟩))
  have HB := Lib.hid t2.below
  clear hs hs2 c1 t2
  go_enter Try.func17, Try.ntmps17
  go_wp2_with (first | (go_at_call 22; ((with_reducible refine H.out.mono ?_); rintro e ww ⟨rfl, rfl⟩)))
  go_ret
  exact ⟨rfl, HB.out⟩

end Go.Proofs.Ytmgbpndbnfemeaa.L
