/- Slots: new ones; how many extents; of which class. -/
import Derived.Test.YtaikapgpkkpdjaaDoorSB
namespace Go.Proofs.YtaikapgpkkpdjaaDoor.L
open Go.ChangeShapes Go.WideShapes Go.ChangeAt Go.RowKit Go.Maps Go.Proofs.YtaikapgpkkpdjaaDoor.G
set_option linter.unusedVariables false
set_option linter.unusedSimpArgs false

theorem extents (bs be bm n : Nat) (pg : Int) (ex : Exts) (l : States) (w : World) (h : SlotsAt w bs be bm n pg ex l) :
    Calls Tryd.prog 11 #[.pointer (some ⟨bs, 0, none⟩)] w fun e w' => e = .returned (.int .i64 n) ∧ w = w' := by
  have hc := h.exts
  go_enter Tryd.func11, Tryd.ntmps11
  go_wp2
  go_ret
  exact ⟨rfl, rfl⟩
theorem extents_nil (w : World) : Calls Tryd.prog 11 #[.pointer none] w fun e w' => e = .returned (.int .i64 0) ∧ w = w' := by
  go_enter Tryd.func11, Tryd.ntmps11
  go_wp2
  go_ret
  exact ⟨rfl, rfl⟩

/-- of which class an extent is -/
def classX (n : Nat) (ex : Exts) (i : Int) : Int := if i < 0 ∨ (n : Int) ≤ i then -1 else (ex i.toNat).1 - 1
theorem class_ (bs be bm n : Nat) (pg : Int) (ex : Exts) (l : States) (i : Int) (w : World) (h : SlotsAt w bs be bm n pg ex l) :
    Calls Tryd.prog 13 #[.pointer (some ⟨bs, 0, none⟩), .int .i64 i] w fun e w' => e = .returned (.int .i64 (classX n ex i)) ∧ w = w' := by
  have CE := Lib.hid (extents bs be bm n pg ex l w h)
  have hc := h.exts
  have hn := h.rows.few
  by_cases h0 : i < 0
  · rw [show classX n ex i = -1 from if_pos (.inl h0)]
    clear h
    go_enter Tryd.func13, Tryd.ntmps13
    go_wp2
    go_ret
    exact ⟨rfl, rfl⟩
  · by_cases h1 : (n : Int) ≤ i
    · rw [show classX n ex i = -1 from if_pos (.inr h1)]
      clear h
      go_enter Tryd.func13, Tryd.ntmps13
      go_wp2_with (go_at_call 11; ((with_reducible refine CE.out.mono ?_); rintro e ww ⟨rfl, rfl⟩))
      go_ret
      exact ⟨rfl, rfl⟩
    · obtain ⟨k, rfl⟩ : ∃ k : Nat, i = k := ⟨i.toNat, by omega⟩
      rw [show classX n ex k = (ex k).1 - 1 by unfold classX; rw [if_neg (by omega)]; simp]
      have hk : k < n := by omega
      have hx := h.rows.c0 k hk
      have hf := (h.rows.fit k hk).1
      generalize (ex k).1 = c at *
      clear h
      go_enter Tryd.func13, Tryd.ntmps13
      go_wp2_with (go_at_call 11; ((with_reducible refine CE.out.mono ?_); rintro e ww ⟨rfl, rfl⟩))
      go_ret
      exact ⟨rfl, rfl⟩
theorem class_nil (i : Int) (w : World) : Calls Tryd.prog 13 #[.pointer none, .int .i64 i] w fun e w' => e = .returned (.int .i64 (-1)) ∧ w = w' := by
  have CE := Lib.hid (extents_nil w)
  by_cases h0 : i < 0
  · go_enter Tryd.func13, Tryd.ntmps13
    go_wp2
    go_ret
    exact ⟨rfl, rfl⟩
  · go_enter Tryd.func13, Tryd.ntmps13
    go_wp2_with (go_at_call 11; ((with_reducible refine CE.out.mono ?_); rintro e ww ⟨rfl, rfl⟩))
    go_ret
    exact ⟨rfl, rfl⟩

theorem new_bad (sz pg : Int) (hb : isPage pg = false ∨ sz < 0 ∨ 16777216 < sz) (w : World) : Calls Tryd.prog 9 #[.int .i64 sz, .int .i64 pg] w fun e w' => e = .returned (.tuple #[.pointer none, .int .i64 2]) ∧ w = w' := by
  obtain ⟨b, hp⟩ : ∃ b, isPage pg = b := ⟨_, rfl⟩
  have CP := Lib.hid (page pg)
  rw [hp] at CP hb
  clear hp
  cases b with
  | false =>
    clear hb
    go_enter Tryd.func9, Tryd.ntmps9
    go_wp2_with (go_at_call 27; ((with_reducible refine (CP.out _).mono ?_); rintro e ww ⟨rfl, rfl⟩))
    go_ret2
    exact ⟨rfl, rfl⟩
  | true =>
    by_cases h0 : sz < 0
    · clear hb
      go_enter Tryd.func9, Tryd.ntmps9
      go_wp2_with (go_at_call 27; ((with_reducible refine (CP.out _).mono ?_); rintro e ww ⟨rfl, rfl⟩))
      go_ret2
      exact ⟨rfl, rfl⟩
    · have h1 : 16777216 < sz := by simp at hb; omega
      clear hb
      go_enter Tryd.func9, Tryd.ntmps9
      go_wp2_with (go_at_call 27; ((with_reducible refine (CP.out _).mono ?_); rintro e ww ⟨rfl, rfl⟩))
      go_ret2
      exact ⟨rfl, rfl⟩
end Go.Proofs.YtaikapgpkkpdjaaDoor.L
