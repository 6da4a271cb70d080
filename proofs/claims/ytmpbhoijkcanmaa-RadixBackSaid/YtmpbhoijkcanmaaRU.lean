/- Radix: the keys of a map of slots, sorted. -/
import Derived.Test.YtmpbhoijkcanmaaRT
namespace Go.Proofs.Ytmpbhoijkcanmaa.R
open Go.ChangeShapes Go.WideShapes Go.ChangeAt Go.RowKit Go.Maps Go.Proofs.Ytmpbhoijkcanmaa.G Go.Sort Go.Shelf Go.Lib
set_option linter.unusedVariables false
set_option linter.unusedSimpArgs false
set_option linter.unnecessarySimpa false

/-- what is answered: the keys of a map, sorted -/
def sortedPost (L : List (Slot × Value)) (w : World) (e : Ending) (w' : World) : Prop := ∃ (v : Value) (ys : List Slot), e = .returned v ∧ ys.Perm (L.map (·.1)) ∧ ys.Pairwise leS ∧ w'.ownsRow w.heap.size 31 3 v ys.length (flat ys) ∧ Below w.heap.size w w'

theorem keysFB (b : Nat) (w : World) : Calls Try.prog 57 #[.map (some b)] w fun e w' => e = .returned (.func (.func 69) #[] #[.pointer (some ⟨w.heap.size, 0, none⟩)]) ∧ w.alloc (.cells #[.map (some b)] 74) = w' := by
  go_enter Try.func57, Try.ntmps57
  go_wp2
  go_ret
  exact ⟨rfl, rfl⟩

set_option maxRecDepth 100000 in
theorem sortedB (b : Nat) (L : List (Slot × Value)) (hL : L.length < 2 ^ 40) (w : World) (h : MapIs Try.prog 31 encS w b L) :
    Calls Try.prog 46 #[.map (some b)] w (sortedPost L w) := by
  have tA := (Turned.refl [] w).alloc (.cells #[.map (some b)] 74)
  have hseq : SeqGives Fence.wide 2 Try.prog 69 #[.pointer (some ⟨w.heap.size, 0, none⟩)] encS (fun ss => ss.Perm (L.map (·.1))) L.length (w.alloc (.cells #[.map (some b)] 74)) :=
    keys_givesB Fence.wide _ trivial rfl (by omega) w.heap.size b L _ (by simp) (by simp) (h.turned tA (by simp))
  have cC := collect_in Fence.wide 4 trivial trivial rfl (by omega) 69 #[.pointer (some ⟨w.heap.size, 0, none⟩)] trivial (enters_of Try.func69 (by kernel_rfl) rfl) _ _ (by unfold maxLen; omega) (by omega) _ hseq
  have cC := Lib.hid ((callsIn_wide (n := 4)).1 cC)
  have HF : Hid (∀ (w1 : World) (v : Value) (ss : List Slot), ss.Perm (L.map (·.1)) → w1.ownsRow (w.alloc (.cells #[.map (some b)] 74)).heap.size 31 3 v ss.length (flat ss) → Below (w.alloc (.cells #[.map (some b)] 74)).heap.size (w.alloc (.cells #[.map (some b)] 74)) w1 →
      Calls Try.prog 68 #[v, .func (.func 58) #[] #[]] w1 fun e w2 => e = .returned (.tuple #[]) ∧ sortedPost L w (.returned v) w2) := fun w1 v ss hp ho hb => by
    have hl : ss.length = L.length := by have := hp.length_eq; simpa using this
    refine (sort_ownsB ho (by omega)).mono fun e w2 ⟨e1, ys, y1, y2, y3, y4, y5⟩ => ⟨e1, v, ys, rfl, y1.trans hp, y2, ?_, ?_⟩
    · rw [y1.length_eq]
      refine ⟨y3.1, y3.2.imp id ?_⟩
      rintro ⟨g, cap, cur, a1, a2, a3⟩
      exact ⟨g, cap, cur, a1, by simp at a2; omega, a3⟩
    · have hb' : Below w.heap.size w w1 := by
        have := (Turned.of_below hb)
        exact (tA.trans (this.mono (fun _ _ h => by cases h))).below
      exact Turned.below_of hb' y4 (fun i hi => by have := y5 i hi; simp at this; omega)
  clear h hL tA hseq
  have CF : Hid (Calls Try.prog 56 #[.func (.func 69) #[] #[.pointer (some ⟨w.heap.size, 0, none⟩)], .func (.func 58) #[] #[]] (w.alloc (.cells #[.map (some b)] 74)) (sortedPost L w)) := by
    show Calls Try.prog 56 #[.func (.func 69) #[] #[.pointer (some ⟨w.heap.size, 0, none⟩)], .func (.func 58) #[] #[]] (w.alloc (.cells #[.map (some b)] 74)) (sortedPost L w)
    generalize w.alloc (.cells #[.map (some b)] 74) = wA at *
    obtain ⟨B, hB⟩ : ∃ B, w.heap.size = B := ⟨_, rfl⟩
    rw [hB] at cC ⊢
    clear hB
    go_enter Try.func56, Try.ntmps56
    go_wp2_with (first
      | (go_at_call 67; ((with_reducible refine cC.out.mono ?_); rintro e w1 ⟨v, ss, rfl, hS, hrow, hnil, hb⟩; have CS := Lib.hid (HF.out w1 v ss hS hrow hb); clear hS hrow hnil hb))
      | (go_at_call 68; ((with_reducible refine CS.out.mono ?_); rintro e w2 ⟨rfl, hp⟩; have HP := Lib.hid hp; clear hp)))
    go_ret
    exact HP.out
  have CK := Lib.hid (keysFB b w)
  generalize w.alloc (.cells #[.map (some b)] 74) = wA at *
  obtain ⟨B, hB⟩ : ∃ B, w.heap.size = B := ⟨_, rfl⟩
  rw [hB] at CF CK
  clear hB cC HF
  go_enter Try.func46, Try.ntmps46
  go_wp2_with (first
    | (go_at_call 57; ((with_reducible refine CK.out.mono ?_); rintro e w1 ⟨rfl, rfl⟩))
    | (go_at_call 56; ((with_reducible refine CF.out.mono ?_); rintro e w2 hp; obtain ⟨v, ys, rfl, hr⟩ := hp; have HR := Lib.hid hr; clear hr)))
  go_ret
  exact ⟨v, ys, rfl, HR.out⟩

theorem keysFI (b : Nat) (w : World) : Calls Try.prog 61 #[.map (some b)] w fun e w' => e = .returned (.func (.func 71) #[] #[.pointer (some ⟨w.heap.size, 0, none⟩)]) ∧ w.alloc (.cells #[.map (some b)] 88) = w' := by
  go_enter Try.func61, Try.ntmps61
  go_wp2
  go_ret
  exact ⟨rfl, rfl⟩

set_option maxRecDepth 100000 in
theorem sortedI (b : Nat) (L : List (Slot × Value)) (hL : L.length < 2 ^ 40) (w : World) (h : MapIs Try.prog 31 encS w b L) :
    Calls Try.prog 47 #[.map (some b)] w (sortedPost L w) := by
  have tA := (Turned.refl [] w).alloc (.cells #[.map (some b)] 88)
  have hseq : SeqGives Fence.wide 2 Try.prog 71 #[.pointer (some ⟨w.heap.size, 0, none⟩)] encS (fun ss => ss.Perm (L.map (·.1))) L.length (w.alloc (.cells #[.map (some b)] 88)) :=
    keys_givesI Fence.wide _ trivial rfl (by omega) w.heap.size b L _ (by simp) (by simp) (h.turned tA (by simp))
  have cC := collect_in Fence.wide 4 trivial trivial rfl (by omega) 71 #[.pointer (some ⟨w.heap.size, 0, none⟩)] trivial (enters_of Try.func71 (by kernel_rfl) rfl) _ _ (by unfold maxLen; omega) (by omega) _ hseq
  have cC := Lib.hid ((callsIn_wide (n := 4)).1 cC)
  have HF : Hid (∀ (w1 : World) (v : Value) (ss : List Slot), ss.Perm (L.map (·.1)) → w1.ownsRow (w.alloc (.cells #[.map (some b)] 88)).heap.size 31 3 v ss.length (flat ss) → Below (w.alloc (.cells #[.map (some b)] 88)).heap.size (w.alloc (.cells #[.map (some b)] 88)) w1 →
      Calls Try.prog 68 #[v, .func (.func 62) #[] #[]] w1 fun e w2 => e = .returned (.tuple #[]) ∧ sortedPost L w (.returned v) w2) := fun w1 v ss hp ho hb => by
    have hl : ss.length = L.length := by have := hp.length_eq; simpa using this
    refine (sort_ownsI ho (by omega)).mono fun e w2 ⟨e1, ys, y1, y2, y3, y4, y5⟩ => ⟨e1, v, ys, rfl, y1.trans hp, y2, ?_, ?_⟩
    · rw [y1.length_eq]
      refine ⟨y3.1, y3.2.imp id ?_⟩
      rintro ⟨g, cap, cur, a1, a2, a3⟩
      exact ⟨g, cap, cur, a1, by simp at a2; omega, a3⟩
    · have hb' : Below w.heap.size w w1 := by
        have := (Turned.of_below hb)
        exact (tA.trans (this.mono (fun _ _ h => by cases h))).below
      exact Turned.below_of hb' y4 (fun i hi => by have := y5 i hi; simp at this; omega)
  clear h hL tA hseq
  have CF : Hid (Calls Try.prog 56 #[.func (.func 71) #[] #[.pointer (some ⟨w.heap.size, 0, none⟩)], .func (.func 62) #[] #[]] (w.alloc (.cells #[.map (some b)] 88)) (sortedPost L w)) := by
    show Calls Try.prog 56 #[.func (.func 71) #[] #[.pointer (some ⟨w.heap.size, 0, none⟩)], .func (.func 62) #[] #[]] (w.alloc (.cells #[.map (some b)] 88)) (sortedPost L w)
    generalize w.alloc (.cells #[.map (some b)] 88) = wA at *
    obtain ⟨B, hB⟩ : ∃ B, w.heap.size = B := ⟨_, rfl⟩
    rw [hB] at cC ⊢
    clear hB
    go_enter Try.func56, Try.ntmps56
    go_wp2_with (first
      | (go_at_call 67; ((with_reducible refine cC.out.mono ?_); rintro e w1 ⟨v, ss, rfl, hS, hrow, hnil, hb⟩; have CS := Lib.hid (HF.out w1 v ss hS hrow hb); clear hS hrow hnil hb))
      | (go_at_call 68; ((with_reducible refine CS.out.mono ?_); rintro e w2 ⟨rfl, hp⟩; have HP := Lib.hid hp; clear hp)))
    go_ret
    exact HP.out
  have CK := Lib.hid (keysFI b w)
  generalize w.alloc (.cells #[.map (some b)] 88) = wA at *
  obtain ⟨B, hB⟩ : ∃ B, w.heap.size = B := ⟨_, rfl⟩
  rw [hB] at CF CK
  clear hB cC HF
  go_enter Try.func47, Try.ntmps47
  go_wp2_with (first
    | (go_at_call 61; ((with_reducible refine CK.out.mono ?_); rintro e w1 ⟨rfl, rfl⟩))
    | (go_at_call 56; ((with_reducible refine CF.out.mono ?_); rintro e w2 hp; obtain ⟨v, ys, rfl, hr⟩ := hp; have HR := Lib.hid hr; clear hr)))
  go_ret
  exact ⟨v, ys, rfl, HR.out⟩
end Go.Proofs.Ytmpbhoijkcanmaa.R
