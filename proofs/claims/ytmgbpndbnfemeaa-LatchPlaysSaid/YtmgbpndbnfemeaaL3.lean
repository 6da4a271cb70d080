/- The pages that somebody holds: the keys of the map, sorted, and those that are theirs. -/
import Derived.Test.YtmgbpndbnfemeaaShelf
import Derived.Test.YtmgbpndbnfemeaaL2
namespace Go.Proofs.Ytmgbpndbnfemeaa.L
open Go.ChangeShapes Go.WideShapes Go.ChangeAt Go.RowKit Go.Maps Go.Sort Go.Shelf Go.Proofs.Ytmgbpndbnfemeaa.G
open Go.WideMaps Go.WideElems
set_option linter.unusedVariables false
set_option linter.unusedSimpArgs false

/-- a map of numbers is one in the library's sense -/
theorem owns_of {w : World} {b : Nat} {l : Holds} (h : MapIs Try.prog 3 iv w b l) (hlen : l.length ≤ maxLen) :
    ∃ D : DataW Unit, w.ownsMap Try.prog 3 (fun _ => some (.lit (.bool true), [])) b l.length D ∧ (intKeys D).Perm (l.map (·.1)) ∧ Maps.size D = l.length := by
  obtain ⟨E, clock, hb, h2, hnd, hk, hbn, hbd⟩ := h
  have hlenE : E.size = l.length := by have := congrArg List.length h2; simpa using this
  have hkeyE : E.toList.map (·.key) = l.map (fun p => iv p.1) := by
    have := congrArg (List.map (·.1)) h2
    rw [List.map_map, List.map_map] at this
    exact this
  have hkE : ∀ e ∈ E.toList, ∃ n : Int, e.key = iv n ∧ keyOf Try.prog 3 e.key = some (.int .i64 n) := by
    intro e he
    have : e.key ∈ l.map (fun p => iv p.1) := by rw [← hkeyE]; exact List.mem_map_of_mem he
    obtain ⟨p, hp, hpe⟩ := List.mem_map.1 this
    obtain ⟨x, hx⟩ := hk p hp
    rw [← hpe]
    obtain ⟨n, h1, h2, _⟩ := Maps.keyOf_i64 Try.underlying3 hx
    have : n = p.1 := iv_inj _ _ h1.symm
    subst this
    exact ⟨p.1, rfl, by rw [hx, h2]⟩
  have hrd : ∀ e ∈ E.toList, ∀ n, e.key = iv n → WideElems.rd Try.prog 3 (fun _ => some ((.lit (.bool true) : DataW Unit), [])) e = some (.int .i64 n, .lit (.bool true)) := by
    intro e he n hn
    obtain ⟨m, h1, h3⟩ := hkE e he
    have : m = n := iv_inj _ _ (h1.symm.trans hn)
    subst this
    unfold WideElems.rd
    rw [h3]; rfl
  refine ⟨_, ⟨E, clock, hb, ⟨by omega, ⟨hbn, hbd, ?_⟩, ?_⟩, by omega, rfl⟩, ?_, ?_⟩
  · rw [hkeyE]
    have : (l.map fun p => iv p.1) = (l.map (·.1)).map iv := by rw [List.map_map]; rfl
    rw [this]
    exact List.Pairwise.map _ (fun a b (hab : a ≠ b) e => hab (iv_inj _ _ e)) hnd
  · intro e he
    obtain ⟨n, h1, _⟩ := hkE e he
    exact ⟨_, hrd e he n h1⟩
  · show (List.map (fun p : Lit × DataW Unit => Go.intOf p.1) _).Perm _
    refine ((sorted_perm _).map _).trans ?_
    rw [List.map_map]
    have : E.toList.map ((fun p : Lit × DataW Unit => Go.intOf p.1) ∘ WideElems.rg Try.prog 3 (fun _ => some (.lit (.bool true), []))) = l.map (·.1) := by
      have e1 : E.toList.map ((fun p : Lit × DataW Unit => Go.intOf p.1) ∘ WideElems.rg Try.prog 3 (fun _ => some (.lit (.bool true), []))) = (E.toList.map (·.key)).map (fun v => RowKit.intOf v) := by
        rw [List.map_map]
        apply List.map_congr_left
        intro e he
        obtain ⟨n, h1, _⟩ := hkE e he
        simp only [Function.comp, rg_of (hrd e he n h1), h1]
        rfl
      rw [e1, hkeyE, List.map_map]
      apply List.map_congr_left
      intro p _
      rfl
    rw [this]
  · show List.length _ = _
    rw [length_sorted]
    simp [hlenE]

theorem sortsA (m : Nat) : AnyZI.SortsIn Try.prog Try.sortedA_ren Fence.wide m :=
  ⟨fun blk off cap ss W hH hblk hsz => callsIn_wide.2 (AnyM.slices_Sort_int Try.sortA blk off cap ss W hH hblk hsz),
   fun p cap W => callsIn_wide.2 (AnyM.slices_Sort_int_none Try.sortA p cap W)⟩

theorem keys_call (mb : Option Nat) (W : World) : Calls Try.prog 21 #[.map mb] W fun e w' => e = .returned (.func (.func 26) #[] #[.pointer (some ⟨W.heap.size, 0, none⟩)]) ∧ w' = W.alloc (.cells #[.map mb] 43) :=
  (callsIn_wide (n := 5)).1 (AnyZI.keys_in Try.keysA Fence.wide 5 trivial rfl mb W)

/-- the sorted keys -/
theorem sorted_call {w : World} {b : Nat} {l : Holds} (h : MapIs Try.prog 3 iv w b l) (hlen : l.length ≤ 100000) :
    Calls Try.prog 20 #[.func (.func 26) #[] #[.pointer (some ⟨w.heap.size, 0, none⟩)]] (w.alloc (.cells #[.map (some b)] 43)) fun e w' => ∃ v, e = .returned v ∧
      w'.ownsRow w.heap.size 3 1 v l.length (((l.map (·.1)).mergeSort (fun x y => decide (x ≤ y))).map iv) ∧ Below w.heap.size w w' := by
  obtain ⟨D, hown, hperm, hsize⟩ := owns_of h (by unfold maxLen; omega)
  have hbl := h.lt
  have hseq : SeqGives Fence.wide 2 Try.prog 26 #[.pointer (some ⟨w.heap.size, 0, none⟩)] encZ (fun ss => ss.Perm (intKeys D)) (Maps.size D) (w.alloc (.cells #[.map (some b)] 43)) :=
    AnyZI.keys_gives (ρ := Try.keysA_ren) { Try.keysA with } Fence.wide _ trivial rfl (by omega) w.heap.size b l.length D _ (by simp) (by simp) (by
      obtain ⟨es, clock, hb, Ft, hs, hD⟩ := hown
      exact ⟨es, clock, (Below.heap_alloc _ _ b hbl).trans hb, Ft, hs, hD⟩)
  have cS := AnyZI.sorted_in Try.sortedA Fence.wide 5 trivial trivial trivial trivial rfl (by omega) (sortsA _) (enters_of Try.func25 (by kernel_rfl) rfl) 26 #[.pointer (some ⟨w.heap.size, 0, none⟩)] trivial (enters_of Try.func26 (by kernel_rfl) rfl) _ _ (by rw [hsize]; unfold maxLen; omega) (by rw [hsize]; omega) _ hseq
  change CallsIn _ _ Try.prog 20 _ _ _ at cS
  refine ((callsIn_wide (n := 5)).1 cS).mono ?_
  rintro e w' ⟨v, ss, rfl, hS, hrow, hnil, hb⟩
  have hp := hS.trans hperm
  have hl : ss.length = l.length := by rw [hp.length_eq, List.length_map]
  have hm : ss.mergeSort (fun x y => decide (x ≤ y)) = (l.map (·.1)).mergeSort (fun x y => decide (x ≤ y)) := mergeSort_of_perm_i hp
  rw [hm, hl] at hrow
  exact ⟨v, rfl, ownsRow_base_a hrow (by simp), ((Below.refl _ w).alloc (Nat.le_refl _) _).trans (hb.mono (by simp))⟩

end Go.Proofs.Ytmgbpndbnfemeaa.L
