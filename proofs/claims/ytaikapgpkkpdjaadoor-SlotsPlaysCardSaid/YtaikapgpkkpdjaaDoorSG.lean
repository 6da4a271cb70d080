/- Slots: how two slots are compared. -/
import Derived.Test.YtaikapgpkkpdjaaDoorSF
import Derived.Shelf.SlSortCmp.WholeK
namespace Go.Proofs.YtaikapgpkkpdjaaDoor.L
open Go.ChangeShapes Go.WideShapes Go.ChangeAt Go.RowKit Go.Maps Go.Proofs.YtaikapgpkkpdjaaDoor.G Go.Sort Go.Shelf Go.Lib
set_option linter.unusedVariables false
set_option linter.unusedSimpArgs false

def cmpS (a b : Slot) : Int := orI (cmpI a.e b.e) (cmpI a.i b.i)

set_option maxRecDepth 100000 in
set_option maxHeartbeats 4000000 in
theorem closure49 (a b : Slot) (W : World) : Calls Tryd.prog 49 #[encS a, encS b] W fun e w' => e = .returned (.int .i64 (cmpS a b)) ∧ ∃ q os', w' = grow (W.drewN q) os' := by
  obtain ⟨ae, ac, ai⟩ := a
  obtain ⟨be, bc, bi⟩ := b
  have C1 := Lib.hid (compare ae be)
  have C2 := Lib.hid (compare ai bi)
  unfold encS cmpS
  simp only
  have CO : Hid (∀ (b : Nat) (w : World), w.cell? ⟨b, 0, none⟩ = some (.int .i64 (cmpI ae be)) → w.cell? ⟨b, 1, none⟩ = some (.int .i64 (cmpI ai bi)) → Calls Tryd.prog 50 #[.slice (some ⟨b, 0, none⟩) 2 2] w fun e' w' => e' = .returned (.int .i64 (orI (cmpI ae be) (cmpI ai bi))) ∧ w = w') :=
    fun b w h0 h1 => or2 _ _ b w h0 h1
  generalize orI (cmpI ae be) (cmpI ai bi) = R at *
  generalize cmpI ae be = x at *
  generalize cmpI ai bi = y at *
  go_enter Tryd.func49, Tryd.ntmps49
  go_upto_region 1 with fail
  have b1 : ∀ j u, [Value.int .i64 ae, .int .i64 ac, .int .i64 ai][j]? = some u → ((W.alloc (.cells #[.int .i64 ae, .int .i64 ac, .int .i64 ai] 24)).alloc (.cells #[.int .i64 be, .int .i64 bc, .int .i64 bi] 24)).cell? ((⟨W.heap.size, 0, none⟩ : Addr).add j) = some u :=
    fun j u h => ((Turned.refl [] _).alloc _).cell (cells_new W _ 24 j u h) (by simp)
  have b2 : ∀ j u, [Value.int .i64 be, .int .i64 bc, .int .i64 bi][j]? = some u → ((W.alloc (.cells #[.int .i64 ae, .int .i64 ac, .int .i64 ai] 24)).alloc (.cells #[.int .i64 be, .int .i64 bc, .int .i64 bi] 24)).cell? ((⟨W.heap.size + 1, 0, none⟩ : Addr).add j) = some u := by
    intro j u h
    have := cells_new (W.alloc (.cells #[.int .i64 ae, .int .i64 ac, .int .i64 ai] 24)) [Value.int .i64 be, .int .i64 bc, .int .i64 bi] 24 j u h
    simpa using this
  have c1 : _ = some (Value.int .i64 ae) := b1 0 _ rfl
  have c2 : _ = some (Value.int .i64 ai) := b1 2 _ rfl
  have c3 : _ = some (Value.int .i64 be) := b2 0 _ rfl
  have c4 : _ = some (Value.int .i64 bi) := b2 2 _ rfl
  change World.cell? _ ⟨W.heap.size, 0, none⟩ = _ at c1
  change World.cell? _ ⟨W.heap.size, 2, none⟩ = _ at c2
  change World.cell? _ ⟨W.heap.size + 1, 0, none⟩ = _ at c3
  change World.cell? _ ⟨W.heap.size + 1, 2, none⟩ = _ at c4
  have hG : Hid (∃ os, (W.alloc (.cells #[.int .i64 ae, .int .i64 ac, .int .i64 ai] 24)).alloc (.cells #[.int .i64 be, .int .i64 bc, .int .i64 bi] 24) = grow W os) := ⟨_, by rw [alloc_eq_grow, alloc_eq_grow, grow_grow]⟩
  clear b1 b2
  generalize (W.alloc (.cells #[.int .i64 ae, .int .i64 ac, .int .i64 ai] 24)).alloc (.cells #[.int .i64 be, .int .i64 bc, .int .i64 bi] 24) = w1 at *
  generalize W.heap.size = B at *
  go_region_held3 (fun w' => w'.cell? ⟨B, 0, none⟩ = some (.int .i64 ae) ∧ w'.cell? ⟨B, 2, none⟩ = some (.int .i64 ai) ∧ w'.cell? ⟨B + 1, 0, none⟩ = some (.int .i64 be) ∧ w'.cell? ⟨B + 1, 2, none⟩ = some (.int .i64 bi)) (go_keep)
    (first
      | (go_at_call 51; ((with_reducible refine (C1.out _).mono ?_); rintro e w3 ⟨rfl, rfl⟩))
      | (go_at_call 51; ((with_reducible refine (C2.out _).mono ?_); rintro e w3 ⟨rfl, rfl⟩))
      | (go_at_call 50; ((with_reducible refine (CO.out _ _ ?_ ?_).mono ?_); (exact cells_new _ [.int .i64 x, .int .i64 y] _ 0 _ rfl); (exact cells_new _ [.int .i64 x, .int .i64 y] _ 1 _ rfl); rintro e w3 ⟨rfl, rfl⟩)))
  go_wp2
  go_ret
  obtain ⟨os, hos⟩ := hG.out
  refine ⟨rfl, 1, os ++ #[.cells #[.int .i64 x, .int .i64 y] 3], ?_⟩
  rw [hos, alloc_eq_grow, grow_grow]
  rfl
end Go.Proofs.YtaikapgpkkpdjaaDoor.L
