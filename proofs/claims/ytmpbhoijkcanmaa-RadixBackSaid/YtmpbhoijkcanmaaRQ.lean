/- Radix: how two slots are compared. -/
import Derived.Test.YtmpbhoijkcanmaaRP
import Derived.Deep.RegionHeld3
import Derived.Shelf.SlSortCmp.WholeK
namespace Go.Proofs.Ytmpbhoijkcanmaa.R
open Go.ChangeShapes Go.WideShapes Go.ChangeAt Go.RowKit Go.Maps Go.Proofs.Ytmpbhoijkcanmaa.G Go.Sort Go.Shelf Go.Lib
set_option linter.unusedVariables false
set_option linter.unusedSimpArgs false
set_option linter.unnecessarySimpa false

/-- cmp.Compare, cmp.Or -/
def cmpI (a b : Int) : Int := if a < b then -1 else if b < a then 1 else 0
theorem isnan (a : Int) (w : World) : Calls Try.prog 70 #[.int .i64 a] w fun e' w' => e' = .returned (.bool false) ∧ w = w' := by
  go_enter Try.func70, Try.ntmps70
  go_wp2
  go_ret
  exact ⟨rfl, rfl⟩
theorem compare (a b : Int) (w : World) : Calls Try.prog 60 #[.int .i64 a, .int .i64 b] w fun e' w' => e' = .returned (.int .i64 (cmpI a b)) ∧ w = w' := by
  have CN := Lib.hid isnan
  have h3 : a < b ∨ b < a ∨ a = b := by omega
  rcases h3 with h | h | rfl
  · rw [show cmpI a b = -1 from if_pos h]
    go_enter Try.func60, Try.ntmps60
    go_wp2_with (go_at_call 70; ((with_reducible refine (CN.out _ _).mono ?_); rintro e ww ⟨rfl, rfl⟩))
    go_ret
    exact ⟨rfl, rfl⟩
  · rw [show cmpI a b = 1 by unfold cmpI; rw [if_neg (by omega), if_pos h]]
    have h' : ¬ a < b := by omega
    go_enter Try.func60, Try.ntmps60
    go_wp2_with (go_at_call 70; ((with_reducible refine (CN.out _ _).mono ?_); rintro e ww ⟨rfl, rfl⟩))
    go_ret
    exact ⟨rfl, rfl⟩
  · rw [show cmpI a a = 0 by unfold cmpI; rw [if_neg (by omega), if_neg (by omega)]]
    go_enter Try.func60, Try.ntmps60
    go_wp2_with (go_at_call 70; ((with_reducible refine (CN.out _ _).mono ?_); rintro e ww ⟨rfl, rfl⟩))
    go_ret
    exact ⟨rfl, rfl⟩
def orI (x y : Int) : Int := if x = 0 then y else x
theorem or3 (x y z : Int) (b : Nat) (w : World) (h0 : w.cell? ⟨b, 0, none⟩ = some (.int .i64 x)) (h1 : w.cell? ⟨b, 1, none⟩ = some (.int .i64 y)) (h2 : w.cell? ⟨b, 2, none⟩ = some (.int .i64 z)) :
    Calls Try.prog 59 #[.slice (some ⟨b, 0, none⟩) 3 3] w fun e' w' => e' = .returned (.int .i64 (orI x (orI y z))) ∧ w = w' := by
  obtain ⟨R, hR⟩ : ∃ R, orI x (orI y z) = R := ⟨_, rfl⟩
  rw [hR]
  have HR := Lib.hid hR
  clear hR
  go_enter Try.func59, Try.ntmps59
  go_wp2
  go_loop [8] (fun i => i = .int .i64 0 ∨ (i = .int .i64 1 ∧ x = 0) ∨ (i = .int .i64 2 ∧ x = 0 ∧ y = 0) ∨ (i = .int .i64 3 ∧ x = 0 ∧ y = 0 ∧ z = 0)) (fun i => 3 - (intOf i).toNat)
  case atStart => exact .inl rfl
  case round =>
    rcases hrel with rfl | ⟨rfl, hx⟩ | ⟨rfl, hx, hy⟩ | ⟨rfl, hx, hy, hz⟩
    · by_cases hx : x = 0
      · have hxb : (x == 0) = true := by simpa using hx
        have HX := Lib.hid hx
        clear hx
        go_wp2
        go_round
        case rel => exact .inr (.inl ⟨rfl, HX.out⟩)
        case measure => simp [intOf]
      · have hxb : (x == 0) = false := by simpa using hx
        have HX := Lib.hid hx
        clear hx
        go_wp2
        go_ret
        exact ⟨ret1 (by rw [← HR.out]; exact (if_neg HX.out).symm), rfl⟩
    · by_cases hy : y = 0
      · have hyb : (y == 0) = true := by simpa using hy
        have HX := Lib.hid hx
        have HY := Lib.hid hy
        clear hx hy
        go_wp2
        go_round
        case rel => exact .inr (.inr (.inl ⟨rfl, HX.out, HY.out⟩))
        case measure => simp [intOf]
      · have hyb : (y == 0) = false := by simpa using hy
        have HX := Lib.hid hx
        have HY := Lib.hid hy
        clear hx hy
        go_wp2
        go_ret
        exact ⟨ret1 (by rw [← HR.out]; unfold orI; rw [if_pos HX.out, if_neg HY.out]), rfl⟩
    · by_cases hz : z = 0
      · have hzb : (z == 0) = true := by simpa using hz
        have HX := Lib.hid hx
        have HY := Lib.hid hy
        have HZ := Lib.hid hz
        clear hx hy hz
        go_wp2
        go_round
        case rel => exact .inr (.inr (.inr ⟨rfl, HX.out, HY.out, HZ.out⟩))
        case measure => simp [intOf]
      · have hzb : (z == 0) = false := by simpa using hz
        have HX := Lib.hid hx
        have HY := Lib.hid hy
        clear hx hy hz
        go_wp2
        go_ret
        exact ⟨ret1 (by rw [← HR.out]; unfold orI; rw [if_pos HX.out, if_pos HY.out]), rfl⟩
    · have HX := Lib.hid (And.intro hx (And.intro hy hz))
      clear hx hy hz
      go_wp2
      go_ret
      exact ⟨ret1 (by rw [← HR.out]; unfold orI; rw [if_pos HX.out.1, if_pos HX.out.2.1, HX.out.2.2]), rfl⟩
def cmpS (a b : Slot) : Int := orI (cmpI a.e b.e) (orI (cmpI a.c b.c) (cmpI a.i b.i))

set_option maxRecDepth 100000 in
set_option maxHeartbeats 4000000 in
theorem closureB (a b : Slot) (W : World) : Calls Try.prog 58 #[encS a, encS b] W fun e w' => e = .returned (.int .i64 (cmpS a b)) ∧ ∃ q os', w' = grow (W.drewN q) os' := by
  obtain ⟨ae, ac, ai⟩ := a
  obtain ⟨be, bc, bi⟩ := b
  have C1 := Lib.hid (compare ae be)
  have C2 := Lib.hid (compare ac bc)
  have C3 := Lib.hid (compare ai bi)
  unfold encS cmpS
  simp only
  have CO : Hid (∀ (b : Nat) (w : World), w.cell? ⟨b, 0, none⟩ = some (.int .i64 (cmpI ae be)) → w.cell? ⟨b, 1, none⟩ = some (.int .i64 (cmpI ac bc)) → w.cell? ⟨b, 2, none⟩ = some (.int .i64 (cmpI ai bi)) → Calls Try.prog 59 #[.slice (some ⟨b, 0, none⟩) 3 3] w fun e' w' => e' = .returned (.int .i64 (orI (cmpI ae be) (orI (cmpI ac bc) (cmpI ai bi)))) ∧ w = w') :=
    fun b w h0 h1 h2 => or3 _ _ _ b w h0 h1 h2
  generalize orI (cmpI ae be) (orI (cmpI ac bc) (cmpI ai bi)) = R at *
  generalize cmpI ae be = x at *
  generalize cmpI ac bc = y at *
  generalize cmpI ai bi = z at *
  go_enter Try.func58, Try.ntmps58
  go_upto_region 1 with fail
  have b1 : ∀ j u, [Value.int .i64 ae, .int .i64 ac, .int .i64 ai][j]? = some u → ((W.alloc (.cells #[.int .i64 ae, .int .i64 ac, .int .i64 ai] 31)).alloc (.cells #[.int .i64 be, .int .i64 bc, .int .i64 bi] 31)).cell? ((⟨W.heap.size, 0, none⟩ : Addr).add j) = some u :=
    fun j u h => ((Turned.refl [] _).alloc _).cell (cells_new W _ 31 j u h) (by simp)
  have b2 : ∀ j u, [Value.int .i64 be, .int .i64 bc, .int .i64 bi][j]? = some u → ((W.alloc (.cells #[.int .i64 ae, .int .i64 ac, .int .i64 ai] 31)).alloc (.cells #[.int .i64 be, .int .i64 bc, .int .i64 bi] 31)).cell? ((⟨W.heap.size + 1, 0, none⟩ : Addr).add j) = some u := by
    intro j u h
    have := cells_new (W.alloc (.cells #[.int .i64 ae, .int .i64 ac, .int .i64 ai] 31)) [Value.int .i64 be, .int .i64 bc, .int .i64 bi] 31 j u h
    simpa using this
  have c1 : _ = some (Value.int .i64 ae) := b1 0 _ rfl
  have c2 : _ = some (Value.int .i64 ac) := b1 1 _ rfl
  have c3 : _ = some (Value.int .i64 ai) := b1 2 _ rfl
  have c4 : _ = some (Value.int .i64 be) := b2 0 _ rfl
  have c5 : _ = some (Value.int .i64 bc) := b2 1 _ rfl
  have c6 : _ = some (Value.int .i64 bi) := b2 2 _ rfl
  change World.cell? _ ⟨W.heap.size, 0, none⟩ = _ at c1
  change World.cell? _ ⟨W.heap.size, 1, none⟩ = _ at c2
  change World.cell? _ ⟨W.heap.size, 2, none⟩ = _ at c3
  change World.cell? _ ⟨W.heap.size + 1, 0, none⟩ = _ at c4
  change World.cell? _ ⟨W.heap.size + 1, 1, none⟩ = _ at c5
  change World.cell? _ ⟨W.heap.size + 1, 2, none⟩ = _ at c6
  have hG : Hid (∃ os, (W.alloc (.cells #[.int .i64 ae, .int .i64 ac, .int .i64 ai] 31)).alloc (.cells #[.int .i64 be, .int .i64 bc, .int .i64 bi] 31) = grow W os) := ⟨_, by rw [alloc_eq_grow, alloc_eq_grow, grow_grow]⟩
  clear b1 b2
  generalize (W.alloc (.cells #[.int .i64 ae, .int .i64 ac, .int .i64 ai] 31)).alloc (.cells #[.int .i64 be, .int .i64 bc, .int .i64 bi] 31) = w1 at *
  generalize W.heap.size = B at *
  go_region_held3 (fun w' => w'.cell? ⟨B, 0, none⟩ = some (.int .i64 ae) ∧ w'.cell? ⟨B, 1, none⟩ = some (.int .i64 ac) ∧ w'.cell? ⟨B, 2, none⟩ = some (.int .i64 ai) ∧ w'.cell? ⟨B + 1, 0, none⟩ = some (.int .i64 be) ∧ w'.cell? ⟨B + 1, 1, none⟩ = some (.int .i64 bc) ∧ w'.cell? ⟨B + 1, 2, none⟩ = some (.int .i64 bi)) (go_keep)
    (first
      | (go_at_call 60; ((with_reducible refine (C1.out _).mono ?_); rintro e w3 ⟨rfl, rfl⟩))
      | (go_at_call 60; ((with_reducible refine (C2.out _).mono ?_); rintro e w3 ⟨rfl, rfl⟩))
      | (go_at_call 60; ((with_reducible refine (C3.out _).mono ?_); rintro e w3 ⟨rfl, rfl⟩))
      | (go_at_call 59; ((with_reducible refine (CO.out _ _ ?_ ?_ ?_).mono ?_); (exact cells_new _ [.int .i64 x, .int .i64 y, .int .i64 z] _ 0 _ rfl); (exact cells_new _ [.int .i64 x, .int .i64 y, .int .i64 z] _ 1 _ rfl); (exact cells_new _ [.int .i64 x, .int .i64 y, .int .i64 z] _ 2 _ rfl); rintro e w3 ⟨rfl, rfl⟩)))
  go_wp2
  go_ret
  obtain ⟨os, hos⟩ := hG.out
  refine ⟨rfl, 1, os ++ #[.cells #[.int .i64 x, .int .i64 y, .int .i64 z] 3], ?_⟩
  rw [hos, alloc_eq_grow, grow_grow]
  rfl

set_option maxRecDepth 100000 in
set_option maxHeartbeats 4000000 in
theorem closureI (a b : Slot) (W : World) : Calls Try.prog 62 #[encS a, encS b] W fun e w' => e = .returned (.int .i64 (cmpS a b)) ∧ ∃ q os', w' = grow (W.drewN q) os' := by
  obtain ⟨ae, ac, ai⟩ := a
  obtain ⟨be, bc, bi⟩ := b
  have C1 := Lib.hid (compare ae be)
  have C2 := Lib.hid (compare ac bc)
  have C3 := Lib.hid (compare ai bi)
  unfold encS cmpS
  simp only
  have CO : Hid (∀ (b : Nat) (w : World), w.cell? ⟨b, 0, none⟩ = some (.int .i64 (cmpI ae be)) → w.cell? ⟨b, 1, none⟩ = some (.int .i64 (cmpI ac bc)) → w.cell? ⟨b, 2, none⟩ = some (.int .i64 (cmpI ai bi)) → Calls Try.prog 59 #[.slice (some ⟨b, 0, none⟩) 3 3] w fun e' w' => e' = .returned (.int .i64 (orI (cmpI ae be) (orI (cmpI ac bc) (cmpI ai bi)))) ∧ w = w') :=
    fun b w h0 h1 h2 => or3 _ _ _ b w h0 h1 h2
  generalize orI (cmpI ae be) (orI (cmpI ac bc) (cmpI ai bi)) = R at *
  generalize cmpI ae be = x at *
  generalize cmpI ac bc = y at *
  generalize cmpI ai bi = z at *
  go_enter Try.func62, Try.ntmps62
  go_upto_region 1 with fail
  have b1 : ∀ j u, [Value.int .i64 ae, .int .i64 ac, .int .i64 ai][j]? = some u → ((W.alloc (.cells #[.int .i64 ae, .int .i64 ac, .int .i64 ai] 31)).alloc (.cells #[.int .i64 be, .int .i64 bc, .int .i64 bi] 31)).cell? ((⟨W.heap.size, 0, none⟩ : Addr).add j) = some u :=
    fun j u h => ((Turned.refl [] _).alloc _).cell (cells_new W _ 31 j u h) (by simp)
  have b2 : ∀ j u, [Value.int .i64 be, .int .i64 bc, .int .i64 bi][j]? = some u → ((W.alloc (.cells #[.int .i64 ae, .int .i64 ac, .int .i64 ai] 31)).alloc (.cells #[.int .i64 be, .int .i64 bc, .int .i64 bi] 31)).cell? ((⟨W.heap.size + 1, 0, none⟩ : Addr).add j) = some u := by
    intro j u h
    have := cells_new (W.alloc (.cells #[.int .i64 ae, .int .i64 ac, .int .i64 ai] 31)) [Value.int .i64 be, .int .i64 bc, .int .i64 bi] 31 j u h
    simpa using this
  have c1 : _ = some (Value.int .i64 ae) := b1 0 _ rfl
  have c2 : _ = some (Value.int .i64 ac) := b1 1 _ rfl
  have c3 : _ = some (Value.int .i64 ai) := b1 2 _ rfl
  have c4 : _ = some (Value.int .i64 be) := b2 0 _ rfl
  have c5 : _ = some (Value.int .i64 bc) := b2 1 _ rfl
  have c6 : _ = some (Value.int .i64 bi) := b2 2 _ rfl
  change World.cell? _ ⟨W.heap.size, 0, none⟩ = _ at c1
  change World.cell? _ ⟨W.heap.size, 1, none⟩ = _ at c2
  change World.cell? _ ⟨W.heap.size, 2, none⟩ = _ at c3
  change World.cell? _ ⟨W.heap.size + 1, 0, none⟩ = _ at c4
  change World.cell? _ ⟨W.heap.size + 1, 1, none⟩ = _ at c5
  change World.cell? _ ⟨W.heap.size + 1, 2, none⟩ = _ at c6
  have hG : Hid (∃ os, (W.alloc (.cells #[.int .i64 ae, .int .i64 ac, .int .i64 ai] 31)).alloc (.cells #[.int .i64 be, .int .i64 bc, .int .i64 bi] 31) = grow W os) := ⟨_, by rw [alloc_eq_grow, alloc_eq_grow, grow_grow]⟩
  clear b1 b2
  generalize (W.alloc (.cells #[.int .i64 ae, .int .i64 ac, .int .i64 ai] 31)).alloc (.cells #[.int .i64 be, .int .i64 bc, .int .i64 bi] 31) = w1 at *
  generalize W.heap.size = B at *
  go_region_held3 (fun w' => w'.cell? ⟨B, 0, none⟩ = some (.int .i64 ae) ∧ w'.cell? ⟨B, 1, none⟩ = some (.int .i64 ac) ∧ w'.cell? ⟨B, 2, none⟩ = some (.int .i64 ai) ∧ w'.cell? ⟨B + 1, 0, none⟩ = some (.int .i64 be) ∧ w'.cell? ⟨B + 1, 1, none⟩ = some (.int .i64 bc) ∧ w'.cell? ⟨B + 1, 2, none⟩ = some (.int .i64 bi)) (go_keep)
    (first
      | (go_at_call 60; ((with_reducible refine (C1.out _).mono ?_); rintro e w3 ⟨rfl, rfl⟩))
      | (go_at_call 60; ((with_reducible refine (C2.out _).mono ?_); rintro e w3 ⟨rfl, rfl⟩))
      | (go_at_call 60; ((with_reducible refine (C3.out _).mono ?_); rintro e w3 ⟨rfl, rfl⟩))
      | (go_at_call 59; ((with_reducible refine (CO.out _ _ ?_ ?_ ?_).mono ?_); (exact cells_new _ [.int .i64 x, .int .i64 y, .int .i64 z] _ 0 _ rfl); (exact cells_new _ [.int .i64 x, .int .i64 y, .int .i64 z] _ 1 _ rfl); (exact cells_new _ [.int .i64 x, .int .i64 y, .int .i64 z] _ 2 _ rfl); rintro e w3 ⟨rfl, rfl⟩)))
  go_wp2
  go_ret
  obtain ⟨os, hos⟩ := hG.out
  refine ⟨rfl, 1, os ++ #[.cells #[.int .i64 x, .int .i64 y, .int .i64 z] 3], ?_⟩
  rw [hos, alloc_eq_grow, grow_grow]
  rfl
end Go.Proofs.Ytmpbhoijkcanmaa.R
