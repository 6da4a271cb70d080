/- Maps of pages, and versions of them: lemmas, part 19 of 23. -/
import Derived.Laws.Bits64b
import Derived.Deep.LoopGhost
import Derived.Deep.DeepCutAuto
import Derived.Deep.CutRange
import Derived.Test.YtmpbhoijkcanmaaGreatQ18

/- Sorting numbers: breaking patterns. -/
namespace Go.Proofs.YtmpbhoijkcanmaaGreat.R
open Go.ChangeShapes Go.WideShapes Go.ChangeAt Go.RowKit Go.Maps Go.Proofs.YtmpbhoijkcanmaaGreat.G Go.Joins
set_option linter.unusedVariables false
set_option linter.unusedSimpArgs false
set_option linter.unnecessarySimpa false

variable {w w' wr : World} {g cap n a b i j q c s v p : Nat} {f h k : Nat → Nat}

theorem u64_nat (op : BinOp) (x y : Int) : ∃ z : Nat, z < 2 ^ 64 ∧ bits op .u64 x y = (z : Int) := by
  have h := wf_bits op .u64 x y
  simp [Lit.wf, IntKind.min, IntKind.max, IntKind.signed, IntKind.bits] at h
  exact ⟨(bits op .u64 x y).toNat, by omega, by omega⟩

theorem xs_step {u v : Value} (c0 : w.cell? ⟨s, 0, none⟩ = some u) (fz : w.frozen? ⟨s, 0, none⟩ = false) :
    (w.setCell ⟨s, 0, none⟩ v).drew.cell? ⟨s, 0, none⟩ = some v ∧ (w.setCell ⟨s, 0, none⟩ v).drew.frozen? ⟨s, 0, none⟩ = false ∧ Turned [s] w (w.setCell ⟨s, 0, none⟩ v).drew :=
  ⟨World.cell?_setCell_same (w := w) _ _ c0, (World.frozen?_setCell _ _ _ _).trans fz, ((Turned.refl [s] w).setCell (.inl (by simp)) _).drew⟩

set_option maxRecDepth 100000 in
set_option maxHeartbeats 2000000 in
theorem xorNext_fn (x : Nat) (hx : x < 2 ^ 64) (c0 : w.cell? ⟨s, 0, none⟩ = some (.int .u64 (x : Nat))) (fz : w.frozen? ⟨s, 0, none⟩ = false) :
    Calls Tryz.prog 91 #[.pointer (some ⟨s, 0, none⟩)] w fun e w' => ∃ y : Nat, y < 2 ^ 64 ∧ e = .returned (.int .u64 (y : Nat)) ∧ w'.cell? ⟨s, 0, none⟩ = some (.int .u64 (y : Nat)) ∧ w'.frozen? ⟨s, 0, none⟩ = false ∧ Turned [s] w w' := by
  obtain ⟨y1, hy1, e1⟩ := u64_nat .xor (x : Int) (IntKind.u64.wrap ((x : Int) * 8192))
  obtain ⟨y2, hy2, e2⟩ := u64_nat .xor (y1 : Int) ((y1 : Int) / 128)
  obtain ⟨y3, hy3, e3⟩ := u64_nat .xor (y2 : Int) (IntKind.u64.wrap ((y2 : Int) * 131072))
  go_enter Tryz.func91, Tryz.ntmps91
  go_upto_region 1 with fail
  obtain ⟨d1, f1, t1⟩ := xs_step (v := .int .u64 (y1 : Nat)) c0 fz
  obtain ⟨d2, f2, t2⟩ := xs_step (v := .int .u64 (y2 : Nat)) d1 f1
  obtain ⟨d3, f3, t3⟩ := xs_step (v := .int .u64 (y3 : Nat)) d2 f2
  have T := (t1.trans t2).trans t3
  go_region
  all_goals go_wp2
  obtain ⟨w1, hw1⟩ : ∃ w1, (w.setCell ⟨s, 0, none⟩ (.int .u64 (y1 : Nat))).drew = w1 := ⟨_, rfl⟩
  rw [hw1] at d1 f1 d2 f2 d3 f3 T ⊢
  clear hw1 t1 t2 t3
  go_region
  all_goals go_wp2
  obtain ⟨w2, hw2⟩ : ∃ w2, (w1.setCell ⟨s, 0, none⟩ (.int .u64 (y2 : Nat))).drew = w2 := ⟨_, rfl⟩
  rw [hw2] at d2 f2 d3 f3 T ⊢
  clear hw2
  go_region
  all_goals go_wp2
  go_ret
  exact ⟨y3, hy3, rfl, d3, f3, T⟩

set_option maxRecDepth 100000 in
set_option maxHeartbeats 2000000 in
/-- bits.Len at the numbers that a row of 8 to 21 needs. -/
theorem bitsLen_small (L : Nat) (h8 : 8 ≤ L) (h : L < 22) (w : World) : Calls Tryz.prog 61 #[.int .u64 (L : Nat)] w fun e w' => e = .returned (.int .i64 ((if L < 16 then 4 else 5 : Nat) : Int)) ∧ w = w' := by
  have hL : L = 8 ∨ L = 9 ∨ L = 10 ∨ L = 11 ∨ L = 12 ∨ L = 13 ∨ L = 14 ∨ L = 15 ∨ L = 16 ∨ L = 17 ∨ L = 18 ∨ L = 19 ∨ L = 20 ∨ L = 21 := by omega
  clear h8 h
  rcases hL with rfl | rfl | rfl | rfl | rfl | rfl | rfl | rfl | rfl | rfl | rfl | rfl | rfl | rfl
  · go_enter Tryz.func61, Tryz.ntmps61
    go_wp2
    go_ret
    exact ⟨ret1 (a := wrap64 (wrap64 (Go.Lib.len8 8))) (by decide +kernel), rfl⟩
  · go_enter Tryz.func61, Tryz.ntmps61
    go_wp2
    go_ret
    exact ⟨ret1 (a := wrap64 (wrap64 (Go.Lib.len8 9))) (by decide +kernel), rfl⟩
  · go_enter Tryz.func61, Tryz.ntmps61
    go_wp2
    go_ret
    exact ⟨ret1 (a := wrap64 (wrap64 (Go.Lib.len8 10))) (by decide +kernel), rfl⟩
  · go_enter Tryz.func61, Tryz.ntmps61
    go_wp2
    go_ret
    exact ⟨ret1 (a := wrap64 (wrap64 (Go.Lib.len8 11))) (by decide +kernel), rfl⟩
  · go_enter Tryz.func61, Tryz.ntmps61
    go_wp2
    go_ret
    exact ⟨ret1 (a := wrap64 (wrap64 (Go.Lib.len8 12))) (by decide +kernel), rfl⟩
  · go_enter Tryz.func61, Tryz.ntmps61
    go_wp2
    go_ret
    exact ⟨ret1 (a := wrap64 (wrap64 (Go.Lib.len8 13))) (by decide +kernel), rfl⟩
  · go_enter Tryz.func61, Tryz.ntmps61
    go_wp2
    go_ret
    exact ⟨ret1 (a := wrap64 (wrap64 (Go.Lib.len8 14))) (by decide +kernel), rfl⟩
  · go_enter Tryz.func61, Tryz.ntmps61
    go_wp2
    go_ret
    exact ⟨ret1 (a := wrap64 (wrap64 (Go.Lib.len8 15))) (by decide +kernel), rfl⟩
  · go_enter Tryz.func61, Tryz.ntmps61
    go_wp2
    go_ret
    exact ⟨ret1 (a := wrap64 (wrap64 (Go.Lib.len8 16))) (by decide +kernel), rfl⟩
  · go_enter Tryz.func61, Tryz.ntmps61
    go_wp2
    go_ret
    exact ⟨ret1 (a := wrap64 (wrap64 (Go.Lib.len8 17))) (by decide +kernel), rfl⟩
  · go_enter Tryz.func61, Tryz.ntmps61
    go_wp2
    go_ret
    exact ⟨ret1 (a := wrap64 (wrap64 (Go.Lib.len8 18))) (by decide +kernel), rfl⟩
  · go_enter Tryz.func61, Tryz.ntmps61
    go_wp2
    go_ret
    exact ⟨ret1 (a := wrap64 (wrap64 (Go.Lib.len8 19))) (by decide +kernel), rfl⟩
  · go_enter Tryz.func61, Tryz.ntmps61
    go_wp2
    go_ret
    exact ⟨ret1 (a := wrap64 (wrap64 (Go.Lib.len8 20))) (by decide +kernel), rfl⟩
  · go_enter Tryz.func61, Tryz.ntmps61
    go_wp2
    go_ret
    exact ⟨ret1 (a := wrap64 (wrap64 (Go.Lib.len8 21))) (by decide +kernel), rfl⟩
set_option maxRecDepth 100000 in
set_option maxHeartbeats 1000000 in
theorem nextPowU_fn (L : Nat) (h8 : 8 ≤ L) (h : L < 22) (w : World) : Calls Tryz.prog 90 #[.int .i64 (L : Nat)] w fun e w' => e = .returned (.int .u64 ((if L < 16 then 16 else 32 : Nat) : Int)) ∧ w = w' := by
  have CB := Lib.hid (bitsLen_small L h8 h)
  by_cases hl : L < 16
  · simp only [hl, if_true] at CB ⊢
    go_enter Tryz.func90, Tryz.ntmps90
    go_wp2_with (go_at_call 61; ((with_reducible refine (CB.out _).mono ?_); rintro e w1 ⟨rfl, rfl⟩))
    go_ret
    exact ⟨ret1 (by decide +kernel), rfl⟩
  · simp only [hl, if_false] at CB ⊢
    go_enter Tryz.func90, Tryz.ntmps90
    go_wp2_with (go_at_call 61; ((with_reducible refine (CB.out _).mono ?_); rintro e w1 ⟨rfl, rfl⟩))
    go_ret
    exact ⟨ret1 (by decide +kernel), rfl⟩
end Go.Proofs.YtmpbhoijkcanmaaGreat.R

/- Sorting numbers: breaking patterns, the walk. -/
namespace Go.Proofs.YtmpbhoijkcanmaaGreat.R
open Go.ChangeShapes Go.WideShapes Go.ChangeAt Go.RowKit Go.Maps Go.Proofs.YtmpbhoijkcanmaaGreat.G Go.Joins
set_option linter.unusedVariables false
set_option linter.unusedSimpArgs false
set_option linter.unnecessarySimpa false

variable {w w' wr : World} {g cap n a b i j q c s v p : Nat} {f h k : Nat → Nat}
set_option maxRecDepth 100000 in
set_option maxHeartbeats 8000000 in
theorem breakU_go (L : Nat) (h8 : 8 ≤ L) (h22 : L < 22) (hF : FU w g cap n f) (hg : g < w.heap.size) (hb : a + L ≤ n) (hn : n ≤ 1048576) : Calls Tryz.prog 74 #[.slice (some ⟨g, 0, none⟩) n cap, .int .i64 (a : Nat), .int .i64 ((a + L : Nat) : Int)] w fun e w' => e = .returned (.tuple #[]) ∧ ∃ h, FU w' g cap n h ∧ Turned [g] w w' ∧ Sim a (a + L) f h := by
  have HF := Lib.hid hF
  have CN := Lib.hid (nextPowU_fn L h8 h22)
  obtain ⟨M, hM⟩ : ∃ M : Nat, M = (if L < 16 then 16 else 32 : Nat) := ⟨_, rfl⟩
  have hM2 : M ≤ 2 * L ∧ 16 ≤ M ∧ M ≤ 32 := by rw [hM]; split <;> omega
  rw [← hM] at CN
  clear hF hM
  go_enter Tryz.func74, Tryz.ntmps74
  go_wp2_with (go_at_call 90; rw [show ((a : Int) + (L : Int) - (a : Int)) = (L : Int) by omega]; ((with_reducible refine (CN.out _).mono ?_); rintro e w1 ⟨rfl, rfl⟩))
  go_loopw [9] (fun vi wr => ∃ (t r : Nat), vi = .int .i64 ((a + L / 4 * 2 - 1 + t : Nat) : Int) ∧ t ≤ 3 ∧ r < 2 ^ 64 ∧ wr.cell? ⟨w.heap.size, 0, none⟩ = some (.int .u64 (r : Nat)) ∧ wr.frozen? ⟨w.heap.size, 0, none⟩ = false ∧ Hid (∃ h, FU wr g cap n h ∧ Turned [g] w wr ∧ Sim a (a + L) f h)) (fun vi _ => a + L / 4 * 2 + 3 - (intOf vi).toNat)
  case atStart =>
    exact ⟨0, L, by congr 1; omega, by omega, by omega, by rw [World.cell?_alloc_at _ _ _ _ rfl]; rfl, by rw [World.frozen?_alloc_at _ _ _ _ rfl], f, HF.out.turned ((Turned.refl [] w).alloc _) (by simp), (Turned.refl [g] w).alloc _, Sim.refl _ _ _⟩
  case round =>
    obtain ⟨t, r, rfl, ht, hr, c0, fz, hB⟩ := hrel
    by_cases hlt : t < 3
    · have CX := Lib.hid (xorNext_fn r hr c0 fz)
      clear c0 fz
      go_wp2_with (go_at_call 91; ((with_reducible refine (CX.out).mono ?_); rintro e w5 ⟨y, hy, rfl, d1, f1, t5⟩; obtain ⟨O, lO, eAnd⟩ : ∃ O : Nat, O ≤ M - 1 ∧ bits .and .u64 (y : Int) ((M : Int) - 1) = (O : Int) := ⟨y &&& (M - 1), Nat.and_le_right, by rw [show ((M : Int) - 1) = ((M - 1 : Nat) : Int) by omega]; exact bits_and_u64_nat _ _ hy (by omega)⟩))
      · have hLO : L ≤ O := by omega
        obtain ⟨K, hKe, hK⟩ : ∃ K : Nat, (O : Int) - (L : Int) = (K : Int) ∧ K < L := ⟨O - L, by omega, by omega⟩
        rw [hKe]
        obtain ⟨h, hF, ht, hs⟩ := hB.out
        have hF5 := hF.turned t5 (by simp; omega)
        have hT5 : Turned [g] w w5 := ((ht.mono (T := [g, w.heap.size]) (fun k _ hk => by simp_all)).trans (t5.mono (T := [g, w.heap.size]) (fun k _ hk => by simp_all))).mono (fun k hk hm => by simp at hm ⊢; omega)
        obtain ⟨I, hI⟩ : ∃ I : Nat, I = a + L / 4 * 2 - 1 + t := ⟨_, rfl⟩
        have hI1 : ((a + L / 4 * 2 - 1 : Nat) : Int) + (t : Int) = (I : Int) := by omega
        rw [hI1]
        obtain ⟨J, hJ⟩ : ∃ J : Nat, J = a + K := ⟨_, rfl⟩
        have hJ1 : (a : Int) + (K : Int) = (J : Int) := by omega
        have hJw : IntKind.i64.wrap ((a : Int) + (K : Int)) = (J : Int) := by rw [hJ1, IntWalk.i64_in _ (by omega)]
        obtain ⟨x, hx⟩ : ∃ x, h I = x := ⟨_, rfl⟩
        obtain ⟨z, hz⟩ : ∃ z, h J = z := ⟨_, rfl⟩
        have hIn : I < n := by omega
        have hJn : J < n := by omega
        have hIw : IntKind.i64.wrap ((I : Int) + 1) = (I : Int) + 1 := IntWalk.i64_in _ (by omega)
        have HZX : Hid (I = J → z = x) := fun e => by rw [← hz, ← hx, e]
        obtain ⟨c1, c2, z1, z2, hFs, tS⟩ := hF5.swp_at hIn hJn x z hx hz
        have hgs : w.heap.size ∉ [g] := by simp; omega
        have HE : Hid ((∃ h', FU ((w5.drew.setCell ⟨g, I, none⟩ (.int .u64 (z : Nat))).setCell ⟨g, J, none⟩ (.int .u64 (x : Nat))) g cap n h' ∧ Turned [g] w ((w5.drew.setCell ⟨g, I, none⟩ (.int .u64 (z : Nat))).setCell ⟨g, J, none⟩ (.int .u64 (x : Nat))) ∧ Sim a (a + L) f h') ∧ ((w5.drew.setCell ⟨g, I, none⟩ (.int .u64 (z : Nat))).setCell ⟨g, J, none⟩ (.int .u64 (x : Nat))).cell? ⟨w.heap.size, 0, none⟩ = some (.int .u64 (y : Nat)) ∧ ((w5.drew.setCell ⟨g, I, none⟩ (.int .u64 (z : Nat))).setCell ⟨g, J, none⟩ (.int .u64 (x : Nat))).frozen? ⟨w.heap.size, 0, none⟩ = false) := ⟨⟨_, hFs, hT5.trans tS, hs.trans (Sim.swap (by omega) (by omega))⟩, tS.cell d1 hgs, (tS.frozen (a := ⟨w.heap.size, 0, none⟩) (lt_of_cell d1) hgs).trans f1⟩
        have hIm : I + 1 ≤ a + L / 4 * 2 + 3 := by omega
        have HI9 := Lib.hid hI
        clear hB hF ht hs hF5 hT5 hFs tS hx hz d1 f1 t5 HF CN CX hI hI1 hJ hJ1 lO
        by_cases hEq : I = J
        · have hzx := HZX.out hEq
          subst hzx
          subst hEq
          go_region
          all_goals go_wp2
          all_goals go_roundw
          case rel => exact ⟨t + 1, y, (by have := HI9.out; congr 1; omega), by omega, hy, HE.out.2.1, HE.out.2.2, HE.out.1⟩
          case measure => have := HI9.out; simp [intOf]; omega
        · go_region
          all_goals go_wp2
          all_goals go_roundw
          case rel => exact ⟨t + 1, y, (by have := HI9.out; congr 1; omega), by omega, hy, HE.out.2.1, HE.out.2.2, HE.out.1⟩
          case measure => have := HI9.out; simp [intOf]; omega
      · have hLO : O < L := by omega
        obtain ⟨h, hF, ht, hs⟩ := hB.out
        have hF5 := hF.turned t5 (by simp; omega)
        have hT5 : Turned [g] w w5 := ((ht.mono (T := [g, w.heap.size]) (fun k _ hk => by simp_all)).trans (t5.mono (T := [g, w.heap.size]) (fun k _ hk => by simp_all))).mono (fun k hk hm => by simp at hm ⊢; omega)
        obtain ⟨I, hI⟩ : ∃ I : Nat, I = a + L / 4 * 2 - 1 + t := ⟨_, rfl⟩
        have hI1 : ((a + L / 4 * 2 - 1 : Nat) : Int) + (t : Int) = (I : Int) := by omega
        rw [hI1]
        obtain ⟨J, hJ⟩ : ∃ J : Nat, J = a + O := ⟨_, rfl⟩
        have hJ1 : (a : Int) + (O : Int) = (J : Int) := by omega
        have hJw : IntKind.i64.wrap ((a : Int) + (O : Int)) = (J : Int) := by rw [hJ1, IntWalk.i64_in _ (by omega)]
        obtain ⟨x, hx⟩ : ∃ x, h I = x := ⟨_, rfl⟩
        obtain ⟨z, hz⟩ : ∃ z, h J = z := ⟨_, rfl⟩
        have hIn : I < n := by omega
        have hJn : J < n := by omega
        have hIw : IntKind.i64.wrap ((I : Int) + 1) = (I : Int) + 1 := IntWalk.i64_in _ (by omega)
        have HZX : Hid (I = J → z = x) := fun e => by rw [← hz, ← hx, e]
        obtain ⟨c1, c2, z1, z2, hFs, tS⟩ := hF5.swp_at hIn hJn x z hx hz
        have hgs : w.heap.size ∉ [g] := by simp; omega
        have HE : Hid ((∃ h', FU ((w5.drew.setCell ⟨g, I, none⟩ (.int .u64 (z : Nat))).setCell ⟨g, J, none⟩ (.int .u64 (x : Nat))) g cap n h' ∧ Turned [g] w ((w5.drew.setCell ⟨g, I, none⟩ (.int .u64 (z : Nat))).setCell ⟨g, J, none⟩ (.int .u64 (x : Nat))) ∧ Sim a (a + L) f h') ∧ ((w5.drew.setCell ⟨g, I, none⟩ (.int .u64 (z : Nat))).setCell ⟨g, J, none⟩ (.int .u64 (x : Nat))).cell? ⟨w.heap.size, 0, none⟩ = some (.int .u64 (y : Nat)) ∧ ((w5.drew.setCell ⟨g, I, none⟩ (.int .u64 (z : Nat))).setCell ⟨g, J, none⟩ (.int .u64 (x : Nat))).frozen? ⟨w.heap.size, 0, none⟩ = false) := ⟨⟨_, hFs, hT5.trans tS, hs.trans (Sim.swap (by omega) (by omega))⟩, tS.cell d1 hgs, (tS.frozen (a := ⟨w.heap.size, 0, none⟩) (lt_of_cell d1) hgs).trans f1⟩
        have hIm : I + 1 ≤ a + L / 4 * 2 + 3 := by omega
        have HI9 := Lib.hid hI
        clear hB hF ht hs hF5 hT5 hFs tS hx hz d1 f1 t5 HF CN CX hI hI1 hJ hJ1 lO
        by_cases hEq : I = J
        · have hzx := HZX.out hEq
          subst hzx
          subst hEq
          go_region
          all_goals go_wp2
          all_goals go_roundw
          case rel => exact ⟨t + 1, y, (by have := HI9.out; congr 1; omega), by omega, hy, HE.out.2.1, HE.out.2.2, HE.out.1⟩
          case measure => have := HI9.out; simp [intOf]; omega
        · go_region
          all_goals go_wp2
          all_goals go_roundw
          case rel => exact ⟨t + 1, y, (by have := HI9.out; congr 1; omega), by omega, hy, HE.out.2.1, HE.out.2.2, HE.out.1⟩
          case measure => have := HI9.out; simp [intOf]; omega
    · obtain rfl : t = 3 := by omega
      have HE : Hid (∀ m, ∃ h, FU (wr.drewN m) g cap n h ∧ Turned [g] w (wr.drewN m) ∧ Sim a (a + L) f h) := fun m => by
        obtain ⟨h, h1, h2, h3⟩ := hB.out
        exact ⟨h, h1.drewN m, h2.drewN m, h3⟩
      go_wp2
      go_end0
      exact ⟨rfl, HE.out 0⟩
end Go.Proofs.YtmpbhoijkcanmaaGreat.R

/- Sorting numbers: pdqsort over few unlike numbers. -/
namespace Go.Proofs.YtmpbhoijkcanmaaGreat.R
open Go.ChangeShapes Go.WideShapes Go.ChangeAt Go.RowKit Go.Maps Go.Proofs.YtmpbhoijkcanmaaGreat.G Go.Joins
set_option linter.unusedVariables false
set_option linter.unusedSimpArgs false
set_option linter.unnecessarySimpa false

variable {w w' wr : World} {g cap n a b i j q c s v p m : Nat} {f h k h1 h2 : Nat → Nat}
/-- between two rounds: what lies outside of i to j is in its place -/
structure PdH (w wr : World) (g cap n a b : Nat) (f : Nat → Nat) (i j : Nat) (h : Nat → Nat) : Prop where
  row : FU wr g cap n h
  turn : Turned [g] w wr
  sim : Sim a b f h
  out : ∀ x y, a ≤ x → x < y → y < b → (x < i ∨ j ≤ y) → h x ≤ h y
  head : i = 0 ∨ ∀ k, i ≤ k → k < j → h (i - 1) < h k
theorem PdH.start (hF : FU w g cap n f) (hhd : a = 0 ∨ ∀ k, a ≤ k → k < b → f (a - 1) < f k) : PdH w w g cap n a b f a b f := ⟨hF, Turned.refl _ _, Sim.refl _ _ _, fun x y h1 h2 h3 h4 => by omega, hhd⟩
theorem PdH.same (hp : PdH w wr g cap n a b f i j h) (ha : a ≤ i) (hb : j ≤ b) (hs : Sim i j h h1) (hF : FU w' g cap n h1) (ht : Turned [g] wr w') : PdH w w' g cap n a b f i j h1 := by
  have ho : ∀ x, ¬ (i ≤ x ∧ x < j) → h1 x = h x := fun x hx => hs.out hx
  refine ⟨hF, hp.turn.trans ht, hp.sim.trans (hs.mono ha hb), fun x y k1 k2 k3 k4 => ?_, ?_⟩
  · by_cases ex : i ≤ x ∧ x < j
    · by_cases ey : i ≤ y ∧ y < j
      · omega
      · rw [ho y ey]
        exact hs.inn (P := fun z => z ≤ h y) (fun z z1 z2 => hp.out z y (by omega) (by omega) k3 (by omega)) x ex.1 ex.2
    · rw [ho x ex]
      by_cases ey : i ≤ y ∧ y < j
      · exact hs.inn (P := fun z => h x ≤ z) (fun z z1 z2 => hp.out x z k1 (by omega) (by omega) (by omega)) y ey.1 ey.2
      · rw [ho y ey]; exact hp.out x y k1 k2 k3 k4
  · rcases hp.head with e | e
    · exact .inl e
    · by_cases e0 : i = 0
      · exact .inl e0
      · refine .inr fun k k1 k2 => ?_
        rw [ho (i - 1) (by omega)]
        exact hs.inn (P := fun z => h (i - 1) < z) e k k1 k2
theorem PdH.done (hp : PdH w wr g cap n a b f i j h) (ha : a ≤ i) (hb : j ≤ b) (hs : srtU wr g cap n i j h w') : srtU w g cap n a b f w' := by
  obtain ⟨h1, k1, k2, k3, k4⟩ := hs
  have hq := hp.same ha hb k3 k1 k2
  refine ⟨h1, k1, hq.turn, hq.sim, fun x y e1 e2 e3 => ?_⟩
  by_cases e : x < i ∨ j ≤ y
  · exact hq.out x y e1 e2 e3 e
  · exact k4 x y (by omega) e2 (by omega)
/-- behind a partition -/
structure PdM (w wr : World) (g cap n a b : Nat) (f : Nat → Nat) (i j m : Nat) (h : Nat → Nat) : Prop where
  p : PdH w wr g cap n a b f i j h
  im : i < m
  mj : m < j
  lo : ∀ k, i ≤ k → k < m → h k < h m
  hi : ∀ k, m < k → k < j → h m < h k
theorem PdM.mk0 (hp : PdH w wr g cap n a b f i j h) (ha : a ≤ i) (hb : j ≤ b) (hbn : b ≤ n) (hinj : ∀ x y, x < n → y < n → f x = f y → x = y) (hq : partPost wr g cap n i j h v m w') : ∃ h1, PdM w w' g cap n a b f i j m h1 := by
  obtain ⟨h1, e1, e2, e3, e4, e5, e6, e7, e8⟩ := hq
  have hp1 := hp.same ha hb e3 e1 e2
  refine ⟨h1, hp1, e4, e5, by rw [e6]; exact e7, fun k k1 k2 => ?_⟩
  have k3 := e8 k k1 k2
  rw [← e6] at k3
  have k4 : h1 m ≠ h1 k := fun e => by
    have := hp1.sim.inj hbn hinj m k (by omega) (by omega) e
    omega
  omega
theorem PdM.left (hp : PdM w wr g cap n a b f i j m h) (ha : a ≤ i) (hb : j ≤ b) (hs : srtU wr g cap n i m h w') : ∃ h1, PdH w w' g cap n a b f (m + 1) j h1 := by
  obtain ⟨h1, k1, k2, k3, k4⟩ := hs
  have him := hp.im
  have hmj := hp.mj
  have hq := hp.p.same ha hb (k3.mono (Nat.le_refl _) (by omega)) k1 k2
  have em : h1 m = h m := k3.out (by omega)
  have er : ∀ k, m < k → h1 k = h k := fun k hk => k3.out (by omega)
  have el : ∀ k, i ≤ k → k < m → h1 k < h1 m := by rw [em]; exact k3.inn (P := fun z => z < h m) hp.lo
  have eh : ∀ k, m < k → k < j → h1 m < h1 k := fun k c1 c2 => by rw [em, er k c1]; exact hp.hi k c1 c2
  refine ⟨h1, k1, hq.turn, hq.sim, fun x y c1 c2 c3 c4 => ?_, .inr fun k c1 c2 => by rw [Nat.add_sub_cancel]; exact eh k (by omega) c2⟩
  by_cases e : x < i ∨ j ≤ y
  · exact hq.out x y c1 c2 c3 e
  · rcases Nat.lt_trichotomy y m with e1 | e1 | e1
    · exact k4 x y (by omega) c2 e1
    · subst e1; exact Nat.le_of_lt (el x (by omega) c2)
    · have hy := eh y e1 (by omega)
      by_cases e2 : x = m
      · subst e2; omega
      · have := el x (by omega) (by omega); omega
theorem PdM.right (hp : PdM w wr g cap n a b f i j m h) (ha : a ≤ i) (hb : j ≤ b) (hs : srtU wr g cap n (m + 1) j h w') : ∃ h1, PdH w w' g cap n a b f i m h1 := by
  obtain ⟨h1, k1, k2, k3, k4⟩ := hs
  have him := hp.im
  have hmj := hp.mj
  have hq := hp.p.same ha hb (k3.mono (by omega) (Nat.le_refl _)) k1 k2
  have em : h1 m = h m := k3.out (by omega)
  have er : ∀ k, k < m → h1 k = h k := fun k hk => k3.out (by omega)
  have el : ∀ k, i ≤ k → k < m → h1 k < h1 m := fun k c1 c2 => by rw [em, er k c2]; exact hp.lo k c1 c2
  have eh : ∀ k, m < k → k < j → h1 m < h1 k := fun k c1 c2 => by rw [em]; exact k3.inn (P := fun z => h m < z) (fun z z1 z2 => hp.hi z (by omega) z2) k (by omega) c2
  refine ⟨h1, k1, hq.turn, hq.sim, fun x y c1 c2 c3 c4 => ?_, ?_⟩
  · by_cases e : x < i ∨ j ≤ y
    · exact hq.out x y c1 c2 c3 e
    · rcases Nat.lt_trichotomy x m with e1 | e1 | e1
      · have := el x (by omega) e1
        rcases Nat.lt_trichotomy y m with e2 | e2 | e2
        · omega
        · subst e2; omega
        · have := eh y e2 (by omega); omega
      · subst e1; exact Nat.le_of_lt (eh y c2 (by omega))
      · exact k4 x y (by omega) c2 (by omega)
  · rcases hq.head with e | e
    · exact .inl e
    · exact .inr fun k c1 c2 => e k c1 (by omega)
theorem hd_left (hp : PdM w wr g cap n a b f i j m h) : i = 0 ∨ ∀ k, i ≤ k → k < m → h (i - 1) < h k := by
  have := hp.mj
  rcases hp.p.head with e | e
  · exact .inl e
  · exact .inr fun k c1 c2 => e k c1 (by omega)
theorem hd_right (hp : PdM w wr g cap n a b f i j m h) : m + 1 = 0 ∨ ∀ k, m + 1 ≤ k → k < j → h (m + 1 - 1) < h k := .inr fun k c1 c2 => by rw [Nat.add_sub_cancel]; exact hp.hi k (by omega) c2
/-- a pivot, the row turned about -/
theorem PivU.turn (hp : PivU a b n f p) (hr : ∀ k, a ≤ k → k < b → h k = f (a + b - 1 - k)) : PivU a b n h (a + b - 1 - p) := by
  obtain ⟨⟨e1, e2⟩, ⟨x, x1, x2, x3⟩, ⟨y, y1, y2, y3⟩⟩ := hp
  have ep : h (a + b - 1 - p) = f p := by rw [hr _ (by omega) (by omega)]; congr 1; omega
  refine ⟨by omega, ⟨a + b - 1 - x, by omega, by omega, ?_⟩, ⟨a + b - 1 - y, by omega, by omega, ?_⟩⟩
  · rw [ep, hr _ (by omega) (by omega), show a + b - 1 - (a + b - 1 - x) = x by omega]; exact x3
  · rw [ep, hr _ (by omega) (by omega), show a + b - 1 - (a + b - 1 - y) = y by omega]; exact y3
theorem turned_below {w w' : World} (h : Below w.heap.size w w') (g : Nat) : Turned [g] w w' := (Turned.of_below h).mono (fun _ _ h => by cases h)
set_option maxRecDepth 1000000 in
set_option maxHeartbeats 32000000 in
theorem pdqU_fn (hn : n < 22) : ∀ (N a b lim : Nat) (f : Nat → Nat) (w : World), b - a < N → FU w g cap n f → b ≤ n → a ≤ b → (∀ x y, x < n → y < n → f x = f y → x = y) → (12 < b - a → 1 + (b - a - 13) / 2 ≤ lim) → lim ≤ 100 → (a = 0 ∨ ∀ k, a ≤ k → k < b → f (a - 1) < f k) →
    Calls Tryz.prog 60 #[.slice (some ⟨g, 0, none⟩) n cap, .int .i64 (a : Nat), .int .i64 (b : Nat), .int .i64 (lim : Nat)] w fun e w' => e = .returned (.tuple #[]) ∧ srtU w g cap n a b f w' := by
  intro N
  induction N with
  | zero => intro a b lim f w h; omega
  | succ N ih =>
    intro a b lim f w hN hF hb hab hinj hlim hl100 hhd
    have IH := Lib.hid ih
    have HI := Lib.hid hinj
    have H0 := Lib.hid (PdH.start hF hhd)
    clear ih hinj hF hhd
    go_enter Tryz.func60, Tryz.ntmps60
    go_wp2
    go_loopg [1, 2, 3, 8, 9] (b - a) (fun z s1 s2 s3 s8 s9 wr => ∃ (i j l : Nat) (wb wp : Bool), s1 = .int .i64 (i : Nat) ∧ s2 = .int .i64 (j : Nat) ∧ s3 = .int .i64 (l : Nat) ∧ s8 = .bool wb ∧ s9 = .bool wp ∧
      a ≤ i ∧ i ≤ j ∧ j ≤ b ∧ j - i ≤ z ∧ z ≤ b - a ∧ (12 < j - i → 1 + (j - i - 13) / 2 ≤ l) ∧ l ≤ 100 ∧ Hid (∃ h, PdH w wr g cap n a b f i j h))
    case atStart => exact ⟨a, b, lim, true, true, rfl, rfl, rfl, rfl, rfl, Nat.le_refl _, hab, Nat.le_refl _, Nat.le_refl _, Nat.le_refl _, hlim, hl100, f, H0.out⟩
    case round =>
      obtain ⟨i, j, l, wb, wp, rfl, rfl, rfl, rfl, rfl, hai, hij, hjb, hz, hzN, hl, hl9, hB⟩ := hrel
      clear H0 hlim hl100
      obtain ⟨LL, hLL⟩ : ∃ LL, j - i = LL := ⟨_, rfl⟩
      have HLL := Lib.hid hLL
      have hwd : IntKind.i64.wrap ((j : Int) - (i : Int)) = ((LL : Nat) : Int) := by rw [IntWalk.i64_in _ (by omega)]; omega
      rw [hLL] at hz hl
      have hL22 : LL < 22 := by omega
      by_cases h12 : LL ≤ 12
      · have h12z : decide ((LL : Int) ≤ 12) = true := by simp; omega
        have CI : Hid (Calls Tryz.prog 72 #[.slice (some ⟨g, 0, none⟩) n cap, .int .i64 (i : Nat), .int .i64 (j : Nat)] wr fun e w' => e = .returned (.tuple #[]) ∧ srtU w g cap n a b f w') := by
          obtain ⟨h, hp⟩ := hB.out
          exact (insU_fn hp.row (by omega) (by omega) hij).mono fun e w' ⟨e1, e2⟩ => ⟨e1, hp.done hai hjb e2⟩
        clear hB hLL hl
        go_wp2_with (go_at_call 72; (refine CI.out.mono ?_; rintro e w1 ⟨rfl, hs⟩))
        exact bodyPost_ret (v := .tuple #[]) (by simp [results, Tryz.results60, go_sem]) rfl ⟨rfl, hs⟩
      · have h12z : decide ((LL : Int) ≤ 12) = false := by simp; omega
        have h12y : decide (LL ≤ 12) = false := by simp; omega
        have hl1 := hl (by omega)
        have hl0z : ((l : Int) == 0) = false := by simp; omega
        have hL13 : 13 ≤ LL := by omega
        have hl2 : (LL - 13) / 2 ≤ l - 1 := by omega
        have hij13 : i + 13 ≤ j := by omega
        have hijL : j ≤ i + LL := by omega
        have hLij : i + LL ≤ j := by omega
        clear hLL hl
        go_upto_if 35 with fail
        go_cut [3] (fun s3 wc => ∃ l' : Nat, s3 = .int .i64 (l' : Nat) ∧ (LL - 13) / 2 ≤ l' ∧ l' ≤ 100 ∧ Hid (∃ h, PdH w wc g cap n a b f i j h))
        case first =>
          cases wb
          · have CB : Hid (Calls Tryz.prog 74 #[.slice (some ⟨g, 0, none⟩) n cap, .int .i64 (i : Nat), .int .i64 (j : Nat)] wr fun e w' => e = .returned (.tuple #[]) ∧ ∃ h, PdH w w' g cap n a b f i j h) := by
              obtain ⟨h, hp⟩ := hB.out
              have := breakU_go LL (by omega) hL22 hp.row (a := i) hp.row.lt (by omega) (by omega)
              rw [show i + LL = j by omega] at this
              exact this.mono fun e w' ⟨e1, h1, e2, e3, e4⟩ => ⟨e1, h1, hp.same hai hjb (by exact e4) e2 e3⟩
            clear hB
            go_wp2_with (go_at_call 74; (refine CB.out.mono ?_; rintro e w1 ⟨rfl, hs⟩; have S1 := Lib.hid hs; clear hs))
            go_meet
            exact ⟨l - 1, by (congr 1; omega), hl2, by omega, S1.out⟩
          · go_wp2_with fail
            go_meet
            exact ⟨l, rfl, by omega, hl9, hB.out⟩
        case rest =>
          clear hB hl1 hl2 hl9 hl0z
          obtain ⟨l', rfl, hl1, hl2, hB⟩ := hcut
          have CP : Hid (Calls Tryz.prog 75 #[.slice (some ⟨g, 0, none⟩) n cap, .int .i64 (i : Nat), .int .i64 (j : Nat)] wc fun e w' => ∃ p hint : Nat, e = .returned (.tuple #[.int .i64 (p : Nat), .int .i64 (hint : Nat)]) ∧ hint < 3 ∧ i < p ∧ p + 1 < j ∧ ∃ h, PivU i j n h p ∧ PdH w w' g cap n a b f i j h) := by
            obtain ⟨h, hp⟩ := hB.out
            refine (pivotU_fn hp.row (by omega) (by omega) (by omega) (hp.sim.inj hb HI.out)).mono fun e w' ⟨p, hint, e1, e2, e3, e4, e5⟩ => ⟨p, hint, e1, e2, e3.inn.1, e3.inn.2, h, e3, hp.same hai hjb (Sim.refl _ _ _) e4 (turned_below e5 g)⟩
          clear hB
          go_upto_if 50 with (go_at_call 75; (refine CP.out.mono ?_; rintro e w2 ⟨p, hint, rfl, hh, hip, hpj, hs⟩; have S2 := Lib.hid hs; clear hs))
          clear CP
          go_cut [11, 12] (fun s11 s12 wc => ∃ p hint : Nat, s11 = .int .i64 (p : Nat) ∧ s12 = .int .i64 (hint : Nat) ∧ hint < 2 ∧ i < p ∧ p + 1 < j ∧ Hid (∃ h, PivU i j n h p ∧ PdH w wc g cap n a b f i j h))
          case first =>
            by_cases hh2 : hint = 2
            · subst hh2
              have hwj1 : IntKind.i64.wrap ((j : Int) - 1) = (j : Int) - 1 := IntWalk.i64_in _ (by omega)
              have hwpi : IntKind.i64.wrap ((p : Int) - (i : Int)) = (p : Int) - (i : Int) := IntWalk.i64_in _ (by omega)
              have hwr : IntKind.i64.wrap ((j : Int) - 1 - ((p : Int) - (i : Int))) = ((i + j - 1 - p : Nat) : Int) := by rw [IntWalk.i64_in _ (by omega)]; omega
              have CR : Hid (Calls Tryz.prog 76 #[.slice (some ⟨g, 0, none⟩) n cap, .int .i64 (i : Nat), .int .i64 (j : Nat)] w2 fun e w' => e = .returned (.tuple #[]) ∧ ∃ h, PivU i j n h (i + j - 1 - p) ∧ PdH w w' g cap n a b f i j h) := by
                obtain ⟨h, hv, hp⟩ := S2.out
                exact (revU_fn hp.row (by omega) (by omega) (by omega)).mono fun e w' ⟨e1, h1, e2, e3, e4, e5⟩ => ⟨e1, h1, hv.turn e5, hp.same hai hjb e4 e2 e3⟩
              clear S2
              go_wp2_with (go_at_call 76; (refine CR.out.mono ?_; rintro e w3 ⟨rfl, hs⟩; have S3 := Lib.hid hs; clear hs))
              go_meet
              exact ⟨i + j - 1 - p, 1, by (first | rfl | (congr 1; omega)), rfl, by omega, by omega, by omega, S3.out⟩
            · have hcode : ¬ ((hint : Int) = 2) := by omega
              go_wp2_with fail
              go_meet
              exact ⟨p, hint, rfl, rfl, by omega, hip, hpj, S2.out⟩
          case rest =>
            clear hip hpj hh S2
            obtain ⟨p, hint, rfl, rfl, hh, hip, hpj, hB⟩ := hcut
            go_upto_region 15 with fail
            go_cut [68] (fun s68 wx => ∃ B : Bool, s68 = .bool B ∧ Hid (∃ h, PivU i j n h p ∧ PdH w wx g cap n a b f i j h))
            case first =>
              have hh3 : hint = 0 ∨ hint = 1 := by omega
              cases wb <;> cases wp <;> rcases hh3 with rfl | rfl <;>
                (go_wp2_with fail
                 go_meet
                 exact ⟨_, rfl, hB.out⟩)
            case rest =>
              clear hB
              obtain ⟨B, rfl, hB⟩ := hcut
              go_upto_if 68 with fail
              go_cut [] (fun wx => Hid (∃ h, PivU i j n h p ∧ PdH w wx g cap n a b f i j h))
              case first =>
                cases B
                · go_wp2_with fail
                  go_meet
                  exact hB.out
                · have CR : Hid (Calls Tryz.prog 77 #[.slice (some ⟨g, 0, none⟩) n cap, .int .i64 (i : Nat), .int .i64 (j : Nat)] wc fun e w' => ∃ B : Bool, e = .returned (.bool B) ∧ (∃ h, PivU i j n h p ∧ PdH w w' g cap n a b f i j h) ∧ (B = true → srtU w g cap n a b f w')) := by
                    obtain ⟨h, hv, hp⟩ := hB.out
                    refine (partInsU_fn hp.row (by omega) (by omega) (by omega)).mono fun e w' ⟨B, e1, e2, e3, e4⟩ => ⟨B, e1, ⟨h, hv, hp.same hai hjb (Sim.refl _ _ _) e2 (turned_below e3 g)⟩, fun hB => hp.done hai hjb ⟨h, e2, turned_below e3 g, Sim.refl _ _ _, e4 hB⟩⟩
                  clear hB
                  go_wp2_with (go_at_call 77; (refine CR.out.mono ?_; rintro e w3 ⟨B, rfl, hs, hsr⟩; have S3 := Lib.hid hs; have S4 := Lib.hid hsr; clear hs hsr))
                  all_goals first
                    | (go_meet
                       exact S3.out)
                    | exact bodyPost_ret (v := .tuple #[]) (by simp [results, Tryz.results60, go_sem]) rfl ⟨rfl, S4.out (by first | rfl | assumption)⟩
              case rest =>
                clear hB
                have hB := hcut
                clear hcut
                go_upto_region 17 with fail
                go_cut [87] (fun s87 wx => s87 = .bool false ∧ Hid (∃ h, PivU i j n h p ∧ PdH w wx g cap n a b f i j h))
                case first =>
                  obtain ⟨h, hv, hp⟩ := hB.out
                  by_cases hi0 : i = 0
                  · have ha0 : decide ((0 : Int) < (i : Int)) = false := by simp; omega
                    have ha1 : decide (0 < i) = false := by simp; omega
                    have HE : Hid (∀ z, ∃ h, PivU i j n h p ∧ PdH w (wc.drewN z) g cap n a b f i j h) := fun z => ⟨h, hv, hp.same hai hjb (Sim.refl _ _ _) (hp.row.drewN z) ((Turned.refl _ wc).drewN z)⟩
                    clear hB hv hp hi0
                    go_quiet (fail)
                    go_wp2
                    go_meet
                    exact ⟨by simp, HE.out _⟩
                  · have ha0 : decide ((0 : Int) < (i : Int)) = true := by simp; omega
                    have ha1 : decide (0 < i) = true := by simp; omega
                    obtain ⟨q, hq⟩ : ∃ q, i - 1 = q := ⟨_, rfl⟩
                    have hwi : IntKind.i64.wrap ((i : Int) - 1) = ((q : Nat) : Int) := by rw [IntWalk.i64_in _ (by omega)]; omega
                    have hqn : q < n := by omega
                    have hpn : p < n := by omega
                    obtain ⟨x, hx⟩ : ∃ x, h q = x := ⟨_, rfl⟩
                    obtain ⟨z, hz9⟩ : ∃ z, h p = z := ⟨_, rfl⟩
                    have cq := hp.row.cell hqn
                    have cp := hp.row.cell hpn
                    have hlt : x < z := by
                      rcases hp.head with e | e
                      · exact absurd e hi0
                      · have := e p (by omega) (by omega)
                        rw [hq, hx, hz9] at this
                        exact this
                    rw [hx] at cq
                    rw [hz9] at cp
                    have CLr : Hid (∀ w, Calls Tryz.prog 78 #[.int .u64 (x : Nat), .int .u64 (z : Nat)] w fun e w' => e = .returned (.bool true) ∧ w = w') := fun w => by
                      have := lessU_fn x z w
                      rw [decide_eq_true hlt] at this
                      exact this
                    have HE : Hid (∃ h, PivU i j n h p ∧ PdH w wc.drew g cap n a b f i j h) := ⟨h, hv, hp.same hai hjb (Sim.refl _ _ _) (hp.row.drewN 1) ((Turned.refl _ wc).drew)⟩
                    clear hB hv hp hi0 hq hx hz9 hlt
                    go_region_held3 (fun w' => w'.cell? ⟨g, q, none⟩ = some (.int .u64 (x : Nat)) ∧ w'.cell? ⟨g, p, none⟩ = some (.int .u64 (z : Nat))) (go_keep)
                      (first | (go_at_call 78; ((with_reducible refine (CLr.out _).mono ?_); rintro e w5 ⟨rfl, rfl⟩)))
                    go_wp2
                    go_meet
                    exact ⟨by simp, HE.out⟩
                case rest =>
                  clear hB
                  obtain ⟨rfl, hB⟩ := hcut
                  have CPt : Hid (Calls Tryz.prog 80 #[.slice (some ⟨g, 0, none⟩) n cap, .int .i64 (i : Nat), .int .i64 (j : Nat), .int .i64 (p : Nat)] wc fun e w' => ∃ (m : Nat) (B : Bool), e = .returned (.tuple #[.int .i64 (m : Nat), .bool B]) ∧ i < m ∧ m + 1 < j ∧ ∃ h1, PdM w w' g cap n a b f i j m h1) := by
                    obtain ⟨h, hv, hp⟩ := hB.out
                    refine (partU_fn hp.row (by omega) (by omega) hip (by omega) hv.lo).mono fun e w' ⟨m, B, e1, e2⟩ => ?_
                    obtain ⟨h1, hm⟩ := PdM.mk0 hp hai hjb hb HI.out e2
                    obtain ⟨h2, k1, k2, k3, k4, k5, k6, k7, k8⟩ := e2
                    refine ⟨m, B, e1, k4, ?_, h1, hm⟩
                    obtain ⟨x, hx1, hx2, hx3⟩ := k3.some (P := fun z => h p < z) hv.hi
                    rcases Nat.lt_or_ge (m + 1) j with hlt | hge
                    · exact hlt
                    · have : x < m ∨ x = m := by omega
                      rcases this with hxm | hxm
                      · have := k7 x hx1 hxm; omega
                      · rw [hxm, k6] at hx3; omega
                  clear hB hip hpj
                  go_upto_if 113 with (go_at_call 80; (refine CPt.out.mono ?_; rintro e w7 ⟨m, B, rfl, him, hmj, hs⟩; have S7 := Lib.hid hs; have hwA : IntKind.i64.wrap ((m : Int) - (i : Int)) = (m : Int) - (i : Int) := IntWalk.i64_in _ (by omega); have hwB : IntKind.i64.wrap ((j : Int) - (m : Int)) = (j : Int) - (m : Int) := IntWalk.i64_in _ (by omega); have hwM : IntKind.i64.wrap ((m : Int) + 1) = (m : Int) + 1 := IntWalk.i64_in _ (by omega); clear hs))
                  clear CPt
                  by_cases h4 : m - i < j - m
                  · have h4z : decide ((m : Int) - (i : Int) < (j : Int) - (m : Int)) = true := by simp; omega
                    have h4y : (m : Int) - (i : Int) < (j : Int) - (m : Int) := by omega
                    have CI : Hid (Calls Tryz.prog 60 #[.slice (some ⟨g, 0, none⟩) n cap, .int .i64 (i : Nat), .int .i64 (m : Nat), .int .i64 (l' : Nat)] w7 fun e w' => e = .returned (.tuple #[]) ∧ ∃ h1, PdH w w' g cap n a b f (m + 1) j h1) := by
                      obtain ⟨h1, hm⟩ := S7.out
                      exact (IH.out i m l' h1 w7 (by omega) hm.p.row (by omega) (by omega) (hm.p.sim.inj hb HI.out) (by omega) hl2 (hd_left hm)).mono fun e w' ⟨e1, e2⟩ => ⟨e1, hm.left hai hjb e2⟩
                    clear S7
                    go_wp2_with (go_at_call 60; (refine CI.out.mono ?_; rintro e w8 ⟨rfl, hs⟩; have S8 := Lib.hid hs; clear hs))
                    go_roundg (j - (m + 1))
                    case measure => omega
                    case rel => exact ⟨m + 1, j, l', _, _, by (first | go_num | (congr 1; omega)), rfl, rfl, rfl, rfl, by omega, by omega, hjb, by omega, by omega, by omega, hl2, S8.out⟩
                  · have h4z : decide ((m : Int) - (i : Int) < (j : Int) - (m : Int)) = false := by simp; omega
                    have h4y : ¬ ((m : Int) - (i : Int) < (j : Int) - (m : Int)) := by omega
                    have CI : Hid (Calls Tryz.prog 60 #[.slice (some ⟨g, 0, none⟩) n cap, .int .i64 ((m + 1 : Nat) : Int), .int .i64 (j : Nat), .int .i64 (l' : Nat)] w7 fun e w' => e = .returned (.tuple #[]) ∧ ∃ h1, PdH w w' g cap n a b f i m h1) := by
                      obtain ⟨h1, hm⟩ := S7.out
                      exact (IH.out (m + 1) j l' h1 w7 (by omega) hm.p.row (by omega) (by omega) (hm.p.sim.inj hb HI.out) (by omega) hl2 (hd_right hm)).mono fun e w' ⟨e1, e2⟩ => ⟨e1, hm.right hai hjb e2⟩
                    rw [Int.natCast_add] at CI
                    clear S7
                    go_wp2_with (go_at_call 60; (refine CI.out.mono ?_; rintro e w8 ⟨rfl, hs⟩; have S8 := Lib.hid hs; clear hs))
                    go_roundg (m - i)
                    case measure => omega
                    case rel => exact ⟨i, m, l', _, _, rfl, rfl, rfl, rfl, rfl, hai, by omega, by omega, by omega, by omega, by omega, hl2, S8.out⟩
end Go.Proofs.YtmpbhoijkcanmaaGreat.R

/- Versions' numbers, sorted: the program's. -/
namespace Go.Proofs.YtmpbhoijkcanmaaGreat.R
open Go.ChangeShapes Go.WideShapes Go.ChangeAt Go.RowKit Go.Maps Go.Proofs.YtmpbhoijkcanmaaGreat.G Go.Sort Go.Shelf Go.Lib
set_option linter.unusedVariables false
set_option linter.unusedSimpArgs false
set_option linter.unnecessarySimpa false

variable {w ww w' : World} {g cap n m : Nat} {f h : Nat → Nat}
def lstF (h : Nat → Nat) (n : Nat) : List Nat := (List.range n).map h
theorem lstF_len (h : Nat → Nat) (n : Nat) : (lstF h n).length = n := by unfold lstF; simp
theorem lstF_get (h : Nat → Nat) (n i : Nat) (hi : i < (lstF h n).length) : (lstF h n)[i] = h i := by simp only [lstF, List.getElem_map, List.getElem_range]
theorem Sim.perm (s : Sim 0 n f h) : (lstF h n).Perm (lstF f n) := by
  obtain ⟨σ, σ', a1, a2, a2', a3, a4⟩ := s
  have h1 : ((List.range n).map σ).Perm (List.range n) := by
    refine (List.perm_ext_iff_of_nodup ?_ List.nodup_range).2 fun x => ?_
    · rw [List.Nodup, List.pairwise_map]
      exact List.nodup_range.imp fun hne e => hne (by have := congrArg σ' e; rw [a2', a2'] at this; exact this)
    · rw [List.mem_map, List.mem_range]
      constructor
      · rintro ⟨y, hy, rfl⟩
        rw [List.mem_range] at hy
        exact (a3 y ⟨Nat.zero_le _, hy⟩).2
      · intro hx
        refine ⟨σ' x, ?_, a2 x⟩
        rw [List.mem_range]
        rcases Nat.lt_or_ge (σ' x) n with q | q
        · exact q
        · have := a4 (σ' x) (by omega)
          rw [a2] at this
          omega
  have h2 : lstF h n = ((List.range n).map σ).map f := by
    unfold lstF
    rw [List.map_map]
    exact List.map_congr_left fun x _ => a1 x
  rw [h2]
  exact h1.map f
theorem SortedOn.pairs (s : SortedOn 0 n h) : (lstF h n).Pairwise (· ≤ ·) := by
  unfold lstF
  rw [List.pairwise_map, List.pairwise_iff_getElem]
  intro i j hi hj hij
  simp only [List.length_range] at hi hj
  simp only [List.getElem_range]
  exact s i j (Nat.zero_le _) hij hj
/-- some numbers, by rising size -/
structure NumsIs (P : Nat → Prop) (zs : List Nat) : Prop where
  mem : ∀ m, m ∈ zs ↔ P m
  rises : zs.Pairwise (· < ·)
theorem rises_uniq : ∀ (xs ys : List Nat), xs.Pairwise (· < ·) → ys.Pairwise (· < ·) → (∀ m, m ∈ xs ↔ m ∈ ys) → xs = ys
  | [], [], _, _, _ => rfl
  | [], y :: ys, _, _, h => absurd ((h y).2 List.mem_cons_self) (by simp)
  | x :: xs, [], _, _, h => absurd ((h x).1 List.mem_cons_self) (by simp)
  | x :: xs, y :: ys, hx, hy, h => by
    rw [List.pairwise_cons] at hx hy
    have e : x = y := by
      rcases List.mem_cons.1 ((h x).1 List.mem_cons_self) with e | e
      · exact e
      · rcases List.mem_cons.1 ((h y).2 List.mem_cons_self) with e2 | e2
        · exact e2.symm
        · have := hy.1 x e; have := hx.1 y e2; omega
    subst e
    congr 1
    refine rises_uniq xs ys hx.2 hy.2 fun m => ⟨fun hm => ?_, fun hm => ?_⟩
    · rcases List.mem_cons.1 ((h m).1 (List.mem_cons_of_mem _ hm)) with e | e
      · subst e; have := hx.1 m hm; omega
      · exact e
    · rcases List.mem_cons.1 ((h m).2 (List.mem_cons_of_mem _ hm)) with e | e
      · subst e; have := hy.1 m hm; omega
      · exact e
theorem NumsIs.uniq {P Q : Nat → Prop} {xs ys : List Nat} (h : NumsIs P xs) (k : NumsIs Q ys) (e : ∀ m, P m ↔ Q m) : xs = ys := rises_uniq xs ys h.rises k.rises fun m => (h.mem m).trans ((e m).trans (k.mem m).symm)
theorem strict_of {xs : List Nat} (h : xs.Pairwise (· ≤ ·)) (hn : xs.Nodup) : xs.Pairwise (· < ·) := (h.and hn).imp fun ⟨a, b⟩ => Nat.lt_of_le_of_ne a b
/-- a slice of numbers -/
def Nm (w : World) (a : Option Addr) (n : Nat) (zs : List Nat) : Prop := zs.length = n ∧ (n = 0 ∨ ∃ b off, a = some ⟨b, off, none⟩ ∧ ∀ i (h : i < zs.length), w.cell? ⟨b, off + i, none⟩ = some (encU zs[i]))
theorem Nm.below {a : Option Addr} {zs : List Nat} (h : Nm w a n zs) (t : Below w.heap.size w w') : Nm w' a n zs := by
  refine ⟨h.1, h.2.imp id ?_⟩
  rintro ⟨b, off, e, hc⟩
  exact ⟨b, off, e, fun i hi => (Turned.of_below t).cell (hc i hi) (by simp)⟩
theorem FU.nm (hF : FU w g cap n h) : Nm w (some ⟨g, 0, none⟩) n (lstF h n) := by
  refine ⟨lstF_len _ _, .inr ⟨g, 0, rfl, fun i hi => ?_⟩⟩
  rw [lstF_get, Nat.zero_add]
  exact hF.cell (by rw [lstF_len] at hi; exact hi)
theorem FU.of_owns {base : Nat} {v : Value} {xs : List Nat} (h : w.ownsRow base 23 1 v xs.length (xs.map encU)) (hn : 0 < xs.length) : ∃ g cap, v = .slice (some ⟨g, 0, none⟩) xs.length cap ∧ base ≤ g ∧ cap ≤ maxLen ∧ FU w g cap xs.length (fun i => xs.getD i 0) := by
  obtain ⟨h1, h2⟩ := h
  rcases h2 with ⟨_, h2⟩ | ⟨g, cap, cur, e, hg, hh, hnc, hc, hs, ht⟩
  · omega
  · refine ⟨g, cap, e, hg, hc, cur, hh, by omega, hnc, fun i hi => ?_⟩
    have h3 : (cur.toList.take (xs.length * 1))[i]? = some (encU xs[i]) := by
      rw [ht, List.getElem?_map, List.getElem?_eq_getElem hi]; rfl
    rw [List.getElem?_take] at h3
    split at h3
    · simp only [Array.getElem?_toList] at h3
      rw [h3]
      simp [encU, List.getD, List.getElem?_eq_getElem hi]
    · cases h3
theorem lst_getD (xs : List Nat) : lstF (fun i => xs.getD i 0) xs.length = xs := by
  refine List.ext_getElem (lstF_len _ _) fun i h1 h2 => ?_
  rw [lstF_get]
  simp [List.getD, List.getElem?_eq_getElem h2]
theorem inj_of_nodup {xs : List Nat} (h : xs.Nodup) : ∀ x y, x < xs.length → y < xs.length → (fun i => xs.getD i 0) x = (fun i => xs.getD i 0) y → x = y := fun x y hx hy e => by
  simp only [List.getD, List.getElem?_eq_getElem hx, List.getElem?_eq_getElem hy, Option.getD_some] at e
  exact (List.getElem?_inj hx h).1 (by rw [List.getElem?_eq_getElem hx, List.getElem?_eq_getElem hy, e])
set_option maxRecDepth 100000 in
set_option maxHeartbeats 2000000 in
theorem bitsLen_any (L : Nat) (h1 : 1 ≤ L) (h : L < 22) (w : World) : Calls Tryz.prog 61 #[.int .u64 (L : Nat)] w fun e w' => ∃ lim : Nat, lim ≤ 100 ∧ (12 < L → 1 + (L - 13) / 2 ≤ lim) ∧ e = .returned (.int .i64 ((lim : Nat) : Int)) ∧ w = w' := by
  by_cases h8 : 8 ≤ L
  · exact (bitsLen_small L h8 h w).mono fun e w' ⟨e1, e2⟩ => ⟨_, by split <;> omega, fun h12 => by split <;> omega, e1, e2⟩
  · have hL : L = 1 ∨ L = 2 ∨ L = 3 ∨ L = 4 ∨ L = 5 ∨ L = 6 ∨ L = 7 := by omega
    clear h1 h h8
    rcases hL with rfl | rfl | rfl | rfl | rfl | rfl | rfl
    · go_enter Tryz.func61, Tryz.ntmps61
      go_wp2
      go_ret
      exact ⟨1, by omega, by omega, ret1 (a := wrap64 (wrap64 (Go.Lib.len8 1))) (by decide +kernel), rfl⟩
    · go_enter Tryz.func61, Tryz.ntmps61
      go_wp2
      go_ret
      exact ⟨2, by omega, by omega, ret1 (a := wrap64 (wrap64 (Go.Lib.len8 2))) (by decide +kernel), rfl⟩
    · go_enter Tryz.func61, Tryz.ntmps61
      go_wp2
      go_ret
      exact ⟨2, by omega, by omega, ret1 (a := wrap64 (wrap64 (Go.Lib.len8 3))) (by decide +kernel), rfl⟩
    · go_enter Tryz.func61, Tryz.ntmps61
      go_wp2
      go_ret
      exact ⟨3, by omega, by omega, ret1 (a := wrap64 (wrap64 (Go.Lib.len8 4))) (by decide +kernel), rfl⟩
    · go_enter Tryz.func61, Tryz.ntmps61
      go_wp2
      go_ret
      exact ⟨3, by omega, by omega, ret1 (a := wrap64 (wrap64 (Go.Lib.len8 5))) (by decide +kernel), rfl⟩
    · go_enter Tryz.func61, Tryz.ntmps61
      go_wp2
      go_ret
      exact ⟨3, by omega, by omega, ret1 (a := wrap64 (wrap64 (Go.Lib.len8 6))) (by decide +kernel), rfl⟩
    · go_enter Tryz.func61, Tryz.ntmps61
      go_wp2
      go_ret
      exact ⟨3, by omega, by omega, ret1 (a := wrap64 (wrap64 (Go.Lib.len8 7))) (by decide +kernel), rfl⟩
set_option maxRecDepth 100000 in
theorem sortU_fn (hF : FU w g cap n f) (h1 : 1 ≤ n) (hn : n < 22) (hinj : ∀ x y, x < n → y < n → f x = f y → x = y) : Calls Tryz.prog 45 #[.slice (some ⟨g, 0, none⟩) n cap] w fun e w' => e = .returned (.tuple #[]) ∧ srtU w g cap n 0 n f w' := by
  have CI : Hid (∀ lim : Nat, lim ≤ 100 → (12 < n → 1 + (n - 13) / 2 ≤ lim) → Calls Tryz.prog 60 #[.slice (some ⟨g, 0, none⟩) n cap, .int .i64 0, .int .i64 (n : Nat), .int .i64 (lim : Nat)] w fun e w' => e = .returned (.tuple #[]) ∧ srtU w g cap n 0 n f w') := fun lim h1 h2 => pdqU_fn hn (n + 1) 0 n lim f w (by omega) hF (Nat.le_refl _) (Nat.zero_le _) hinj (by simpa using h2) h1 (.inl rfl)
  have CB := Lib.hid (bitsLen_any n h1 hn)
  have hw : IntKind.u64.wrap (n : Int) = (n : Int) := by rw [wrapU]; omega
  clear hF hinj
  go_enter Tryz.func45, Tryz.ntmps45
  go_wp2_with (first
    | (go_at_call 61; ((with_reducible refine (CB.out _).mono ?_); rintro e w1 ⟨lim, hl1, hl2, rfl, rfl⟩; have HL := Lib.hid (And.intro hl1 hl2); clear hl1 hl2))
    | (go_at_call 60; ((with_reducible refine (CI.out _ HL.out.1 HL.out.2).mono ?_); rintro e w1 ⟨rfl, hs⟩; have S1 := Lib.hid hs; clear hs)))
  go_end0
  exact ⟨rfl, S1.out⟩
end Go.Proofs.YtmpbhoijkcanmaaGreat.R

/- Versions' numbers, sorted: the program's Versions, for any versions; are two rows of numbers the same? -/
namespace Go.Proofs.YtmpbhoijkcanmaaGreat.R
open Go.ChangeShapes Go.WideShapes Go.ChangeAt Go.RowKit Go.Maps Go.Proofs.YtmpbhoijkcanmaaGreat.G Go.Sort Go.Shelf Go.Lib
set_option linter.unusedVariables false
set_option linter.unusedSimpArgs false
set_option linter.unnecessarySimpa false

variable {w ww w' : World} {n m : Nat}
def numsPost (P : Nat → Prop) (w : World) (e : Ending) (w' : World) : Prop := ∃ a n cap zs, e = .returned (.slice a n cap) ∧ NumsIs P zs ∧ Nm w' a n zs ∧ n ≤ maxLen ∧ Below w.heap.size w w'
set_option maxRecDepth 100000 in
theorem sortedU_fn (b : Nat) (L : List (Nat × Value)) (w : World) (h : MapIs Tryz.prog 23 encU w b L) (h1 : 1 ≤ L.length) (h22 : L.length < 22) :
    Calls Tryz.prog 29 #[.func (.func 46) #[] #[.pointer (some ⟨w.heap.size, 0, none⟩)]] (w.alloc (.cells #[.map (some b)] 74)) (numsPost (fun k => k ∈ L.map (·.1)) w) := by
  have hnd := h.nodup
  have tA := (Turned.refl [] w).alloc (.cells #[.map (some b)] 74)
  have hseq : SeqGives Fence.wide 2 Tryz.prog 46 #[.pointer (some ⟨w.heap.size, 0, none⟩)] encU (fun ss => ss.Perm (L.map (·.1))) L.length (w.alloc (.cells #[.map (some b)] 74)) :=
    keys_givesU Fence.wide _ trivial rfl (by omega) w.heap.size b L _ (by simp) (by simp) (h.turned tA (by simp))
  have cC := collectU_in Fence.wide 4 trivial trivial rfl (by omega) 46 #[.pointer (some ⟨w.heap.size, 0, none⟩)] trivial (enters_of Tryz.func46 (by kernel_rfl) rfl) _ _ (by unfold maxLen; omega) (by omega) _ hseq
  have cC := (callsIn_wide (n := 4)).1 cC
  have CC : Hid (Calls Tryz.prog 44 #[.func (.func 46) #[] #[.pointer (some ⟨w.heap.size, 0, none⟩)]] (w.alloc (.cells #[.map (some b)] 74)) fun e w' => ∃ g n cap, e = .returned (.slice (some ⟨g, 0, none⟩) n cap) ∧ w.heap.size < g ∧ n ≤ maxLen ∧ (Calls Tryz.prog 45 #[.slice (some ⟨g, 0, none⟩) n cap] w' fun e2 w2 => e2 = .returned (.tuple #[]) ∧ ∃ zs, NumsIs (fun k => k ∈ L.map (·.1)) zs ∧ Nm w2 (some ⟨g, 0, none⟩) n zs ∧ Below w.heap.size w w2)) := by
    refine cC.mono fun e w' ⟨v', ss, e1, hS, ho, _, hb⟩ => ?_
    have hl : ss.length = L.length := by rw [hS.length_eq]; simp
    obtain ⟨g, cap, rfl, hg, hc, hF⟩ := FU.of_owns ho (by omega)
    rw [World.size_alloc] at hg
    have hb0 : Below w.heap.size w w' := (tA.trans ((Turned.of_below hb).mono (fun _ _ h => by cases h))).below
    have hsn : ss.Nodup := hS.nodup_iff.2 hnd
    refine ⟨g, ss.length, cap, e1, by omega, by unfold maxLen; omega, (sortU_fn hF (by omega) (by omega) (inj_of_nodup hsn)).mono fun e2 w2 ⟨q1, hh, q2, q3, q4, q5⟩ => ⟨q1, lstF hh ss.length, ⟨fun k => ?_, ?_⟩, q2.nm, Turned.below_of hb0 q3 (by simp; omega)⟩⟩
    · have := q4.perm
      rw [lst_getD] at this
      rw [this.mem_iff, hS.mem_iff]
    · refine strict_of q5.pairs ?_
      have := q4.perm
      rw [lst_getD] at this
      exact this.nodup_iff.2 hsn
  clear cC hseq h tA hnd
  generalize w.alloc (.cells #[.map (some b)] 74) = wA at *
  obtain ⟨B, hB⟩ : ∃ B, w.heap.size = B := ⟨_, rfl⟩
  rw [hB] at CC ⊢
  have HBe := Lib.hid hB
  clear hB
  go_enter Tryz.func29, Tryz.ntmps29
  go_wp2_with (first
    | (go_at_call 44; ((with_reducible refine CC.out.mono ?_); rintro e w1 ⟨g, n, cap, rfl, hg, hn, hc⟩; have H1 := Lib.hid hc; have H2 := Lib.hid hn; clear hc hg hn))
    | (go_at_call 45; ((with_reducible refine H1.out.mono ?_); rintro e w2 ⟨rfl, hz⟩; have H3 := Lib.hid hz; clear hz)))
  go_ret
  obtain ⟨zs, h1, h2, h3⟩ := H3.out
  exact ⟨_, _, _, zs, rfl, h1, h2, H2.out, by rw [HBe.out]; exact h3⟩
set_option maxRecDepth 100000 in
theorem rvers_fn {w ww : World} {rb L : Nat} {R : Ro} {F : Fo} {Kx : List (Nat × Obj)} {f mb : Nat} {mo : Obj} {blk : Nat → Nat} (h : RtA w ww rb L R F Kx f mb mo blk) (h1 : 1 ≤ R.vs.length) (h22 : R.vs.length < 22) : Calls Tryz.prog 11 #[.pointer (some ⟨rb, 0, none⟩)] ww (numsPost (fun k => k ∈ keysV R.vs) ww) := by
  have c1 := h.c1
  have CN := Lib.hid (rnone_fn h)
  have hl : (vL blk R.vs).length = R.vs.length := by unfold vL; simp
  have hk : (vL blk R.vs).map (·.1) = keysV R.vs := by unfold vL keysV; rw [List.map_map]; rfl
  have hs := sortedU_fn mb _ ww h.map (by omega) (by omega)
  rw [hk] at hs
  have CS := Lib.hid hs
  have CK := Lib.hid (keysFV mb ww)
  clear h hs hl hk
  generalize ww.alloc (.cells #[.map (some mb)] 74) = wA at *
  obtain ⟨B, hB⟩ : ∃ B, ww.heap.size = B := ⟨_, rfl⟩
  rw [hB] at CS CK
  clear hB
  go_enter Tryz.func11, Tryz.ntmps11
  go_wp2_with (first
    | (go_at_call 28; ((with_reducible refine CN.out.mono ?_); rintro e ww2 ⟨rfl, rfl⟩))
    | (go_at_call 30; ((with_reducible refine CK.out.mono ?_); rintro e w1 ⟨rfl, rfl⟩))
    | (go_at_call 29; ((with_reducible refine CS.out.mono ?_); rintro e w2 ⟨a, n, cap, zs, rfl, hr⟩; have HR := Lib.hid hr; clear hr)))
  go_ret
  exact ⟨a, n, cap, zs, rfl, HR.out⟩
set_option maxRecDepth 100000 in
set_option maxHeartbeats 1000000 in
theorem sameNums_fn (xs ys : List Nat) (a a' : Option Addr) (n n' cap cap' : Nat) (w : World) (h : Nm w a n xs) (h' : Nm w a' n' ys) (hn : n ≤ maxLen) (hn' : n' ≤ maxLen) :
    Calls Tryz.prog 10 #[.slice a n cap, .slice a' n' cap'] w fun e w' => e = .returned (.bool (decide (xs = ys))) ∧ Below w.heap.size w w' := by
  unfold maxLen at hn hn'
  by_cases hne : n = n'
  · subst hne
    have hl := h.1
    have hl' := h'.1
    have H := Lib.hid h
    have H' := Lib.hid h'
    have HL := Lib.hid (And.intro hl hl')
    obtain ⟨R, hR⟩ : ∃ R, decide (xs = ys) = R := ⟨_, rfl⟩
    rw [hR]
    have HR := Lib.hid hR
    clear h h' hl hl' hR hn'
    go_enter Tryz.func10, Tryz.ntmps10
    go_wp2
    go_loopw [5] (fun v wr => ∃ i : Nat, i ≤ n ∧ v = .int .i64 i ∧ Hid ((∀ j, j < i → xs[j]? = ys[j]?) ∧ Below w.heap.size w wr)) (fun v _ => n - (intOf v).toNat)
    case atStart => exact ⟨0, Nat.zero_le _, rfl, fun j hj => absurd hj (Nat.not_lt_zero _), Below.refl _ _⟩
    case round =>
      obtain ⟨i, hi, rfl, hB⟩ := hrel
      by_cases hlt : i < n
      · have hix : i < xs.length := by rw [HL.out.1]; exact hlt
        have hiy : i < ys.length := by rw [HL.out.2]; exact hlt
        obtain ⟨b, off, rfl, c0⟩ := (H.out.below hB.out.2).2.resolve_left (by omega)
        obtain ⟨b', off', rfl, d0⟩ := (H'.out.below hB.out.2).2.resolve_left (by omega)
        have c0 := c0 i hix
        have d0 := d0 i hiy
        unfold encU at c0 d0
        have HX := Lib.hid (And.intro (List.getElem?_eq_getElem hix) (List.getElem?_eq_getElem hiy))
        generalize xs[i] = x at *
        generalize ys[i] = y at *
        have HB2 : Hid (∀ k, Below w.heap.size w (wr.drewN k)) := fun k => hB.out.2.trans ((Turned.refl [] wr).drewN k |>.below.mono hB.out.2.size)
        by_cases hxy : x = y
        · subst hxy
          have H2 : Hid (∀ j, j < i + 1 → xs[j]? = ys[j]?) := fun j hj => by
            by_cases e : j = i
            · subst e; rw [HX.out.1, HX.out.2]
            · exact hB.out.1 j (by omega)
          clear hB HX hix hiy
          go_upto_region 6 with fail
          go_quiet (fail)
          go_wp2
          go_roundw
          case rel => exact ⟨i + 1, by omega, by go_num, H2.out, HB2.out _⟩
          case measure => simp [intOf]; omega
        · have hb : ((x : Int) == (y : Int)) = false := by simp; omega
          have hb2 := bne_of hb
          have hRf : Hid (R = false) := by
            rw [← HR.out]
            refine decide_eq_false fun e => ?_
            rw [e] at HX
            have h1 := HX.out.1
            rw [HX.out.2] at h1
            exact hxy (Option.some.inj h1).symm
          clear hB HX hix hiy hxy
          go_upto_region 6 with fail
          go_quiet (fail)
          go_wp2
          go_ret
          rw [hRf.out]
          exact ⟨rfl, HB2.out _⟩
      · obtain rfl : i = n := by omega
        have hRt : Hid (R = true) := by
          rw [← HR.out]
          refine decide_eq_true (List.ext_getElem? fun j => ?_)
          rcases Nat.lt_or_ge j i with q | q
          · exact hB.out.1 j q
          · rw [List.getElem?_eq_none (by rw [HL.out.1]; exact q), List.getElem?_eq_none (by rw [HL.out.2]; exact q)]
        have HB2 := Lib.hid hB.out.2
        clear hB hlt
        go_wp2
        go_ret
        rw [hRt.out]
        exact ⟨rfl, HB2.out⟩
  · have hb : ((n : Int) == (n' : Int)) = false := by simp; omega
    have hb2 := bne_of hb
    have hR : decide (xs = ys) = false := decide_eq_false fun e => hne (by rw [← h.1, ← h'.1, e])
    rw [hR]
    have HB2 := Lib.hid (Below.refl w.heap.size w)
    clear h h' hR
    go_enter Tryz.func10, Tryz.ntmps10
    go_wp2
    go_ret
    exact ⟨rfl, HB2.out⟩
end Go.Proofs.YtmpbhoijkcanmaaGreat.R
