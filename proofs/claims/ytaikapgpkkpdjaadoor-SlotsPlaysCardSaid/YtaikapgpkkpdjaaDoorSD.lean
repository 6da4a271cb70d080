/- Slots: new ones. -/
import Derived.Test.YtaikapgpkkpdjaaDoorSC
import Derived.Carry
namespace Go.Proofs.YtaikapgpkkpdjaaDoor.L
open Go.ChangeShapes Go.WideShapes Go.ChangeAt Go.RowKit Go.Maps Go.Proofs.YtaikapgpkkpdjaaDoor.G
set_option linter.unusedVariables false
set_option linter.unusedSimpArgs false

theorem info75 : (Tryd.prog.info? 75).map (fun i => (i.zero, i.size, i.bytes)) = some (some (.agg #[.int .i64 0, .int .u64 0]), 2, 16) := by kernel_rfl
theorem make63 (n : Nat) (hn : n ≤ 16384) (w : World) :
    (Instr.makeSlice 63 (.int .i64 (n : Int)) (.int .i64 (n : Int))).run Tryd.prog w = .ok (.slice (some ⟨w.heap.size, 0, none⟩) n n) (w.alloc (.cells (madeCells #[.int .i64 0, .int .u64 0] (n * 2)) 75)) := by
  obtain ⟨i, hi, hzz⟩ := Option.map_eq_some_iff.1 info75
  simp only [Prod.mk.injEq] at hzz
  obtain ⟨hz, hs, hb⟩ := hzz
  have hr := run_make (P := Tryd.prog) w 63 75 i _ Tryd.underlying63 hi hz .i64 .i64 n n (by omega) (Int.le_refl _) (by rw [hb]; omega) (by omega)
  simp only [Int.toNat_natCast, hs] at hr
  exact hr
theorem made_row (n : Nat) (hn : n ≤ 16384) (w : World) : ExtsAt (w.alloc (.cells (madeCells #[.int .i64 0, .int .u64 0] (n * 2)) 75)) w.heap.size n (fun _ => (0, 0)) := by
  refine ⟨⟨_, heap_alloc_new _ _, size_madeCells _ _, fun i hi => ?_⟩, fun i hi => ⟨by simp, by simp⟩, hn⟩
  simp only [madeCells, Array.getElem?_map, Array.getElem?_range, hi, if_true, Option.map_some]
  unfold cellX
  have : i % 2 = 0 ∨ i % 2 = 1 := by omega
  rcases this with h | h <;> simp [h]

def newPost (n : Nat) (pg : Int) (w : World) (e : Ending) (w' : World) : Prop := ∃ bs be bm, e = .returned (.tuple #[.pointer (some ⟨bs, 0, none⟩), .int .i64 0]) ∧ SlotsAt w' bs be bm n pg (fun _ => (0, 0)) [] ∧ w.heap.size ≤ bs ∧ w.heap.size ≤ be ∧ w.heap.size ≤ bm ∧ Turned [] w w'

theorem new_end (n : Nat) (hn : n ≤ 16384) (pg : Int) (w : World) (hT : Tab w) :
    SlotsAt (((w.alloc (.cells (madeCells #[.int .i64 0, .int .u64 0] (n * 2)) 75)).alloc (.map #[] 0)).alloc (.cells #[.int .i64 pg, .slice (some ⟨w.heap.size, 0, none⟩) n n, .map (some (w.heap.size + 1))] 66)) (w.heap.size + 2) w.heap.size (w.heap.size + 1) n pg (fun _ => (0, 0)) [] := by
  have t1 := (Turned.refl [] w).alloc (.cells (madeCells #[.int .i64 0, .int .u64 0] (n * 2)) 75)
  have t2 := (Turned.refl [] (w.alloc (.cells (madeCells #[.int .i64 0, .int .u64 0] (n * 2)) 75))).alloc (.map #[] 0)
  have t3 := (Turned.refl [] ((w.alloc (.cells (madeCells #[.int .i64 0, .int .u64 0] (n * 2)) 75)).alloc (.map #[] 0))).alloc (.cells #[.int .i64 pg, .slice (some ⟨w.heap.size, 0, none⟩) n n, .map (some (w.heap.size + 1))] 66)
  have hsz : ((w.alloc (.cells (madeCells #[.int .i64 0, .int .u64 0] (n * 2)) 75)).alloc (.map #[] 0)).heap.size = w.heap.size + 2 := by simp
  have hsz1 : (w.alloc (.cells (madeCells #[.int .i64 0, .int .u64 0] (n * 2)) 75)).heap.size = w.heap.size + 1 := by simp
  have hc : ∀ j u, [Value.int .i64 pg, .slice (some ⟨w.heap.size, 0, none⟩) n n, .map (some (w.heap.size + 1))][j]? = some u → (((w.alloc (.cells (madeCells #[.int .i64 0, .int .u64 0] (n * 2)) 75)).alloc (.map #[] 0)).alloc (.cells #[.int .i64 pg, .slice (some ⟨w.heap.size, 0, none⟩) n n, .map (some (w.heap.size + 1))] 66)).cell? ((⟨w.heap.size + 2, 0, none⟩ : Addr).add j) = some u := by
    intro j u hu
    rw [← hsz]
    exact cells_new _ _ 66 j u hu
  have hl := hT.lt
  refine ⟨hc 0 _ rfl, hc 1 _ rfl, hc 2 _ rfl, (made_row n hn w).turned (t2.trans t3) (by simp), ?_, hT.turned (t1.trans (t2.trans t3)) (by simp), by omega, by omega, by omega, by omega, by omega⟩
  have hm : MapIs Tryd.prog 24 encS ((w.alloc (.cells (madeCells #[.int .i64 0, .int .u64 0] (n * 2)) 75)).alloc (.map #[] 0)) (w.heap.size + 1) ([] : States) := by
    refine ⟨#[], 0, ?_, rfl, List.nodup_nil, by simp, by simp, by simp⟩
    rw [← hsz1]
    exact heap_alloc_new _ _
  exact hm.turned t3 (by simp)

set_option maxHeartbeats 2000000 in
theorem new_ok (sz pg : Int) (n : Nat) (hp : isPage pg = true) (h0 : 0 ≤ sz) (h1 : sz ≤ 16777216) (hn : sz / (4 * pg) = n) (w : World) (hT : Tab w) : Calls Tryd.prog 9 #[.int .i64 sz, .int .i64 pg] w (newPost n pg w) := by
  have CP := Lib.hid (page pg)
  rw [hp] at CP
  have hpp : pg = 1024 ∨ pg = 2048 ∨ pg = 4096 ∨ pg = 8192 ∨ pg = 16384 := by unfold isPage at hp; simpa [or_assoc] using hp
  clear hp
  have hmm := @run_makeMap Tryd.prog
  have hn4 : n ≤ 16384 := by rcases hpp with rfl | rfl | rfl | rfl | rfl <;> omega
  have hmk := make63 n hn4
  have HE := Lib.hid (new_end n hn4 pg w hT)
  have HTt : Hid (Turned [] w (((w.alloc (.cells (madeCells #[.int .i64 0, .int .u64 0] (n * 2)) 75)).alloc (.map #[] 0)).alloc (.cells #[.int .i64 pg, .slice (some ⟨w.heap.size, 0, none⟩) n n, .map (some (w.heap.size + 1))] 66))) := (((Turned.refl [] w).alloc _).alloc _).alloc _
  unfold newPost
  rcases hpp with rfl | rfl | rfl | rfl | rfl
  · have hq : sz / 4096 = n := hn
    clear hn hT
    go_enter Tryd.func9, Tryd.ntmps9
    go_wp2_with (go_at_call 27; ((with_reducible refine (CP.out _).mono ?_); rintro e ww ⟨rfl, rfl⟩))
    go_ret2
    exact ⟨_, _, _, rfl, HE.out, by omega, by omega, by omega, HTt.out⟩
  · have hq : sz / 8192 = n := hn
    clear hn hT
    go_enter Tryd.func9, Tryd.ntmps9
    go_wp2_with (go_at_call 27; ((with_reducible refine (CP.out _).mono ?_); rintro e ww ⟨rfl, rfl⟩))
    go_ret2
    exact ⟨_, _, _, rfl, HE.out, by omega, by omega, by omega, HTt.out⟩
  · have hq : sz / 16384 = n := hn
    clear hn hT
    go_enter Tryd.func9, Tryd.ntmps9
    go_wp2_with (go_at_call 27; ((with_reducible refine (CP.out _).mono ?_); rintro e ww ⟨rfl, rfl⟩))
    go_ret2
    exact ⟨_, _, _, rfl, HE.out, by omega, by omega, by omega, HTt.out⟩
  · have hq : sz / 32768 = n := hn
    clear hn hT
    go_enter Tryd.func9, Tryd.ntmps9
    go_wp2_with (go_at_call 27; ((with_reducible refine (CP.out _).mono ?_); rintro e ww ⟨rfl, rfl⟩))
    go_ret2
    exact ⟨_, _, _, rfl, HE.out, by omega, by omega, by omega, HTt.out⟩
  · have hq : sz / 65536 = n := hn
    clear hn hT
    go_enter Tryd.func9, Tryd.ntmps9
    go_wp2_with (go_at_call 27; ((with_reducible refine (CP.out _).mono ?_); rintro e ww ⟨rfl, rfl⟩))
    go_ret2
    exact ⟨_, _, _, rfl, HE.out, by omega, by omega, by omega, HTt.out⟩
end Go.Proofs.YtaikapgpkkpdjaaDoor.L
