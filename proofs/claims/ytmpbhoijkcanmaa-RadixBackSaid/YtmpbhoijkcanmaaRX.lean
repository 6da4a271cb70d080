/- Radix: New; All. -/
import Derived.Test.YtmpbhoijkcanmaaRW
namespace Go.Proofs.Ytmpbhoijkcanmaa.R
open Go.ChangeShapes Go.WideShapes Go.ChangeAt Go.RowKit Go.Maps Go.Proofs.Ytmpbhoijkcanmaa.G
set_option linter.unusedVariables false
set_option linter.unusedSimpArgs false
set_option linter.unnecessarySimpa false

variable {F G : Fo} {w w' : World} {p : Pf} {L : Nat}
/-- the forest of nothing -/
def fo0 : Fo := ⟨[], fun _ => zeroN, [], [], 0, fun _ => 0⟩
theorem fo0_ok : Ok fo0 0 :=
  ⟨⟨List.nodup_nil, fun i h => (by cases h), fun i h => (by cases h), fun i h => (by cases h), fun i h => (by cases h), fun i h => (by cases h), fun r h => (by
    have : cnt fo0.held r = 0 := rfl
    omega), fun s => rfl, fun i h => (by cases h)⟩, Nat.le_refl _, fun r => Nat.le_refl _⟩
def newP (n : Nat) : Pf := ⟨n + 3, n, n + 1, n + 2, fun _ => 0⟩
set_option maxRecDepth 100000 in
theorem new_fn (w : World) : Calls Try.prog 11 #[] w fun e w' => e = .returned (.pointer (some ⟨w.heap.size + 3, 0, none⟩)) ∧ FoAt w' (newP w.heap.size) fo0 ∧ Below w.heap.size w w' := by
  have hmm := @run_makeMap Try.prog
  have HE : Hid (FoAt ((((w.alloc (.map #[] 0)).alloc (.map #[] 0)).alloc (.map #[] 0)).alloc (.cells #[.map (some w.heap.size), .map (some (w.heap.size + 1)), .map (some (w.heap.size + 2)), .int .i64 0] 90)) (newP w.heap.size) fo0 ∧
      Below w.heap.size w ((((w.alloc (.map #[] 0)).alloc (.map #[] 0)).alloc (.map #[] 0)).alloc (.cells #[.map (some w.heap.size), .map (some (w.heap.size + 1)), .map (some (w.heap.size + 2)), .int .i64 0] 90))) := by
    have m0 := MapIs.made (P := Try.prog) (kt := 3) (enc := encI) w
    have m1 := MapIs.made (P := Try.prog) (kt := 3) (enc := encI) (w.alloc (.map #[] 0))
    have m2 := MapIs.made (P := Try.prog) (kt := 31) (enc := encS) ((w.alloc (.map #[] 0)).alloc (.map #[] 0))
    have hs1 : (w.alloc (.map #[] 0)).heap.size = w.heap.size + 1 := by simp
    have hs2 : ((w.alloc (.map #[] 0)).alloc (.map #[] 0)).heap.size = w.heap.size + 2 := by simp
    have hs3 : (((w.alloc (.map #[] 0)).alloc (.map #[] 0)).alloc (.map #[] 0)).heap.size = w.heap.size + 3 := by simp
    rw [hs1] at m1
    rw [hs2] at m2
    have m0' := ((m0.alloc (.map #[] 0)).alloc (.map #[] 0))
    have m1' := m1.alloc (.map #[] 0)
    have hb : Below w.heap.size w (((w.alloc (.map #[] 0)).alloc (.map #[] 0)).alloc (.map #[] 0)) := ((((Turned.refl [] w).alloc _).alloc _).alloc _).below
    generalize (((w.alloc (.map #[] 0)).alloc (.map #[] 0)).alloc (.map #[] 0)) = w3 at *
    have hnew := fun q u hq => cells_new w3 [.map (some w.heap.size), .map (some (w.heap.size + 1)), .map (some (w.heap.size + 2)), .int .i64 0] 90 q u hq
    rw [hs3] at hnew
    have n0 := hnew 0 _ rfl
    have n1 := hnew 1 _ rfl
    have n2 := hnew 2 _ rfl
    have n3 := hnew 3 _ rfl
    rw [Addr.add_mid, Nat.zero_add] at n0 n1 n2 n3
    refine ⟨⟨n0, n1, n2, n3, fun j => ?_, m0'.alloc _, m1'.alloc _, m2.alloc _, fun i h => (by cases h), NumL.nil, NumL.nil, fun i j h => (by cases h), fun i h => (by cases h), ?_⟩, ?_⟩
    · have : (w3.alloc (.cells #[.map (some w.heap.size), .map (some (w.heap.size + 1)), .map (some (w.heap.size + 2)), .int .i64 0] 90)).heap[w.heap.size + 3]? = some (.cells #[.map (some w.heap.size), .map (some (w.heap.size + 1)), .map (some (w.heap.size + 2)), .int .i64 0] 90 (0, 0)) := by
        rw [← hs3]; exact World.alloc_heap_new w3 _
      show World.frozen? _ ⟨w.heap.size + 3, j, none⟩ = false
      simp [World.frozen?, this]
    · show (w.heap.size + 3 ≠ w.heap.size ∧ w.heap.size + 3 ≠ w.heap.size + 1 ∧ w.heap.size + 3 ≠ w.heap.size + 2) ∧ (w.heap.size ≠ w.heap.size + 1 ∧ w.heap.size ≠ w.heap.size + 2) ∧ w.heap.size + 1 ≠ w.heap.size + 2
      omega
    · exact ((Turned.of_below hb).alloc _).below
  go_enter Try.func11, Try.ntmps11
  go_wp2
  go_ret
  exact ⟨rfl, HE.out⟩

/-! ### All -/
theorem owns_turned {base : Nat} {e : TypeId} {size : Nat} {v : Value} {n : Nat} {xs : List Value} (h : w.ownsRow base e size v n xs) {S : List Nat} (t : Turned S w w') (hS : ∀ i ∈ S, i < base) : w'.ownsRow base e size v n xs := by
  refine ⟨h.1, h.2.imp id ?_⟩
  rintro ⟨g, cap, cur, e1, e2, e3, e4⟩
  exact ⟨g, cap, cur, e1, e2, t.at e3 (fun hm => by have := hS g hm; omega), e4⟩
theorem own_above {base : Nat} {e : TypeId} {size : Nat} {v : Value} {n : Nat} {xs : List Value} (h : w.ownsRow base e size v n xs) : ∀ k, v.ownBlock = some k → base ≤ k := fun k hk => (h.lt k hk).1
abbrev Pr := Nat × Ent
def encP (x : Pr) : List Value := [.int .i64 (x.1 : Nat), .int .i64 x.2.s.e, .int .i64 x.2.s.c, .int .i64 x.2.s.i, .int .i64 x.2.g]
def flatP (l : List Pr) : List Value := l.flatMap encP
theorem flatP_snoc (l : List Pr) (x : Pr) : flatP (l ++ [x]) = flatP l ++ encP x := by unfold flatP; simp
/-- all entries, by pages -/
def allL (g : Nat → Option Ent) (n : Nat) : List Pr := (List.range n).filterMap fun q => (g q).map fun e => (q, e)
theorem allL_succ (g : Nat → Option Ent) (n : Nat) : allL g (n + 1) = allL g n ++ (match g n with | some e => [(n, e)] | none => []) := by
  unfold allL
  rw [List.range_succ, List.filterMap_append]
  congr 1
  cases h : g n <;> simp [h]
theorem allL_len (g : Nat → Option Ent) (n : Nat) : (allL g n).length ≤ n := by
  unfold allL
  exact Nat.le_trans (List.length_filterMap_le _ _) (by simp)
def allPost (g : Nat → Option Ent) (w : World) (e : Ending) (w' : World) : Prop := ∃ v, e = .returned v ∧ w'.ownsRow w.heap.size 43 5 v (allL g 4096).length (flatP (allL g 4096)) ∧ Below w.heap.size w w'
theorem infoPr : ∃ i0, Try.prog.info? 43 = some i0 ∧ i0.zero = some (.agg #[.int .i64 0, .int .i64 0, .int .i64 0, .int .i64 0, .int .i64 0]) ∧ i0.size = 5 ∧ i0.bytes = 40 := by
  have h : (Try.prog.info? 43).map (fun i => (i.zero, i.size, i.bytes)) = some (some (.agg #[.int .i64 0, .int .i64 0, .int .i64 0, .int .i64 0, .int .i64 0]), 5, 40) := by kernel_rfl
  cases e : Try.prog.info? 43 with
  | none => rw [e] at h; simp at h
  | some i =>
    rw [e] at h
    simp only [Option.map_some, Option.some.injEq, Prod.mk.injEq] at h
    exact ⟨i, rfl, h.1, h.2.1, h.2.2⟩
structure AllS (w wr : World) (g : Nat → Option Ent) (j : Nat) (v : Value) : Prop where
  own : wr.ownsRow w.heap.size 43 5 v (allL g j).length (flatP (allL g j))
  bl : Below w.heap.size w wr
set_option maxRecDepth 100000 in
set_option maxHeartbeats 1000000 in
theorem all_fn (fv : Value) (r : Int) (g : Nat → Option Ent) (w : World) (hG : ∀ q, q < 4096 → ∀ w', Below w.heap.size w w' → Calls Try.prog 17 #[fv, .int .i64 r, .int .i64 (q : Nat)] w' (getPost (g q) w')) :
    Calls Try.prog 13 #[fv, .int .i64 r] w (allPost g w) := by
  have HG := Lib.hid hG
  obtain ⟨i0, hi, hz0, hz1, hz2⟩ := infoPr
  have S0 : Hid (AllS w w g 0 (.slice none 0 0)) := ⟨⟨rfl, .inl ⟨rfl, rfl⟩⟩, Below.refl _ _⟩
  clear hG
  go_enter Try.func13, Try.ntmps13
  go_wp2
  go_loopw [8, 4] (fun c v wr => ∃ j : Nat, j ≤ 4096 ∧ c = .int .i64 j ∧ Hid (AllS w wr g j v)) (fun c _ _ => 4096 - (intOf c).toNat)
  case atStart => exact ⟨0, by omega, rfl, S0.out⟩
  case round =>
    obtain ⟨j, hj, rfl, hS⟩ := hrel
    clear S0
    by_cases hlt : j < 4096
    · have C := HG.out j hlt wr hS.out.bl
      obtain ⟨o, ho⟩ : ∃ o, g j = o := ⟨_, rfl⟩
      have HO := Lib.hid ho
      rw [ho] at C
      clear ho
      have HSu := Lib.hid (allL_succ g j)
      have HLe := Lib.hid (allL_len g j)
      cases o with
      | none =>
        have C : Hid (Calls Try.prog 17 #[fv, .int .i64 r, .int .i64 (j : Nat)] wr fun e w' => e = .returned (.tuple #[.agg #[.int .i64 0, .int .i64 0, .int .i64 0, .int .i64 0], .bool false]) ∧ Below wr.heap.size wr w') := C
        have HE : Hid (∀ w2, Below wr.heap.size wr w2 → ∀ o, AllS w (w2.alloc o) g (j + 1) u4) := fun w2 hb o => by
          have t := (Turned.of_below hb).alloc o
          have e : allL g (j + 1) = allL g j := by rw [HSu.out, HO.out]; simp
          exact ⟨by rw [e]; exact owns_turned hS.out.own t (by simp), Turned.below_of hS.out.bl t (by simp)⟩
        clear hS
        go_wp2_with (go_at_call 17; ((with_reducible refine C.out.mono ?_); rintro e w2 ⟨rfl, hb⟩; have HB := Lib.hid (HE.out w2 hb); clear hb))
        go_roundw
        case rel => exact ⟨j + 1, by omega, by go_num, HB.out _⟩
        case measure => simp [intOf]; omega
      | some x =>
        obtain ⟨⟨xe, xc, xi⟩, xg⟩ := x
        have C : Hid (Calls Try.prog 17 #[fv, .int .i64 r, .int .i64 (j : Nat)] wr fun e w' => e = .returned (.tuple #[.agg #[.int .i64 xe, .int .i64 xc, .int .i64 xi, .int .i64 xg], .bool true]) ∧ Below wr.heap.size wr w') := C
        have HE : Hid (∀ w2, Below wr.heap.size wr w2 → w.heap.size ≤ w2.heap.size ∧ ∀ o o', ((w2.alloc o).alloc o').ownsRow w.heap.size 43 5 u4 (allL g j).length (flatP (allL g j)) ∧ Below w.heap.size w ((w2.alloc o).alloc o')) := fun w2 hb => by
          have t0 := Turned.of_below hb
          refine ⟨Nat.le_trans hS.out.bl.size t0.size, fun o o' => ?_⟩
          have t := (t0.alloc o).alloc o'
          exact ⟨owns_turned hS.out.own t (by simp), Turned.below_of hS.out.bl t (by simp)⟩
        have HAb := Lib.hid (own_above hS.out.own)
        clear hS
        go_wp2_with (first
          | (go_at_call 17; ((with_reducible refine C.out.mono ?_); rintro e w2 ⟨rfl, hb⟩; obtain ⟨hsz, ho2⟩ := HE.out w2 hb; have HSz := Lib.hid hsz; have HB := Lib.hid ho2; clear hb ho2 hsz))
          | (at_builtin; refine wpList_append_own _ rfl _ _ 40 rfl w.heap.size 43 i0 (.agg #[.int .i64 0, .int .i64 0, .int .i64 0, .int .i64 0, .int .i64 0]) 5 40 Try.underlying40 hi hz0 hz1 hz2 rfl (by decide) _ _ _ rfl (HB.out _ _).1 ⟨w2.heap.size + 1, 0, none⟩ 1 1 (encP (j, ⟨⟨xe, xc, xi⟩, xg⟩)) rfl rfl ?c1 ?c2 ?c3 ?c4 ?c5 ?_))
        case c1 =>
          intro q u hu
          have := cells_new (w2.alloc (.cells #[.int .i64 xe, .int .i64 xc, .int .i64 xi, .int .i64 xg] 33)) (encP (j, ⟨⟨xe, xc, xi⟩, xg⟩)) 43 q u hu
          rw [World.size_alloc] at this
          exact this
        case c2 => intro u hu; simp [encP] at hu; rcases hu with rfl | rfl | rfl | rfl | rfl <;> rfl
        case c3 => have := HLe.out; unfold maxLen; omega
        case c4 => have := HLe.out; omega
        case c5 => have := HSz.out; simp; omega
        intro v' w4 hown' hgrow hnil
        have HA : Hid (AllS w w4 g (j + 1) v') := by
          have e : allL g (j + 1) = allL g j ++ [(j, ⟨⟨xe, xc, xi⟩, xg⟩)] := by rw [HSu.out, HO.out]
          have hb := (HB.out (.cells #[.int .i64 xe, .int .i64 xc, .int .i64 xi, .int .i64 xg] 33) (.cells (encP (j, ⟨⟨xe, xc, xi⟩, xg⟩)).toArray 43)).2
          refine ⟨by rw [e, flatP_snoc, List.length_append]; exact hown', hb.grown hgrow hb.size HAb.out⟩
        clear hown' hgrow hnil
        go_wp2
        go_roundw
        case rel => exact ⟨j + 1, by omega, by go_num, HA.out⟩
        case measure => simp [intOf]; omega
    · have hje : j = 4096 := by omega
      subst hje
      go_wp2
      go_ret
      exact ⟨_, rfl, hS.out.own, hS.out.bl⟩
end Go.Proofs.Ytmpbhoijkcanmaa.R
