/- Maps of pages, and versions of them: lemmas, part 8 of 23. -/
import Derived.Deep.RegionHeld3
import Derived.Lib.SmallJoins
import Derived.Deep.QuietTactic
import Derived.Test.YtmpbhoijkcanmaaGreatQ07

/- Radix: New; All. -/
namespace Go.Proofs.YtmpbhoijkcanmaaGreat.R
open Go.ChangeShapes Go.WideShapes Go.ChangeAt Go.RowKit Go.Maps Go.Proofs.YtmpbhoijkcanmaaGreat.G
set_option linter.unusedVariables false
set_option linter.unusedSimpArgs false
set_option linter.unnecessarySimpa false

variable {F G : Fo} {w w' : World} {p : Pf} {L : Nat}
/-- the forest of nothing -/
def fo0 : Fo := ⟨[], fun _ => zeroN, [], [], 0, fun _ => 0⟩
theorem fo0_ok : Ok fo0 0 :=
  ⟨⟨List.nodup_nil, fun i h => (by cases h), fun i h => (by cases h), fun i h => (by cases h), fun i h => (by cases h), fun i h => (by cases h), fun r h => (by
    have : cnt fo0.held r = 0 := rfl
    omega), fun s => rfl, fun i h => (by cases h)⟩, Nat.le_refl _, fun r => Nat.le_refl _⟩
def newP (n : Nat) : Pf := ⟨n + 3, n, n + 1, n + 2, fun _ => 0⟩
set_option maxRecDepth 100000 in
theorem new_fn (w : World) : Calls Tryz.prog 24 #[] w fun e w' => e = .returned (.pointer (some ⟨w.heap.size + 3, 0, none⟩)) ∧ FoAt w' (newP w.heap.size) fo0 ∧ Below w.heap.size w w' := by
  have hmm := @run_makeMap Tryz.prog
  have HE : Hid (FoAt ((((w.alloc (.map #[] 0)).alloc (.map #[] 0)).alloc (.map #[] 0)).alloc (.cells #[.map (some w.heap.size), .map (some (w.heap.size + 1)), .map (some (w.heap.size + 2)), .int .i64 0] 103)) (newP w.heap.size) fo0 ∧
      Below w.heap.size w ((((w.alloc (.map #[] 0)).alloc (.map #[] 0)).alloc (.map #[] 0)).alloc (.cells #[.map (some w.heap.size), .map (some (w.heap.size + 1)), .map (some (w.heap.size + 2)), .int .i64 0] 103))) := by
    have m0 := MapIs.made (P := Tryz.prog) (kt := 3) (enc := encI) w
    have m1 := MapIs.made (P := Tryz.prog) (kt := 3) (enc := encI) (w.alloc (.map #[] 0))
    have m2 := MapIs.made (P := Tryz.prog) (kt := 45) (enc := encS) ((w.alloc (.map #[] 0)).alloc (.map #[] 0))
    have hs1 : (w.alloc (.map #[] 0)).heap.size = w.heap.size + 1 := by simp
    have hs2 : ((w.alloc (.map #[] 0)).alloc (.map #[] 0)).heap.size = w.heap.size + 2 := by simp
    have hs3 : (((w.alloc (.map #[] 0)).alloc (.map #[] 0)).alloc (.map #[] 0)).heap.size = w.heap.size + 3 := by simp
    rw [hs1] at m1
    rw [hs2] at m2
    have m0' := ((m0.alloc (.map #[] 0)).alloc (.map #[] 0))
    have m1' := m1.alloc (.map #[] 0)
    have hb : Below w.heap.size w (((w.alloc (.map #[] 0)).alloc (.map #[] 0)).alloc (.map #[] 0)) := ((((Turned.refl [] w).alloc _).alloc _).alloc _).below
    generalize (((w.alloc (.map #[] 0)).alloc (.map #[] 0)).alloc (.map #[] 0)) = w3 at *
    have hnew := fun q u hq => cells_new w3 [.map (some w.heap.size), .map (some (w.heap.size + 1)), .map (some (w.heap.size + 2)), .int .i64 0] 103 q u hq
    rw [hs3] at hnew
    have n0 := hnew 0 _ rfl
    have n1 := hnew 1 _ rfl
    have n2 := hnew 2 _ rfl
    have n3 := hnew 3 _ rfl
    rw [Addr.add_mid, Nat.zero_add] at n0 n1 n2 n3
    refine ⟨⟨n0, n1, n2, n3, fun j => ?_, m0'.alloc _, m1'.alloc _, m2.alloc _, fun i h => (by cases h), NumL.nil, NumL.nil, fun i j h => (by cases h), fun i h => (by cases h), ?_⟩, ?_⟩
    · have : (w3.alloc (.cells #[.map (some w.heap.size), .map (some (w.heap.size + 1)), .map (some (w.heap.size + 2)), .int .i64 0] 103)).heap[w.heap.size + 3]? = some (.cells #[.map (some w.heap.size), .map (some (w.heap.size + 1)), .map (some (w.heap.size + 2)), .int .i64 0] 103 (0, 0)) := by
        rw [← hs3]; exact World.alloc_heap_new w3 _
      show World.frozen? _ ⟨w.heap.size + 3, j, none⟩ = false
      simp [World.frozen?, this]
    · show (w.heap.size + 3 ≠ w.heap.size ∧ w.heap.size + 3 ≠ w.heap.size + 1 ∧ w.heap.size + 3 ≠ w.heap.size + 2) ∧ (w.heap.size ≠ w.heap.size + 1 ∧ w.heap.size ≠ w.heap.size + 2) ∧ w.heap.size + 1 ≠ w.heap.size + 2
      omega
    · exact ((Turned.of_below hb).alloc _).below
  go_enter Tryz.func24, Tryz.ntmps24
  go_wp2
  go_ret
  exact ⟨rfl, HE.out⟩

/-! ### All -/
theorem owns_turned {base : Nat} {e : TypeId} {size : Nat} {v : Value} {n : Nat} {xs : List Value} (h : w.ownsRow base e size v n xs) {S : List Nat} (t : Turned S w w') (hS : ∀ i ∈ S, i < base) : w'.ownsRow base e size v n xs := by
  refine ⟨h.1, h.2.imp id ?_⟩
  rintro ⟨g, cap, cur, e1, e2, e3, e4⟩
  exact ⟨g, cap, cur, e1, e2, t.at e3 (fun hm => by have := hS g hm; omega), e4⟩
theorem own_above {base : Nat} {e : TypeId} {size : Nat} {v : Value} {n : Nat} {xs : List Value} (h : w.ownsRow base e size v n xs) : ∀ k, v.ownBlock = some k → base ≤ k := fun k hk => (h.lt k hk).1
abbrev Pr := Nat × Ent
def encP (x : Pr) : List Value := [.int .i64 (x.1 : Nat), .int .i64 x.2.s.e, .int .i64 x.2.s.c, .int .i64 x.2.s.i, .int .i64 x.2.g]
def flatP (l : List Pr) : List Value := l.flatMap encP
theorem flatP_snoc (l : List Pr) (x : Pr) : flatP (l ++ [x]) = flatP l ++ encP x := by unfold flatP; simp
/-- all entries, by pages -/
def allL (g : Nat → Option Ent) (n : Nat) : List Pr := (List.range n).filterMap fun q => (g q).map fun e => (q, e)
theorem allL_succ (g : Nat → Option Ent) (n : Nat) : allL g (n + 1) = allL g n ++ (match g n with | some e => [(n, e)] | none => []) := by
  unfold allL
  rw [List.range_succ, List.filterMap_append]
  congr 1
  cases h : g n <;> simp [h]
theorem allL_len (g : Nat → Option Ent) (n : Nat) : (allL g n).length ≤ n := by
  unfold allL
  exact Nat.le_trans (List.length_filterMap_le _ _) (by simp)
def allPost (g : Nat → Option Ent) (w : World) (e : Ending) (w' : World) : Prop := ∃ v, e = .returned v ∧ w'.ownsRow w.heap.size 88 5 v (allL g 4096).length (flatP (allL g 4096)) ∧ Below w.heap.size w w'
theorem infoPr : ∃ i0, Tryz.prog.info? 88 = some i0 ∧ i0.zero = some (.agg #[.int .i64 0, .int .i64 0, .int .i64 0, .int .i64 0, .int .i64 0]) ∧ i0.size = 5 ∧ i0.bytes = 40 := by
  have h : (Tryz.prog.info? 88).map (fun i => (i.zero, i.size, i.bytes)) = some (some (.agg #[.int .i64 0, .int .i64 0, .int .i64 0, .int .i64 0, .int .i64 0]), 5, 40) := by kernel_rfl
  cases e : Tryz.prog.info? 88 with
  | none => rw [e] at h; simp at h
  | some i =>
    rw [e] at h
    simp only [Option.map_some, Option.some.injEq, Prod.mk.injEq] at h
    exact ⟨i, rfl, h.1, h.2.1, h.2.2⟩
structure AllS (w wr : World) (g : Nat → Option Ent) (j : Nat) (v : Value) : Prop where
  own : wr.ownsRow w.heap.size 88 5 v (allL g j).length (flatP (allL g j))
  bl : Below w.heap.size w wr
set_option maxRecDepth 100000 in
set_option maxHeartbeats 1000000 in
theorem all_fn (fv : Value) (r : Int) (g : Nat → Option Ent) (w : World) (hG : ∀ q, q < 4096 → ∀ w', Below w.heap.size w w' → Calls Tryz.prog 33 #[fv, .int .i64 r, .int .i64 (q : Nat)] w' (getPost (g q) w')) :
    Calls Tryz.prog 34 #[fv, .int .i64 r] w (allPost g w) := by
  have HG := Lib.hid hG
  obtain ⟨i0, hi, hz0, hz1, hz2⟩ := infoPr
  have S0 : Hid (AllS w w g 0 (.slice none 0 0)) := ⟨⟨rfl, .inl ⟨rfl, rfl⟩⟩, Below.refl _ _⟩
  clear hG
  go_enter Tryz.func34, Tryz.ntmps34
  go_wp2
  go_loopw [8, 4] (fun c v wr => ∃ j : Nat, j ≤ 4096 ∧ c = .int .i64 j ∧ Hid (AllS w wr g j v)) (fun c _ _ => 4096 - (intOf c).toNat)
  case atStart => exact ⟨0, by omega, rfl, S0.out⟩
  case round =>
    obtain ⟨j, hj, rfl, hS⟩ := hrel
    clear S0
    by_cases hlt : j < 4096
    · have C := HG.out j hlt wr hS.out.bl
      obtain ⟨o, ho⟩ : ∃ o, g j = o := ⟨_, rfl⟩
      have HO := Lib.hid ho
      rw [ho] at C
      clear ho
      have HSu := Lib.hid (allL_succ g j)
      have HLe := Lib.hid (allL_len g j)
      cases o with
      | none =>
        have C : Hid (Calls Tryz.prog 33 #[fv, .int .i64 r, .int .i64 (j : Nat)] wr fun e w' => e = .returned (.tuple #[.agg #[.int .i64 0, .int .i64 0, .int .i64 0, .int .i64 0], .bool false]) ∧ Below wr.heap.size wr w') := C
        have HE : Hid (∀ w2, Below wr.heap.size wr w2 → ∀ o, AllS w (w2.alloc o) g (j + 1) u4) := fun w2 hb o => by
          have t := (Turned.of_below hb).alloc o
          have e : allL g (j + 1) = allL g j := by rw [HSu.out, HO.out]; simp
          exact ⟨by rw [e]; exact owns_turned hS.out.own t (by simp), Turned.below_of hS.out.bl t (by simp)⟩
        clear hS
        go_wp2_with (go_at_call 33; ((with_reducible refine C.out.mono ?_); rintro e w2 ⟨rfl, hb⟩; have HB := Lib.hid (HE.out w2 hb); clear hb))
        go_roundw
        case rel => exact ⟨j + 1, by omega, by go_num, HB.out _⟩
        case measure => simp [intOf]; omega
      | some x =>
        obtain ⟨⟨xe, xc, xi⟩, xg⟩ := x
        have C : Hid (Calls Tryz.prog 33 #[fv, .int .i64 r, .int .i64 (j : Nat)] wr fun e w' => e = .returned (.tuple #[.agg #[.int .i64 xe, .int .i64 xc, .int .i64 xi, .int .i64 xg], .bool true]) ∧ Below wr.heap.size wr w') := C
        have HE : Hid (∀ w2, Below wr.heap.size wr w2 → w.heap.size ≤ w2.heap.size ∧ ∀ o o', ((w2.alloc o).alloc o').ownsRow w.heap.size 88 5 u4 (allL g j).length (flatP (allL g j)) ∧ Below w.heap.size w ((w2.alloc o).alloc o')) := fun w2 hb => by
          have t0 := Turned.of_below hb
          refine ⟨Nat.le_trans hS.out.bl.size t0.size, fun o o' => ?_⟩
          have t := (t0.alloc o).alloc o'
          exact ⟨owns_turned hS.out.own t (by simp), Turned.below_of hS.out.bl t (by simp)⟩
        have HAb := Lib.hid (own_above hS.out.own)
        clear hS
        go_wp2_with (first
          | (go_at_call 33; ((with_reducible refine C.out.mono ?_); rintro e w2 ⟨rfl, hb⟩; obtain ⟨hsz, ho2⟩ := HE.out w2 hb; have HSz := Lib.hid hsz; have HB := Lib.hid ho2; clear hb ho2 hsz))
          | (at_builtin; refine wpList_append_own _ rfl _ _ 53 rfl w.heap.size 88 i0 (.agg #[.int .i64 0, .int .i64 0, .int .i64 0, .int .i64 0, .int .i64 0]) 5 40 Tryz.underlying53 hi hz0 hz1 hz2 rfl (by decide) _ _ _ rfl (HB.out _ _).1 ⟨w2.heap.size + 1, 0, none⟩ 1 1 (encP (j, ⟨⟨xe, xc, xi⟩, xg⟩)) rfl rfl ?c1 ?c2 ?c3 ?c4 ?c5 ?_))
        case c1 =>
          intro q u hu
          have := cells_new (w2.alloc (.cells #[.int .i64 xe, .int .i64 xc, .int .i64 xi, .int .i64 xg] 47)) (encP (j, ⟨⟨xe, xc, xi⟩, xg⟩)) 88 q u hu
          rw [World.size_alloc] at this
          exact this
        case c2 => intro u hu; simp [encP] at hu; rcases hu with rfl | rfl | rfl | rfl | rfl <;> rfl
        case c3 => have := HLe.out; unfold maxLen; omega
        case c4 => have := HLe.out; omega
        case c5 => have := HSz.out; simp; omega
        intro v' w4 hown' hgrow hnil
        have HA : Hid (AllS w w4 g (j + 1) v') := by
          have e : allL g (j + 1) = allL g j ++ [(j, ⟨⟨xe, xc, xi⟩, xg⟩)] := by rw [HSu.out, HO.out]
          have hb := (HB.out (.cells #[.int .i64 xe, .int .i64 xc, .int .i64 xi, .int .i64 xg] 47) (.cells (encP (j, ⟨⟨xe, xc, xi⟩, xg⟩)).toArray 88)).2
          refine ⟨by rw [e, flatP_snoc, List.length_append]; exact hown', hb.grown hgrow hb.size HAb.out⟩
        clear hown' hgrow hnil
        go_wp2
        go_roundw
        case rel => exact ⟨j + 1, by omega, by go_num, HA.out⟩
        case measure => simp [intOf]; omega
    · have hje : j = 4096 := by omega
      subst hje
      go_wp2
      go_ret
      exact ⟨_, rfl, hS.out.own, hS.out.bl⟩
end Go.Proofs.YtmpbhoijkcanmaaGreat.R

/- Radix: what a forest that is nil answers. -/
namespace Go.Proofs.YtmpbhoijkcanmaaGreat.R
open Go.ChangeShapes Go.WideShapes Go.ChangeAt Go.RowKit Go.Maps Go.Proofs.YtmpbhoijkcanmaaGreat.G
set_option linter.unusedVariables false
set_option linter.unusedSimpArgs false
set_option linter.unnecessarySimpa false

set_option maxRecDepth 100000 in
theorem set_nil (r n : Int) (x : Ent) (w : World) : Calls Tryz.prog 37 #[.pointer none, .int .i64 r, .int .i64 n, encE x] w fun e w' => e = .returned (.tuple #[.int .i64 0, .int .i64 1]) ∧ Below w.heap.size w w' := by
  obtain ⟨⟨xe, xc, xi⟩, xg⟩ := x
  unfold encE
  simp only
  have HB : Hid (Below w.heap.size w (w.alloc (.cells #[.int .i64 xe, .int .i64 xc, .int .i64 xi, .int .i64 xg] 47))) := ((Turned.refl [] w).alloc _).below
  have CN := Lib.hid none_nil
  go_enter Tryz.func37, Tryz.ntmps37
  go_wp2_with (go_at_call 47; ((with_reducible refine (CN.out _).mono ?_); rintro e ww ⟨rfl, rfl⟩))
  go_ret2
  exact ⟨rfl, HB.out⟩
set_option maxRecDepth 100000 in
theorem clear_nil (r n : Int) (w : World) : Calls Tryz.prog 36 #[.pointer none, .int .i64 r, .int .i64 n] w fun e w' => e = .returned (.tuple #[.int .i64 0, .int .i64 1]) ∧ w = w' := by
  have CN := Lib.hid none_nil
  go_enter Tryz.func36, Tryz.ntmps36
  go_wp2_with (go_at_call 47; ((with_reducible refine (CN.out _).mono ?_); rintro e ww ⟨rfl, rfl⟩))
  go_ret2
  exact ⟨rfl, rfl⟩
set_option maxRecDepth 100000 in
theorem drop_nil (r : Int) (w : World) : Calls Tryz.prog 38 #[.pointer none, .int .i64 r] w fun e w' => e = .returned (.tuple #[.slice none 0 0, .int .i64 1]) ∧ w = w' := by
  have CN := Lib.hid none_nil
  go_enter Tryz.func38, Tryz.ntmps38
  go_wp2_with (go_at_call 47; ((with_reducible refine (CN.out _).mono ?_); rintro e ww ⟨rfl, rfl⟩))
  go_ret2
  exact ⟨rfl, rfl⟩
set_option maxRecDepth 100000 in
theorem hold_nil (r : Int) (w : World) : Calls Tryz.prog 35 #[.pointer none, .int .i64 r] w fun e w' => e = .returned (.int .i64 1) ∧ w = w' := by
  have CN := Lib.hid none_nil
  go_enter Tryz.func35, Tryz.ntmps35
  go_wp2_with (go_at_call 47; ((with_reducible refine (CN.out _).mono ?_); rintro e ww ⟨rfl, rfl⟩))
  go_ret
  exact ⟨rfl, rfl⟩
set_option maxRecDepth 100000 in
theorem nodes_nil (w : World) : Calls Tryz.prog 40 #[.pointer none] w fun e w' => e = .returned (.int .i64 0) ∧ w = w' := by
  have CN := Lib.hid none_nil
  go_enter Tryz.func40, Tryz.ntmps40
  go_wp2_with (go_at_call 47; ((with_reducible refine (CN.out _).mono ?_); rintro e ww ⟨rfl, rfl⟩))
  go_ret
  exact ⟨rfl, rfl⟩
set_option maxRecDepth 100000 in
theorem slots_nil (w : World) : Calls Tryz.prog 31 #[.pointer none] w fun e w' => e = .returned (.slice none 0 0) ∧ w = w' := by
  have CN := Lib.hid none_nil
  go_enter Tryz.func31, Tryz.ntmps31
  go_wp2_with (go_at_call 47; ((with_reducible refine (CN.out _).mono ?_); rintro e ww ⟨rfl, rfl⟩))
  go_ret
  exact ⟨rfl, rfl⟩
set_option maxRecDepth 100000 in
theorem get_nil (r q : Int) (w : World) : Calls Tryz.prog 33 #[.pointer none, .int .i64 r, .int .i64 q] w (getPost none w) := by
  have hn := ent_new w 47 zeroE
  have g0 := hn.c0
  have g1 := hn.c1
  have g2 := hn.c2
  have g3 := hn.c3
  simp only [zeroE] at g0 g1 g2 g3
  have HB : Hid (getPost none w (.returned (.tuple #[.agg #[.int .i64 0, .int .i64 0, .int .i64 0, .int .i64 0], .bool false])) (w.alloc (.cells #[.int .i64 0, .int .i64 0, .int .i64 0, .int .i64 0] 47))) := ⟨rfl, ((Turned.refl [] w).alloc _).below⟩
  have CN := Lib.hid none_nil
  clear hn
  go_enter Tryz.func33, Tryz.ntmps33
  go_wp2_with (go_at_call 47; ((with_reducible refine (CN.out _).mono ?_); rintro e ww ⟨rfl, rfl⟩))
  refine bodyPost_ret (v := .tuple #[.agg #[.int .i64 0, .int .i64 0, .int .i64 0, .int .i64 0], .bool false]) (by simp [results, Tryz.results33, go_sem, g0, g1, g2, g3]) rfl HB.out
theorem all_nil (r : Int) (w : World) : Calls Tryz.prog 34 #[.pointer none, .int .i64 r] w (allPost (fun _ => none) w) := all_fn _ _ _ _ fun q _ w' _ => get_nil r q w'
theorem allL_none (n : Nat) : allL (fun _ => none) n = [] := by unfold allL; simp
end Go.Proofs.YtmpbhoijkcanmaaGreat.R

/- Radix: a forest of the law's own: each call's contract. -/
namespace Go.Proofs.YtmpbhoijkcanmaaGreat.R
open Go.ChangeShapes Go.WideShapes Go.ChangeAt Go.RowKit Go.Maps Go.Proofs.YtmpbhoijkcanmaaGreat.G
set_option linter.unusedVariables false
set_option linter.unusedSimpArgs false
set_option linter.unnecessarySimpa false

variable {F G : Fo} {w ww w' : World} {p : Pf} {L : Nat}
/-- a forest that was made since a world; nothing that was there was changed -/
structure LW (w ww : World) (p : Pf) (F : Fo) (L : Nat) : Prop where
  fo : FoAt ww p F
  ok : Ok F L
  new : ∀ b, p.own F b → w.heap.size ≤ b
  bel : Below w.heap.size w ww
theorem LW.calm (h : LW w ww p F L) (b : Below ww.heap.size ww w') : LW w w' p F L := ⟨h.fo.calm (Turned.of_below b), h.ok, h.new, h.bel.trans (b.mono h.bel.size)⟩
theorem LW.alloc (h : LW w ww p F L) (o : Obj) : LW w (ww.alloc o) p F L := h.calm ((Below.refl _ ww).alloc (Nat.le_refl _) o)
theorem LW.more (h : LW w ww p F L) {L' : Nat} (hl : L ≤ L') : LW w ww p F L' := ⟨h.fo, ⟨h.ok.inv, Nat.le_trans h.ok.last hl, fun r => Nat.le_trans (h.ok.held r) hl⟩, h.new, h.bel⟩
theorem LW.below (h : LW w ww p F L) (o : FoOwn p F ww w') : Below w.heap.size w w' := by
  obtain ⟨S, t, hS⟩ := o
  exact Turned.below_of h.bel t (fun b hb => h.new b (hS b hb))
theorem LW.step (h : LW w ww p F L) {p' : Pf} {L' : Nat} (o : FoOwn p F ww w') (hF : FoAt w' p' G) (m : Moved p p' F G ww) (k : Ok G L') : LW w w' p' G L' :=
  ⟨hF, k, fun b hb => by
    rcases m.own hb with h' | h'
    · exact h.new b h'
    · exact Nat.le_trans h.bel.size h', h.below o⟩
theorem LW.cell (h : LW w ww p F L) (o : FoOwn p F ww w') {a : Addr} {v : Value} (ha : ww.cell? a = some v) (hn : ¬ p.own F a.block) : w'.cell? a = some v := o.cell ha hn
/-- the block of a change makes no difference -/
theorem copF_cong {x y : Node} (h : x = y) (F : Fo) (l : Nat) : copF F x l = copF F y l := by rw [h]
theorem alongF_blk (be : Nat) (x : Ent) : ∀ (m : Nat) (F : Fo) (n pg : Nat), alongF m F n pg (.set be x) = alongF m F n pg (.set 0 x)
  | 0, F, n, pg => rfl
  | m + 1, F, n, pg => by
    show copF (alongF m F _ pg (.set be x)).1 _ _ = copF (alongF m F _ pg (.set 0 x)).1 _ _
    rw [alongF_blk be x m]
theorem setF_blk (be : Nat) (x : Ent) (F : Fo) (r pg : Nat) : setF F r pg (.set be x) = setF F r pg (.set 0 x) := by
  unfold setF; rw [alongF_blk]
/-- what is kept when a forest moves -/
theorem set_lw (h : LW w ww p F L) (hL : L ≤ 2 ^ 34) {r pg : Nat} (hr : isB F (r : Int) = true) (hpg : pg < 4096) (x : Ent) (hx : x.ok) :
    Calls Tryz.prog 37 #[.pointer (some ⟨p.f, 0, none⟩), .int .i64 (r : Nat), .int .i64 (pg : Nat), encE x] ww fun e w' => e = .returned (.tuple #[.int .i64 ((setF F r pg (.set 0 x)).2 : Nat), .int .i64 0]) ∧ FoOwn p F ww w' ∧ ∃ p', p'.f = p.f ∧ LW w w' p' (setF F r pg (.set 0 x)).1 (L + 3) :=
  (set_fn h.ok (by omega) hr hpg x hx ww h.fo).mono fun e w' ⟨e1, ⟨p', e2, e3⟩, e4⟩ => by
    rw [setF_blk] at e1 e2 e3
    exact ⟨e1, e4, p', e3.f, h.step e4 e2 e3 (setF_is h.ok (by omega) (h.ok.inv.root hr) hpg (.set 0 x) hx).ok⟩
theorem clear_lw (h : LW w ww p F L) (hL : L ≤ 2 ^ 34) {r pg : Nat} (hr : isB F (r : Int) = true) (hpg : pg < 4096) :
    Calls Tryz.prog 36 #[.pointer (some ⟨p.f, 0, none⟩), .int .i64 (r : Nat), .int .i64 (pg : Nat)] ww fun e w' => e = .returned (.tuple #[.int .i64 ((clearF F r pg).2 : Nat), .int .i64 0]) ∧ FoOwn p F ww w' ∧ ∃ p', p'.f = p.f ∧ LW w w' p' (clearF F r pg).1 (L + 3) :=
  (clear_fn h.ok (by omega) hr hpg ww h.fo).mono fun e w' ⟨e1, ⟨p', e2, e3⟩, e4⟩ =>
    ⟨e1, e4, p', e3.f, h.step e4 e2 e3 (clearF_is h.ok (by omega) (h.ok.inv.root hr) hpg).1⟩
theorem hold_lw (h : LW w ww p F L) (hL : L ≤ 2 ^ 34) {r : Nat} (hr : isB F (r : Int) = true) :
    Calls Tryz.prog 35 #[.pointer (some ⟨p.f, 0, none⟩), .int .i64 (r : Nat)] ww fun e w' => e = .returned (.int .i64 0) ∧ FoOwn p F ww w' ∧ LW w w' p (madeF F r) (L + 1) :=
  (hold_fn h.ok (by omega) hr ww h.fo).mono fun e w' ⟨e1, e2, e3⟩ =>
    ⟨e1, e3, h.step e3 e2 ⟨rfl, rfl, rfl, rfl, fun _ _ => rfl, fun i hi => .inl (by rw [madeF_ids] at hi; exact hi)⟩ ⟨h.ok.inv.made (h.ok.inv.root hr) (.inl rfl), by rw [madeF_last]; have := h.ok.last; omega, fun i => by rw [madeF_held]; have := h.ok.held i; split <;> omega⟩⟩
theorem drop_lw (h : LW w ww p F L) (hL : L ≤ 2 ^ 34) {r : Nat} (hr : isB F (r : Int) = true) :
    Calls Tryz.prog 38 #[.pointer (some ⟨p.f, 0, none⟩), .int .i64 (r : Nat)] ww fun e w' => ∃ (v : Value) (G : Fo) (ys : List Slot), e = .returned (.tuple #[v, .int .i64 0]) ∧ DropIs F L r G ys ∧ w'.ownsRow ww.heap.size 45 3 v ys.length (flat ys) ∧ FoOwn p F ww w' ∧ LW w w' p G L :=
  (drop_fn h.ok (by omega) hr ww h.fo).mono fun e w' ⟨v, G, ys, e1, e2, e3, e4, e5⟩ =>
    ⟨v, G, ys, e1, e2, e3, e5, h.step e5 e4 ⟨rfl, rfl, rfl, rfl, fun _ _ => rfl, fun i hi => .inl (e2.ext.mem i hi)⟩ e2.ok⟩
theorem get_lw (h : LW w ww p F L) (hL : L ≤ 2 ^ 34) {r pg : Nat} (hr : isB F (r : Int) = true) (hpg : pg < 4096) :
    Calls Tryz.prog 33 #[.pointer (some ⟨p.f, 0, none⟩), .int .i64 (r : Nat), .int .i64 (pg : Nat)] ww (getPost (getL 2 F r pg) ww) := get_in h.ok (by omega) hr hpg ww h.fo
theorem all_lw (h : LW w ww p F L) (hL : L ≤ 2 ^ 34) {r : Nat} (hr : isB F (r : Int) = true) :
    Calls Tryz.prog 34 #[.pointer (some ⟨p.f, 0, none⟩), .int .i64 (r : Nat)] ww (allPost (getL 2 F r) ww) :=
  all_fn _ _ _ _ fun q hq w' hb => get_in h.ok (by omega) hr hq w' (h.fo.calm (Turned.of_below hb))
theorem slots_lw (h : LW w ww p F L) (hL : L ≤ 2 ^ 34) : Calls Tryz.prog 31 #[.pointer (some ⟨p.f, 0, none⟩)] ww (slotsPost (HasS F) ww) := slots_fn h.ok hL ww h.fo
theorem nodes_lw (h : LW w ww p F L) : Calls Tryz.prog 40 #[.pointer (some ⟨p.f, 0, none⟩)] ww fun e w' => e = .returned (.int .i64 (F.ids.length : Nat)) ∧ ww = w' := nodes_fn ww h.fo
theorem new_lw (w ww : World) (hb : Below w.heap.size w ww) : Calls Tryz.prog 24 #[] ww fun e w' => ∃ p, e = .returned (.pointer (some ⟨p.f, 0, none⟩)) ∧ ww.heap.size ≤ p.f ∧ Below ww.heap.size ww w' ∧ LW w w' p fo0 0 :=
  (new_fn ww).mono fun e w' ⟨e1, e2, e3⟩ => ⟨newP ww.heap.size, e1, Nat.le_add_right _ _, e3, e2, fo0_ok, fun b hb' => by
    have := hb.size
    have h' : b = ww.heap.size + 3 ∨ b = ww.heap.size ∨ b = ww.heap.size + 1 ∨ b = ww.heap.size + 2 ∨ ∃ i, i ∈ fo0.ids ∧ b = 0 := hb'
    rcases h' with h | h | h | h | ⟨i, hi, _⟩
    · omega
    · omega
    · omega
    · omega
    · exact absurd hi (by show i ∉ ([] : List Nat); simp), hb.trans (e3.mono hb.size)⟩
/-! ### nothing is garbage -/
theorem Ok.reach (h : Ok F L) {i : Nat} (hi : i ∈ F.ids) : 0 < cnt F.held (i : Int) ∨ ∃ m, m ∈ F.ids ∧ ∃ q, q < 16 ∧ (F.nd m).kids q = i := by
  have h1 := h.inv.refs i hi
  have hp := (h.inv.pos i hi).1
  rcases h.inv.live i hi with h2 | h2
  · by_cases h0 : 0 < cnt F.held (i : Int)
    · exact .inl h0
    · exact .inr (refc_some (by omega))
  · omega
theorem Ok.kid (h : Ok F L) {m q : Nat} (hm : m ∈ F.ids) (hq : q < 16) (h0 : (F.nd m).kids q ≠ 0) : (F.nd m).kids q ∈ F.ids := (((h.inv.ok m hm).kid q hq).resolve_left h0).1
theorem Ok.root (h : Ok F L) {i : Nat} (hc : 0 < cnt F.held (i : Int)) : i ∈ F.ids := by
  obtain ⟨n, e, hn, _⟩ := h.inv.held _ hc
  obtain rfl : i = n := by omega
  exact hn
/-- what is left of a map is what it was -/
theorem getL_sub {G : Fo} (h : Ok G L) (e : Ext G F) {r : Nat} (hr : r = 0 ∨ r ∈ G.ids) (q : Nat) : getL 2 F r q = getL 2 G r q := getL_ext h.inv e 2 r q hr
end Go.Proofs.YtmpbhoijkcanmaaGreat.R

/- Radix: alive: the plain law. -/
namespace Go.Proofs.YtmpbhoijkcanmaaGreat.R
open Go.ChangeShapes Go.WideShapes Go.ChangeAt Go.RowKit Go.Maps Go.Proofs.YtmpbhoijkcanmaaGreat.G
set_option linter.unusedVariables false
set_option linter.unusedSimpArgs false
set_option linter.unnecessarySimpa false

def ent (n : Int) : Ent := ⟨⟨n, 0, 0⟩, n⟩
theorem ent_ok1 : (ent 1).ok := by unfold ent Ent.ok Slot.ok I64; decide
theorem ent_ok2 : (ent 2).ok := by unfold ent Ent.ok Slot.ok I64; decide
def vA : Fo × Nat := setF fo0 0 5 (.set 0 (ent 1))
def vB : Fo × Nat := setF vA.1 3 6 (.set 0 (ent 2))
theorem vA_is : SetIs fo0 0 0 5 (.set 0 (ent 1)) vA := setF_is fo0_ok (by omega) (.inl rfl) (by omega) _ ent_ok1
theorem vA_2 : vA.2 = 3 := by decide +kernel
theorem vA_len : vA.1.ids.length = 3 := by decide +kernel
theorem vA_b : isB vA.1 (3 : Nat) = true := by decide +kernel
theorem vB_is : SetIs vA.1 3 3 6 (.set 0 (ent 2)) vB := setF_is vA_is.ok (by omega) (vA_is.ok.inv.root vA_b) (by omega) _ ent_ok2
theorem vB_2 : vB.2 = 6 := by decide +kernel
theorem vB_ids : vB.1.ids = [1, 2, 3, 4, 5, 6] := by decide +kernel
theorem vB_b6 : isB vB.1 (6 : Nat) = true := by decide +kernel
theorem vB_b3 : isB vB.1 (3 : Nat) = true := by decide +kernel
theorem vB_held : cnt vB.1.held 1 = 0 ∧ cnt vB.1.held 2 = 0 ∧ cnt vB.1.held 3 = 1 ∧ cnt vB.1.held 6 = 1 := by decide +kernel
theorem vB_kids : (vB.1.nd 6).kids 0 = 5 ∧ (vB.1.nd 5).kids 0 = 4 ∧ ∀ m, m ∈ [1, 2, 3, 4, 5, 6] → ∀ q, q < 16 → (vB.1.nd m).kids q ≠ 3 ∧ ((vB.1.nd m).kids q = 2 → m = 3) ∧ ((vB.1.nd m).kids q = 1 → m = 2) := by decide +kernel
theorem vB_ents : (vB.1.nd 4).bits.testBit 5 = true ∧ ((vB.1.nd 4).ents 5).s = ⟨1, 0, 0⟩ ∧ (vB.1.nd 4).bits.testBit 6 = true ∧ ((vB.1.nd 4).ents 6).s = ⟨2, 0, 0⟩ ∧ ∀ m, m ∈ [1, 2, 3, 4, 5, 6] → ∀ q, q < 16 → (vB.1.nd m).bits.testBit q = true → ((vB.1.nd m).ents q).s = ⟨1, 0, 0⟩ ∨ ((vB.1.nd m).ents q).s = ⟨2, 0, 0⟩ := by decide +kernel
theorem vB_get (q : Nat) (hq : q < 4096) : getL 2 vB.1 6 q = if q = 6 then some (ent 2) else if q = 5 then some (ent 1) else none := by
  have h1 := vB_is.get q hq
  have h2 := vA_is.get q hq
  rw [vB_2] at h1
  rw [vA_2] at h2
  rw [h1, h2, getL_zero]
  rfl
variable {G : Fo} {ys : List Slot}
theorem vG_mem (h : DropIs vB.1 6 3 G ys) (i : Nat) : i ∈ G.ids ↔ i ∈ [4, 5, 6] := by
  have hk := vB_kids
  have hh := vB_held
  have e := h.ext
  have hi := vB_ids
  have m6 : 6 ∈ G.ids := h.ok.root (by
    have := h.held ((6 : Nat) : Int)
    rw [if_neg (by decide)] at this
    have h6 : cnt vB.1.held ((6 : Nat) : Int) = 1 := hh.2.2.2
    omega)
  have kid : ∀ m, m ∈ G.ids → ∀ q, q < 16 → (vB.1.nd m).kids q ≠ 0 → (vB.1.nd m).kids q ∈ G.ids := fun m hm q hq h0 => by
    have := h.ok.kid hm hq
    rw [← e.kids m hm] at this
    exact this h0
  have m5 : 5 ∈ G.ids := by
    have := kid 6 m6 0 (by omega)
    rw [hk.1] at this
    exact this (by omega)
  have m4 : 4 ∈ G.ids := by
    have := kid 5 m5 0 (by omega)
    rw [hk.2.1] at this
    exact this (by omega)
  have reach : ∀ i, i ∈ G.ids → 0 < cnt G.held (i : Int) ∨ ∃ m, m ∈ G.ids ∧ ∃ q, q < 16 ∧ (vB.1.nd m).kids q = i := fun i hi => by
    rcases h.ok.reach hi with h' | ⟨m, hm, q, hq, h'⟩
    · exact .inl h'
    · exact .inr ⟨m, hm, q, hq, by rw [e.kids m hm]; exact h'⟩
  have inF : ∀ m, m ∈ G.ids → m ∈ [1, 2, 3, 4, 5, 6] := fun m hm => by rw [← hi]; exact e.mem m hm
  have n3 : 3 ∉ G.ids := fun h3 => by
    rcases reach 3 h3 with h' | ⟨m, hm, q, hq, h'⟩
    · have := h.held ((3 : Nat) : Int)
      rw [if_pos ⟨by decide, rfl⟩] at this
      have h6 : cnt vB.1.held ((3 : Nat) : Int) = 1 := hh.2.2.1
      omega
    · exact (hk.2.2 m (inF m hm) q hq).1 h'
  have n2 : 2 ∉ G.ids := fun h3 => by
    rcases reach 2 h3 with h' | ⟨m, hm, q, hq, h'⟩
    · have := h.held ((2 : Nat) : Int)
      rw [if_neg (by decide)] at this
      have h6 : cnt vB.1.held ((2 : Nat) : Int) = 0 := hh.2.1
      omega
    · have := (hk.2.2 m (inF m hm) q hq).2.1 h'
      exact n3 (this ▸ hm)
  have n1 : 1 ∉ G.ids := fun h3 => by
    rcases reach 1 h3 with h' | ⟨m, hm, q, hq, h'⟩
    · have := h.held ((1 : Nat) : Int)
      rw [if_neg (by decide)] at this
      have h6 : cnt vB.1.held ((1 : Nat) : Int) = 0 := hh.1
      omega
    · have := (hk.2.2 m (inF m hm) q hq).2.2 h'
      exact n2 (this ▸ hm)
  constructor
  · intro hm
    have := inF i hm
    simp only [List.mem_cons, List.not_mem_nil, or_false] at this ⊢
    rcases this with rfl | rfl | rfl | h' | h' | h'
    · exact absurd hm n1
    · exact absurd hm n2
    · exact absurd hm n3
    · exact .inl h'
    · exact .inr (.inl h')
    · exact .inr (.inr h')
  · intro hm
    simp only [List.mem_cons, List.not_mem_nil, or_false] at hm
    rcases hm with rfl | rfl | rfl
    · exact m4
    · exact m5
    · exact m6
theorem vG_len (h : DropIs vB.1 6 3 G ys) : G.ids.length = 3 := by
  have : G.ids.Perm [4, 5, 6] := (List.perm_ext_iff_of_nodup h.ok.inv.nd (by decide)).2 fun i => vG_mem h i
  rw [this.length_eq]; rfl
theorem vG_slot (h : DropIs vB.1 6 3 G ys) (s : Slot) : HasS G s ↔ s = ⟨1, 0, 0⟩ ∨ s = ⟨2, 0, 0⟩ := by
  have he := vB_ents
  have e := h.ext
  constructor
  · intro hs
    obtain ⟨m, hm, q, hq, hb, rfl⟩ := HasS.ent h.ok hs
    rw [← e.bits m hm] at hb
    have hmm : m ∈ [1, 2, 3, 4, 5, 6] := by rw [← vB_ids]; exact e.mem m hm
    have := he.2.2.2.2 m hmm q hq hb
    rw [e.ents m hm] at this
    exact this
  · have m4 := (vG_mem h 4).2 (by simp)
    rintro (rfl | rfl)
    · have := HasS.of h.ok (m := 4) (q := 5) m4 (by omega) (by rw [← e.bits 4 m4]; exact he.1)
      rw [← e.ents 4 m4, he.2.1] at this
      exact this
    · have := HasS.of h.ok (m := 4) (q := 6) m4 (by omega) (by rw [← e.bits 4 m4]; exact he.2.2.1)
      rw [← e.ents 4 m4, he.2.2.2.1] at this
      exact this
theorem vB_slot (s : Slot) (hs : HasS vB.1 s) : s = ⟨1, 0, 0⟩ ∨ s = ⟨2, 0, 0⟩ := by
  obtain ⟨m, hm, q, hq, hb, rfl⟩ := HasS.ent vB_is.ok hs
  rw [vB_ids] at hm
  exact vB_ents.2.2.2.2 m hm q hq hb
theorem vG_gone (h : DropIs vB.1 6 3 G ys) : ys = [] := by
  rcases ys with _ | ⟨y, ys⟩
  · rfl
  · have := (h.gone.mem y).1 List.mem_cons_self
    exact absurd ((vG_slot h y).2 (vB_slot y this.1)) this.2
theorem vG_slots (h : DropIs vB.1 6 3 G ys) {zs : List Slot} (hz : SlotsIs (HasS G) zs) : zs.length = 2 := by
  have : zs.Perm [⟨1, 0, 0⟩, ⟨2, 0, 0⟩] := (List.perm_ext_iff_of_nodup hz.nodup (by decide)).2 fun s => by
    rw [hz.mem, vG_slot h]; simp
  rw [this.length_eq]; rfl
theorem vG_b6 (h : DropIs vB.1 6 3 G ys) : isB G (6 : Nat) = true := by
  rw [isB_iff]
  right
  have := h.held ((6 : Nat) : Int)
  rw [if_neg (by decide)] at this
  have h6 : cnt vB.1.held ((6 : Nat) : Int) = 1 := vB_held.2.2.2
  omega
theorem vG_b3 (h : DropIs vB.1 6 3 G ys) : isB G 3 = false := by
  have := h.held ((3 : Nat) : Int)
  rw [if_pos ⟨by decide, rfl⟩] at this
  have h6 : cnt vB.1.held ((3 : Nat) : Int) = 1 := vB_held.2.2.1
  have h0 : cnt G.held 3 = 0 := by
    have : cnt G.held ((3 : Nat) : Int) = 0 := by omega
    exact this
  unfold isB
  rw [h0]
  rfl
theorem allL_congr {f g : Nat → Option Ent} (n : Nat) (h : ∀ q, q < n → f q = g q) : allL f n = allL g n := by
  induction n with
  | zero => rfl
  | succ n ih => rw [allL_succ, allL_succ, ih fun q hq => h q (by omega), h n (by omega)]
theorem vG_all (h : DropIs vB.1 6 3 G ys) : (allL (getL 2 G 6) 4096).length = 2 := by
  rw [allL_congr (g := fun q => if q = 6 then some (ent 2) else if q = 5 then some (ent 1) else none) 4096 fun q hq => by
    rw [← vB_get q hq, ← getL_sub h.ok h.ext (.inr ((vG_mem h 6).2 (by simp)))]]
  decide +kernel
end Go.Proofs.YtmpbhoijkcanmaaGreat.R

/- Radix: a forest of the law's own beside other blocks: each call's contract; alive. -/
namespace Go.Proofs.YtmpbhoijkcanmaaGreat.R
open Go.ChangeShapes Go.WideShapes Go.ChangeAt Go.RowKit Go.Maps Go.Proofs.YtmpbhoijkcanmaaGreat.G
set_option linter.unusedVariables false
set_option linter.unusedSimpArgs false
set_option linter.unnecessarySimpa false

variable {F G : Fo} {w ww w' : World} {p : Pf} {L f : Nat} {K : List (Nat × Obj)}
/-- a forest that was made since a world; blocks beside it that it has no part in -/
def LV (w ww : World) (f : Nat) (F : Fo) (L : Nat) (K : List (Nat × Obj)) : Prop := ∃ p : Pf, p.f = f ∧ LW w ww p F L ∧ ∀ x ∈ K, ww.heap[x.1]? = some x.2 ∧ ¬ p.own F x.1
theorem LV.bel (h : LV w ww f F L K) : Below w.heap.size w ww := let ⟨_, _, h, _⟩ := h; h.bel
theorem LV.ok (h : LV w ww f F L K) : Ok F L := let ⟨_, _, h, _⟩ := h; h.ok
theorem LV.at (h : LV w ww f F L K) {x : Nat × Obj} (hx : x ∈ K) : ww.heap[x.1]? = some x.2 := let ⟨_, _, _, h⟩ := h; (h x hx).1
theorem LV.calm (h : LV w ww f F L K) (b : Below ww.heap.size ww w') : LV w w' f F L K := by
  obtain ⟨p, e, h1, h2⟩ := h
  exact ⟨p, e, h1.calm b, fun x hx => ⟨(Turned.of_below b).at (h2 x hx).1 (by simp), (h2 x hx).2⟩⟩
theorem LV.drew (h : LV w ww f F L K) (n : Nat) : LV w (ww.drewN n) f F L K := h.calm ((Turned.refl [] ww).drewN n).below
theorem LV.put (h : LV w ww f F L K) (o : Obj) : LV w (ww.alloc o) f F L ((ww.heap.size, o) :: K) := by
  obtain ⟨p, e, h1, h2⟩ := h
  refine ⟨p, e, h1.alloc o, fun x hx => ?_⟩
  rcases List.mem_cons.1 hx with rfl | hx
  · exact ⟨World.alloc_heap_new ww o, fun ho => by have := h1.fo.lt ho; omega⟩
  · exact ⟨((Turned.refl [] ww).alloc o).at (h2 x hx).1 (by simp), (h2 x hx).2⟩
theorem LV.step (h : LW w ww p F L) (hK : ∀ x ∈ K, ww.heap[x.1]? = some x.2 ∧ ¬ p.own F x.1) {p' : Pf} {L' : Nat} (o : FoOwn p F ww w') (hF : FoAt w' p' G) (m : Moved p p' F G ww) (k : Ok G L') : LV w w' p.f G L' K := by
  refine ⟨p', m.f, h.step o hF m k, fun x hx => ?_⟩
  obtain ⟨a, b⟩ := hK x hx
  obtain ⟨S, t, hS⟩ := o
  exact ⟨t.at a (fun hm => b (hS _ hm)), fun ho => by
    rcases m.own ho with h' | h'
    · exact b h'
    · have := lt_of_at a; omega⟩
theorem moved_same (hi : ∀ i, i ∈ G.ids → i ∈ F.ids) : Moved p p F G ww := ⟨rfl, rfl, rfl, rfl, fun _ _ => rfl, fun i h => .inl (hi i h)⟩
theorem set_lv (h : LV w ww f F L K) (hL : L ≤ 2 ^ 34) {r pg : Nat} (hr : isB F (r : Int) = true) (hpg : pg < 4096) (x : Ent) (hx : x.ok) :
    Calls Tryz.prog 37 #[.pointer (some ⟨f, 0, none⟩), .int .i64 (r : Nat), .int .i64 (pg : Nat), encE x] ww fun e w' => e = .returned (.tuple #[.int .i64 ((setF F r pg (.set 0 x)).2 : Nat), .int .i64 0]) ∧ LV w w' f (setF F r pg (.set 0 x)).1 (L + 3) K := by
  obtain ⟨p, rfl, h1, h2⟩ := h
  refine (set_fn h1.ok (by omega) hr hpg x hx ww h1.fo).mono fun e w' ⟨e1, ⟨p', e2, e3⟩, e4⟩ => ?_
  rw [setF_blk] at e1 e2 e3
  exact ⟨e1, LV.step h1 h2 e4 e2 e3 (setF_is h1.ok (by omega) (h1.ok.inv.root hr) hpg (.set 0 x) hx).ok⟩
theorem clear_lv (h : LV w ww f F L K) (hL : L ≤ 2 ^ 34) {r pg : Nat} (hr : isB F (r : Int) = true) (hpg : pg < 4096) :
    Calls Tryz.prog 36 #[.pointer (some ⟨f, 0, none⟩), .int .i64 (r : Nat), .int .i64 (pg : Nat)] ww fun e w' => e = .returned (.tuple #[.int .i64 ((clearF F r pg).2 : Nat), .int .i64 0]) ∧ LV w w' f (clearF F r pg).1 (L + 3) K := by
  obtain ⟨p, rfl, h1, h2⟩ := h
  exact (clear_fn h1.ok (by omega) hr hpg ww h1.fo).mono fun e w' ⟨e1, ⟨p', e2, e3⟩, e4⟩ => ⟨e1, LV.step h1 h2 e4 e2 e3 (clearF_is h1.ok (by omega) (h1.ok.inv.root hr) hpg).1⟩
theorem hold_lv (h : LV w ww f F L K) (hL : L ≤ 2 ^ 34) {r : Nat} (hr : isB F (r : Int) = true) :
    Calls Tryz.prog 35 #[.pointer (some ⟨f, 0, none⟩), .int .i64 (r : Nat)] ww fun e w' => e = .returned (.int .i64 0) ∧ LV w w' f (madeF F r) (L + 1) K := by
  obtain ⟨p, rfl, h1, h2⟩ := h
  exact (hold_fn h1.ok (by omega) hr ww h1.fo).mono fun e w' ⟨e1, e2, e3⟩ =>
    ⟨e1, LV.step h1 h2 e3 e2 (moved_same fun i hi => by rw [madeF_ids] at hi; exact hi) ⟨h1.ok.inv.made (h1.ok.inv.root hr) (.inl rfl), by rw [madeF_last]; have := h1.ok.last; omega, fun i => by rw [madeF_held]; have := h1.ok.held i; split <;> omega⟩⟩
theorem drop_lv (h : LV w ww f F L K) (hL : L ≤ 2 ^ 34) {r : Nat} (hr : isB F (r : Int) = true) :
    Calls Tryz.prog 38 #[.pointer (some ⟨f, 0, none⟩), .int .i64 (r : Nat)] ww fun e w' => ∃ (v : Value) (G : Fo) (ys : List Slot), e = .returned (.tuple #[v, .int .i64 0]) ∧ DropIs F L r G ys ∧ w'.ownsRow ww.heap.size 45 3 v ys.length (flat ys) ∧ LV w w' f G L K := by
  obtain ⟨p, rfl, h1, h2⟩ := h
  exact (drop_fn h1.ok (by omega) hr ww h1.fo).mono fun e w' ⟨v, G, ys, e1, e2, e3, e4, e5⟩ => ⟨v, G, ys, e1, e2, e3, LV.step h1 h2 e5 e4 (moved_same fun i hi => e2.ext.mem i hi) e2.ok⟩
theorem get_lv (h : LV w ww f F L K) (hL : L ≤ 2 ^ 34) {r pg : Nat} (hr : isB F (r : Int) = true) (hpg : pg < 4096) :
    Calls Tryz.prog 33 #[.pointer (some ⟨f, 0, none⟩), .int .i64 (r : Nat), .int .i64 (pg : Nat)] ww (getPost (getL 2 F r pg) ww) := by
  obtain ⟨p, rfl, h1, h2⟩ := h
  exact get_lw h1 hL hr hpg
theorem all_lv (h : LV w ww f F L K) (hL : L ≤ 2 ^ 34) {r : Nat} (hr : isB F (r : Int) = true) :
    Calls Tryz.prog 34 #[.pointer (some ⟨f, 0, none⟩), .int .i64 (r : Nat)] ww (allPost (getL 2 F r) ww) := by
  obtain ⟨p, rfl, h1, h2⟩ := h
  exact all_lw h1 hL hr
theorem slots_lv (h : LV w ww f F L K) (hL : L ≤ 2 ^ 34) : Calls Tryz.prog 31 #[.pointer (some ⟨f, 0, none⟩)] ww (slotsPost (HasS F) ww) := by
  obtain ⟨p, rfl, h1, h2⟩ := h
  exact slots_lw h1 hL
theorem nodes_lv (h : LV w ww f F L K) : Calls Tryz.prog 40 #[.pointer (some ⟨f, 0, none⟩)] ww fun e w' => e = .returned (.int .i64 (F.ids.length : Nat)) ∧ ww = w' := by
  obtain ⟨p, rfl, h1, h2⟩ := h
  exact nodes_lw h1
theorem new_lv (hb : Below w.heap.size w ww) : Calls Tryz.prog 24 #[] ww fun e w' => ∃ f, e = .returned (.pointer (some ⟨f, 0, none⟩)) ∧ LV w w' f fo0 0 [] :=
  (new_lw w ww hb).mono fun e w' ⟨p, e1, e2, e3, e4⟩ => ⟨p.f, e1, p, rfl, e4, by simp⟩
theorem slice_of_owns {base : Nat} {t : TypeId} {size : Nat} {v : Value} {n : Nat} {xs : List Value} (h : w.ownsRow base t size v n xs) : ∃ a cap, v = .slice a n cap := by
  rcases h.2 with ⟨rfl, rfl⟩ | ⟨g, cap, cur, rfl, _⟩
  · exact ⟨_, _, rfl⟩
  · exact ⟨_, _, rfl⟩
end Go.Proofs.YtmpbhoijkcanmaaGreat.R

/- Radix: alive: the walk. -/
namespace Go.Proofs.YtmpbhoijkcanmaaGreat.R
open Go.ChangeShapes Go.WideShapes Go.ChangeAt Go.RowKit Go.Maps Go.Proofs.YtmpbhoijkcanmaaGreat.G
set_option linter.unusedVariables false
set_option linter.unusedSimpArgs false
set_option linter.unnecessarySimpa false

abbrev varE (a b c d : Int) : Obj := .cells #[.int .i64 a, .int .i64 b, .int .i64 c, .int .i64 d] 47 (0, 0)
theorem varE_at {w : World} {k : Nat} {a b c d : Int} (h : w.heap[k]? = some (varE a b c d)) : EntAt w k ⟨⟨a, b, c⟩, d⟩ := by
  exact ⟨by simp [World.cell?, h], by simp [World.cell?, h], by simp [World.cell?, h], by simp [World.cell?, h]⟩
theorem as_of {w ww : World} {f L b : Nat} {F : Fo} {K : List (Nat × Obj)} {n : Int} (h : LV w ww f F L K) (hm : (b, varE n 0 0 n) ∈ K) :
    LV w ww f F L K ∧ ww.cell? ⟨b, 0, none⟩ = some (.int .i64 n) ∧ ww.cell? ⟨b, 1, none⟩ = some (.int .i64 0) ∧ ww.cell? ⟨b, 2, none⟩ = some (.int .i64 0) ∧ ww.cell? ⟨b, 3, none⟩ = some (.int .i64 n) := by
  have := varE_at (h.at hm)
  exact ⟨h, this.c0, this.c1, this.c2, this.c3⟩
end Go.Proofs.YtmpbhoijkcanmaaGreat.R

/- Radix: what none answers: the walk. -/
namespace Go.Proofs.YtmpbhoijkcanmaaGreat.R
open Go.ChangeShapes Go.WideShapes Go.ChangeAt Go.RowKit Go.Maps Go.Proofs.YtmpbhoijkcanmaaGreat.G
set_option linter.unusedVariables false
set_option linter.unusedSimpArgs false
set_option linter.unnecessarySimpa false

end Go.Proofs.YtmpbhoijkcanmaaGreat.R

/- Radix: an entry that is handed in, read as data. -/
namespace Go.Proofs.YtmpbhoijkcanmaaGreat.R
open Go.ChangeShapes Go.WideShapes Go.ChangeAt Go.RowKit Go.Joins
set_option linter.unusedVariables false
set_option linter.unusedSimpArgs false
set_option linter.unnecessarySimpa false

section
variable {H : Type} {enc : TypeId × Value → H} {w : World} {base : Nat} {spare : Nat → Bool} {held : Bool}
def datS (x : Slot) : DataW H := .agg [.lit (.int .i64 x.e), .lit (.int .i64 x.c), .lit (.int .i64 x.i)]
def datE (x : Ent) : DataW H := .agg [datS x.s, .lit (.int .i64 x.g)]
theorem wf_i64 {n : Int} (h : (Lit.int .i64 n).wf = true) : I64 n := by
  have := bounds_i64 h
  unfold I64; omega
theorem eS : Tryz.prog.cellsOf 45 = 3 := by kernel_rfl
theorem eI : Tryz.prog.cellsOf 3 = 1 := by kernel_rfl
theorem eE : Tryz.prog.cellsOf 47 = 4 := by kernel_rfl
theorem slot_trod {fuel : Nat} {c0 c1 c2 : Value} {y : DataW H × List MemPlace} (h : DataW.trod enc Tryz.prog w base spare held fuel 45 [c0, c1, c2] = some y) :
    ∃ x : Slot, x.ok ∧ c0 = .int .i64 x.e ∧ c1 = .int .i64 x.c ∧ c2 = .int .i64 x.i ∧ y = (datS x, []) := by
  obtain ⟨y0, y1, y2, n, rfl, _, h0, h1, h2⟩ := Go.Deep.trod_struct3 Tryz.underlying45 h
  simp only [eI, List.drop_zero, List.drop_succ_cons, List.take_succ_cons, List.take_zero] at h0 h1 h2
  obtain ⟨a, e0, rfl, w0⟩ := DataW.trod_int Tryz.underlying3 h0
  obtain ⟨b, e1, rfl, w1⟩ := DataW.trod_int Tryz.underlying3 h1
  obtain ⟨c, e2, rfl, w2⟩ := DataW.trod_int Tryz.underlying3 h2
  simp only [List.cons.injEq, and_true] at e0 e1 e2
  exact ⟨⟨a, b, c⟩, ⟨wf_i64 w0, wf_i64 w1, wf_i64 w2⟩, e0, e1, e2, rfl⟩
theorem ent_trod {fuel : Nat} {c0 c1 c2 c3 : Value} {y : DataW H × List MemPlace} (h : DataW.trod enc Tryz.prog w base spare held fuel 47 [c0, c1, c2, c3] = some y) :
    ∃ x : Ent, x.ok ∧ c0 = .int .i64 x.s.e ∧ c1 = .int .i64 x.s.c ∧ c2 = .int .i64 x.s.i ∧ c3 = .int .i64 x.g ∧ y = (datE x, []) := by
  obtain ⟨y0, y1, n, rfl, _, h0, h1⟩ := trod_struct2 Tryz.underlying47 h
  simp only [eI, eS, List.drop_zero, List.drop_succ_cons, List.take_succ_cons, List.take_zero] at h0 h1
  obtain ⟨s, hs, e0, e1, e2, rfl⟩ := slot_trod h0
  obtain ⟨g, e3, rfl, w3⟩ := DataW.trod_int Tryz.underlying3 h1
  simp only [List.cons.injEq, and_true] at e3
  exact ⟨⟨s, g⟩, ⟨hs, wf_i64 w3⟩, e0, e1, e2, e3, rfl⟩
theorem of_pair {α β : Type} {a c : α} {b d : β} (h : (a, b) = (c, d)) : a = c ∧ b = d := ⟨congrArg Prod.fst h, congrArg Prod.snd h⟩
set_option maxRecDepth 100000 in
theorem open_entry {r : Reach} {b0 : Nat} {v : Value} {d : DataW H} {p : List MemPlace} (hv : Value.okWide Tryz.prog w r b0 47 v) (h : DataW.Trod enc Tryz.prog w base spare held 47 v d p) :
    ∃ x : Ent, x.ok ∧ v = encE x ∧ d = datE x ∧ p = [] := by
  obtain ⟨cs, rfl, hsz⟩ := okWide_struct Tryz.underlying47 hv
  obtain ⟨c0, c1, c2, c3, rfl⟩ := array4 (hsz.trans eE)
  obtain ⟨fuel, hf⟩ := h
  have hf' : DataW.trod enc Tryz.prog w base spare held fuel 47 [c0, c1, c2, c3] = some (d, p) := hf
  obtain ⟨x, hx, rfl, rfl, rfl, rfl, e⟩ := ent_trod hf'
  exact ⟨x, hx, rfl, (of_pair e).1, (of_pair e).2⟩
theorem slot_mk (x : Slot) (h : x.ok) : DataW.trod enc Tryz.prog w base spare held 2 45 [.int .i64 x.e, .int .i64 x.c, .int .i64 x.i] = some (datS x, []) := by
  have := trod_struct_mk (enc := enc) (P := Tryz.prog) (w := w) (base := base) (spare := spare) (held := held) (n := 1) (cs := [.int .i64 x.e, .int .i64 x.c, .int .i64 x.i])
    (xs := [(.lit (.int .i64 x.e), []), (.lit (.int .i64 x.c), []), (.lit (.int .i64 x.i), [])]) Tryz.underlying45 (by rw [eS]; rfl) (by
      simp [eI, trod_int_mk 0 Tryz.underlying3 (wf64 h.1), trod_int_mk 0 Tryz.underlying3 (wf64 h.2.1), trod_int_mk 0 Tryz.underlying3 (wf64 h.2.2)])
  simpa [datS] using this
theorem shut_entry (x : Ent) (h : x.ok) : DataW.Trod enc Tryz.prog w base spare held 47 (encE x) (datE x) [] := by
  have := trod_struct_mk (enc := enc) (P := Tryz.prog) (w := w) (base := base) (spare := spare) (held := held) (n := 2) (cs := (encE x).cells.toList)
    (xs := [(datS x.s, []), (.lit (.int .i64 x.g), [])]) Tryz.underlying47 (by rw [eE]; rfl) (by
      simp [eI, eS, encE, Value.cells, slot_mk x.s h.1, trod_int_mk 1 Tryz.underlying3 (wf64 h.2)])
  exact ⟨3, by simpa [datE] using this⟩
end
end Go.Proofs.YtmpbhoijkcanmaaGreat.R

/- Radix: once no root is held nothing is there; what maps have, by pages. -/
namespace Go.Proofs.YtmpbhoijkcanmaaGreat.R
open Go.ChangeShapes Go.WideShapes Go.ChangeAt Go.RowKit Go.Maps Go.Proofs.YtmpbhoijkcanmaaGreat.G
set_option linter.unusedVariables false
set_option linter.unusedSimpArgs false
set_option linter.unnecessarySimpa false

variable {F G : Fo} {L : Nat}
theorem Ok.none_held (h : Ok F L) (h0 : ∀ i : Nat, cnt F.held (i : Int) = 0) : ∀ n i, i ∈ F.ids → F.lev i = n → False := by
  intro n
  induction n with
  | zero =>
    intro i hi hl
    rcases h.reach hi with h' | ⟨m, hm, q, hq, e⟩
    · have := h0 i; omega
    · have hp := (h.inv.pos i hi).1
      have := ((h.inv.ok m hm).kid q hq).resolve_left (by omega)
      rw [e] at this
      omega
  | succ n ih =>
    intro i hi hl
    rcases h.reach hi with h' | ⟨m, hm, q, hq, e⟩
    · have := h0 i; omega
    · have hp := (h.inv.pos i hi).1
      have := ((h.inv.ok m hm).kid q hq).resolve_left (by omega)
      rw [e] at this
      exact ih m hm (by omega)
theorem Ok.ids_nil (h : Ok F L) (h0 : ∀ i : Nat, cnt F.held (i : Int) = 0) : F.ids = [] := by
  rcases e : F.ids with _ | ⟨i, l⟩
  · rfl
  · exact (h.none_held h0 _ i (by rw [e]; exact List.mem_cons_self) rfl).elim
theorem Ok.slots_nil (h : Ok F L) (h0 : F.ids = []) {ys : List Slot} (hy : SlotsIs (HasS F) ys) : ys = [] := by
  rcases ys with _ | ⟨y, ys⟩
  · rfl
  · obtain ⟨m, hm, _⟩ := HasS.ent h ((hy.mem y).1 List.mem_cons_self)
    rw [h0] at hm; cases hm
/-- a map that has nothing is the empty one -/
theorem leaf_some {x : Node} (hb : x.bits < 2 ^ 16) (h : x.bits ≠ 0) : ∃ q, q < 16 ∧ x.bits.testBit q = true := by
  rcases Classical.em (∃ q, q < 16 ∧ x.bits.testBit q = true) with h' | h'
  · exact h'
  · exfalso
    apply h
    apply Nat.eq_of_testBit_eq
    intro q
    rw [Nat.zero_testBit]
    by_cases hq : q < 16
    · cases e : x.bits.testBit q
      · rfl
      · exact absurd ⟨q, hq, e⟩ h'
    · exact Nat.testBit_lt_two_pow (Nat.lt_of_lt_of_le hb (Nat.pow_le_pow_right (by omega) (by omega)))
theorem partN_mod {m lev : Nat} (h : 2 - lev ≤ m) (q : Nat) : partN (q % 16 ^ (m + 1)) lev = partN q lev := by
  unfold partN
  obtain ⟨d, hd⟩ : ∃ d, m + 1 = (2 - lev) + (d + 1) := ⟨m - (2 - lev), by omega⟩
  rw [hd, Nat.pow_add, Nat.mod_mul_right_div_self, Nat.pow_succ, Nat.mod_mul_left_mod]
theorem getL_mod (F : Fo) : ∀ (m k n q : Nat), m ≤ k → getL m F n (q % 16 ^ (k + 1)) = getL m F n q
  | 0, k, n, q, h => by
    unfold getL leafE
    rw [partN_mod (lev := 2) (by omega)]
  | m + 1, k, n, q, h => by
    show getL m F (kidOf F n (partN (q % 16 ^ (k + 1)) (1 - m))) _ = getL m F (kidOf F n (partN q (1 - m))) q
    rw [getL_mod F m k _ q (by omega), partN_mod (by omega)]
theorem full_some (h : Ok F L) : ∀ (m : Nat), m ≤ 2 → ∀ n, n ∈ F.ids → F.lev n = 2 - m → ∃ q, q < 16 ^ (m + 1) ∧ (getL m F n q).isSome = true
  | 0, _, n, hn, hl => by
    have hk := h.inv.ok n hn
    have hp := (h.inv.pos n hn).1
    have hf := h.inv.full n hn
    have hbz : (F.nd n).bits ≠ 0 := fun e => by
      have : emptyB (F.nd n) = true := emptyB_iff.2 ⟨e, fun j hj => by
        rcases hk.kid j hj with h' | ⟨_, _, h'⟩
        · exact h'
        · omega⟩
      rw [hf] at this; cases this
    obtain ⟨q, hq, hb⟩ := leaf_some hk.bits.1 hbz
    refine ⟨q, by simpa using hq, ?_⟩
    have e : partN q 2 = q := by unfold partN; simp; omega
    unfold getL leafE
    rw [if_neg (by omega), e, if_pos hb]; rfl
  | m + 1, hm, n, hn, hl => by
    have hk := h.inv.ok n hn
    have hp := (h.inv.pos n hn).1
    have hf := h.inv.full n hn
    have hb0 := hk.bits.2 (by omega)
    have : ∃ j, j < 16 ∧ (F.nd n).kids j ≠ 0 := by
      rcases Classical.em (∃ j, j < 16 ∧ (F.nd n).kids j ≠ 0) with h' | h'
      · exact h'
      · exfalso
        have : emptyB (F.nd n) = true := emptyB_iff.2 ⟨hb0, fun j hj => by
          by_cases e : (F.nd n).kids j = 0
          · exact e
          · exact absurd ⟨j, hj, e⟩ h'⟩
        rw [hf] at this; cases this
    obtain ⟨j, hj, h0⟩ := this
    obtain ⟨k1, k2, _⟩ := (hk.kid j hj).resolve_left h0
    obtain ⟨q, hq, hs⟩ := full_some h m (by omega) _ k1 (by omega)
    have hlt : j * 16 ^ (m + 1) + q < 16 ^ (m + 1 + 1) := by
      rw [Nat.pow_succ 16 (m + 1)]
      have : (j + 1) * 16 ^ (m + 1) ≤ 16 * 16 ^ (m + 1) := Nat.mul_le_mul_right _ (by omega)
      rw [Nat.add_mul] at this
      rw [Nat.mul_comm (16 ^ (m + 1)) 16]
      omega
    refine ⟨j * 16 ^ (m + 1) + q, hlt, ?_⟩
    show (getL m F (kidOf F n (partN (j * 16 ^ (m + 1) + q) (1 - m))) (j * 16 ^ (m + 1) + q)).isSome = true
    have hpp : 0 < 16 ^ (m + 1) := Nat.pow_pos (by omega)
    have e1 : partN (j * 16 ^ (m + 1) + q) (1 - m) = j := by
      unfold partN
      rw [show 2 - (1 - m) = m + 1 by omega, Nat.mul_comm j, Nat.mul_add_div hpp, Nat.div_eq_of_lt hq, Nat.add_zero, Nat.mod_eq_of_lt hj]
    have e2 : (j * 16 ^ (m + 1) + q) % 16 ^ (m + 1) = q := by rw [Nat.mul_comm j, Nat.mul_add_mod, Nat.mod_eq_of_lt hq]
    rw [e1, ← getL_mod F m m _ _ (Nat.le_refl _), e2]
    unfold kidOf
    rw [if_neg (by omega)]
    exact hs
/-- a root that is not 0 has some page -/
theorem root_some (h : Ok F L) {r : Nat} (hr : r = 0 ∨ (r ∈ F.ids ∧ F.lev r = 0)) : r = 0 ↔ ∀ q, q < 4096 → getL 2 F r q = none := by
  constructor
  · rintro rfl q _
    exact getL_zero 2 F q
  · intro hn
    rcases hr with h0 | ⟨h1, h2⟩
    · exact h0
    · obtain ⟨q, hq, hs⟩ := full_some h 2 (by omega) r h1 h2
      rw [hn q (by simpa using hq)] at hs; cases hs
end Go.Proofs.YtmpbhoijkcanmaaGreat.R

/- Radix: rows of pairs; are two rows the same. -/
namespace Go.Proofs.YtmpbhoijkcanmaaGreat.R
open Go.ChangeShapes Go.WideShapes Go.ChangeAt Go.RowKit Go.Maps Go.Proofs.YtmpbhoijkcanmaaGreat.G
set_option linter.unusedVariables false
set_option linter.unusedSimpArgs false
set_option linter.unnecessarySimpa false

variable {w w' : World}
/-- a slice of pairs -/
def Sl5 (w : World) (a : Option Addr) (n : Nat) (xs : List Pr) : Prop :=
  xs.length = n ∧ (n = 0 ∨ ∃ b off, a = some ⟨b, off, none⟩ ∧ ∀ i (h : i < xs.length), w.cell? ⟨b, off + i * 5, none⟩ = some (.int .i64 (xs[i].1 : Nat)) ∧ w.cell? ⟨b, off + i * 5 + 1, none⟩ = some (.int .i64 xs[i].2.s.e) ∧ w.cell? ⟨b, off + i * 5 + 2, none⟩ = some (.int .i64 xs[i].2.s.c) ∧ w.cell? ⟨b, off + i * 5 + 3, none⟩ = some (.int .i64 xs[i].2.s.i) ∧ w.cell? ⟨b, off + i * 5 + 4, none⟩ = some (.int .i64 xs[i].2.g))
theorem Sl5.turned {a : Option Addr} {n : Nat} {xs : List Pr} (h : Sl5 w a n xs) {S : List Nat} (t : Turned S w w') (hn : ∀ x, a = some x → x.block ∉ S) : Sl5 w' a n xs := by
  refine ⟨h.1, h.2.imp id ?_⟩
  rintro ⟨b, off, e, hc⟩
  have hb : b ∉ S := hn ⟨b, off, none⟩ e
  exact ⟨b, off, e, fun i hi => by
    obtain ⟨c0, c1, c2, c3, c4⟩ := hc i hi
    exact ⟨t.cell c0 hb, t.cell c1 hb, t.cell c2 hb, t.cell c3 hb, t.cell c4 hb⟩⟩
theorem Sl5.at {a : Option Addr} {n : Nat} {ys : List Pr} (h : Sl5 w a n ys) (i : Nat) (hi : i < ys.length) : ∃ b off, a = some ⟨b, off, none⟩ ∧ w.cell? ⟨b, off + i * 5, none⟩ = some (.int .i64 (ys[i].1 : Nat)) ∧ w.cell? ⟨b, off + i * 5 + 1, none⟩ = some (.int .i64 ys[i].2.s.e) ∧ w.cell? ⟨b, off + i * 5 + 2, none⟩ = some (.int .i64 ys[i].2.s.c) ∧ w.cell? ⟨b, off + i * 5 + 3, none⟩ = some (.int .i64 ys[i].2.s.i) ∧ w.cell? ⟨b, off + i * 5 + 4, none⟩ = some (.int .i64 ys[i].2.g) := by
  rcases h.2 with h0 | ⟨b, off, e, hc⟩
  · have := h.1; omega
  · exact ⟨b, off, e, hc i hi⟩
theorem flatP_len (xs : List Pr) : (flatP xs).length = xs.length * 5 := by
  induction xs with
  | nil => rfl
  | cons x xs ih => unfold flatP at *; simp [encP] at *; omega
theorem flatP_get (xs : List Pr) (i r : Nat) (hi : i < xs.length) (hr : r < 5) : (flatP xs)[i * 5 + r]? = (encP xs[i])[r]? := by
  induction xs generalizing i with
  | nil => simp at hi
  | cons x xs ih =>
    have e : flatP (x :: xs) = encP x ++ flatP xs := by unfold flatP; simp
    rw [e]
    cases i with
    | zero =>
      rw [List.getElem?_append_left (by simp [encP]; omega)]
      simp
    | succ i =>
      rw [List.getElem?_append_right (by simp [encP]; omega)]
      have : (i + 1) * 5 + r - (encP x).length = i * 5 + r := by simp [encP]; omega
      rw [this, ih i (by simpa using hi)]
      simp
theorem sl5_of_owns {base : Nat} {v : Value} {n : Nat} {xs : List Pr} (h : w.ownsRow base 88 5 v n (flatP xs)) : ∃ a cap, v = .slice a n cap ∧ Sl5 w a n xs ∧ (∀ x, a = some x → base ≤ x.block ∧ x.block < w.heap.size) := by
  obtain ⟨h1, h2⟩ := h
  have hl : xs.length = n := by have := flatP_len xs; omega
  rcases h2 with ⟨rfl, rfl⟩ | ⟨g, cap, cur, rfl, hg, hh, hn, hc, hs, ht⟩
  · exact ⟨none, 0, rfl, ⟨hl, .inl rfl⟩, fun x hx => by cases hx⟩
  · refine ⟨_, cap, rfl, ⟨hl, .inr ⟨g, 0, rfl, fun i hi => ?_⟩⟩, fun x hx => by simp only [Option.some.injEq] at hx; subst hx; exact ⟨hg, lt_of_at hh⟩⟩
    have key : ∀ r, r < 5 → w.cell? ⟨g, 0 + i * 5 + r, none⟩ = (encP xs[i])[r]? := fun r hr => by
      have h1 : (cur.toList.take (n * 5))[i * 5 + r]? = cur.toList[i * 5 + r]? := by rw [List.getElem?_take, if_pos (by omega)]
      rw [ht, flatP_get xs i r hi hr] at h1
      rw [h1, Nat.zero_add]
      simp [World.cell?, hh]
    exact ⟨key 0 (by omega), key 1 (by omega), key 2 (by omega), key 3 (by omega), key 4 (by omega)⟩
end Go.Proofs.YtmpbhoijkcanmaaGreat.R

/- Radix: are two rows of pairs the same. -/
namespace Go.Proofs.YtmpbhoijkcanmaaGreat.R
open Go.ChangeShapes Go.WideShapes Go.ChangeAt Go.RowKit Go.Maps Go.Proofs.YtmpbhoijkcanmaaGreat.G
set_option linter.unusedVariables false
set_option linter.unusedSimpArgs false
set_option linter.unnecessarySimpa false

set_option maxRecDepth 100000 in
set_option maxHeartbeats 2000000 in
theorem same_pairs (xs ys : List Pr) (a a' : Option Addr) (n n' cap cap' : Nat) (w : World) (h : Sl5 w a n xs) (h' : Sl5 w a' n' ys) (hn : n ≤ 1048576) (hn' : n' ≤ 1048576) :
    Calls Tryz.prog 19 #[.slice a n cap, .slice a' n' cap'] w fun e w' => e = .returned (.bool (decide (xs = ys))) ∧ Below w.heap.size w w' := by
  by_cases hne : n = n'
  · subst hne
    have hl := h.1
    have hl' := h'.1
    have H := Lib.hid h
    have H' := Lib.hid h'
    have HL := Lib.hid (And.intro hl hl')
    obtain ⟨R, hR⟩ : ∃ R, decide (xs = ys) = R := ⟨_, rfl⟩
    rw [hR]
    have HR := Lib.hid hR
    clear h h' hl hl' hR hn'
    go_enter Tryz.func19, Tryz.ntmps19
    go_wp2
    go_loopw [5] (fun v wr => ∃ i : Nat, i ≤ n ∧ v = .int .i64 i ∧ Hid ((∀ j, j < i → xs[j]? = ys[j]?) ∧ Below w.heap.size w wr)) (fun v _ => n - (intOf v).toNat)
    case atStart => exact ⟨0, Nat.zero_le _, rfl, fun j hj => absurd hj (Nat.not_lt_zero _), Below.refl _ _⟩
    case round =>
      obtain ⟨i, hi, rfl, hB⟩ := hrel
      by_cases hlt : i < n
      · have hix : i < xs.length := by rw [HL.out.1]; exact hlt
        have hiy : i < ys.length := by rw [HL.out.2]; exact hlt
        obtain ⟨b, off, rfl, c0, c1, c2, c3, c4⟩ := (H.out.turned (Turned.of_below hB.out.2) (by simp)).at i hix
        obtain ⟨b', off', rfl, d0, d1, d2, d3, d4⟩ := (H'.out.turned (Turned.of_below hB.out.2) (by simp)).at i hiy
        have HX := Lib.hid (And.intro (List.getElem?_eq_getElem hix) (List.getElem?_eq_getElem hiy))
        generalize xs[i] = x at *
        generalize ys[i] = y at *
        obtain ⟨xn, ⟨⟨xe, xc, xi⟩, xg⟩⟩ := x
        obtain ⟨yn, ⟨⟨ye, yc, yi⟩, yg⟩⟩ := y
        simp only at c0 c1 c2 c3 c4 d0 d1 d2 d3 d4
        clear hix hiy
        by_cases hxy : xn = yn ∧ xe = ye ∧ xc = yc ∧ xi = yi ∧ xg = yg
        · obtain ⟨rfl, rfl, rfl, rfl, rfl⟩ := hxy
          go_upto_region 6 with fail
          go_quiet (fail)
          go_wp2
          go_roundw
          case rel =>
            refine ⟨i + 1, by omega, by go_num, fun j hj => ?_, (Turned.drewN (Turned.of_below hB.out.2) nq).below⟩
            rcases Nat.lt_or_ge j i with h' | h'
            · exact hB.out.1 j h'
            · have : j = i := by omega
              subst this
              rw [HX.out.1, HX.out.2]
          case measure => simp [intOf]; omega
        · have HNe : Hid (xs ≠ ys) := by
            intro e
            have h1 := HX.out.1
            have h2 := HX.out.2
            rw [e, h2] at h1
            simp only [Option.some.injEq, Prod.mk.injEq, Ent.mk.injEq, Slot.mk.injEq] at h1
            exact hxy ⟨h1.1.symm, h1.2.1.1.symm, h1.2.1.2.1.symm, h1.2.1.2.2.symm, h1.2.2.symm⟩
          have hcs : (((xn : Int) == yn) = false) ∨ (((xn : Int) == yn) = true ∧ (xe == ye) = false) ∨ (((xn : Int) == yn) = true ∧ (xe == ye) = true ∧ (xc == yc) = false) ∨ (((xn : Int) == yn) = true ∧ (xe == ye) = true ∧ (xc == yc) = true ∧ (xi == yi) = false) ∨ (((xn : Int) == yn) = true ∧ (xe == ye) = true ∧ (xc == yc) = true ∧ (xi == yi) = true ∧ (xg == yg) = false) := by
            simp only [beq_iff_eq, beq_eq_false_iff_ne]
            omega
          clear hxy
          rcases hcs with h1 | ⟨h1, h2⟩ | ⟨h1, h2, h3⟩ | ⟨h1, h2, h3, h4⟩ | ⟨h1, h2, h3, h4, h5⟩
          all_goals
            go_upto_region 6 with fail
            go_quiet (fail)
            go_wp2
            go_ret
            exact ⟨retB (by rw [← HR.out]; symm; rw [decide_eq_false_iff_not]; exact HNe.out), (Turned.drewN (Turned.of_below hB.out.2) nq).below⟩
      · have hie : i = n := by omega
        subst hie
        clear hlt
        go_wp2
        go_ret
        have e1 : xs = ys := List.ext_getElem? fun j => by
          rcases Nat.lt_or_ge j i with h' | h'
          · exact hB.out.1 j h'
          · rw [List.getElem?_eq_none (by rw [HL.out.1]; exact h'), List.getElem?_eq_none (by rw [HL.out.2]; exact h')]
        exact ⟨retB (by rw [← HR.out, e1]; simp), hB.out.2⟩
  · have hl := h.1
    have hl' := h'.1
    have hd : decide (xs = ys) = false := by
      rw [decide_eq_false_iff_not]
      intro e
      rw [e] at hl
      omega
    rw [hd]
    have hnb : ((n : Int) == n') = false := by rw [beq_eq_false_iff_ne]; omega
    have hnc : (n == n') = false := by simpa using hne
    have HB := Lib.hid (Below.refl w.heap.size w)
    clear h h' hl hl' hd hne
    go_enter Tryz.func19, Tryz.ntmps19
    go_wp2
    go_ret
    exact ⟨rfl, HB.out⟩
end Go.Proofs.YtmpbhoijkcanmaaGreat.R
