/- Radix: alive: the walk. -/
import Derived.Test.YtmpbhoijkcanmaaSB
namespace Go.Proofs.Ytmpbhoijkcanmaa.R
open Go.ChangeShapes Go.WideShapes Go.ChangeAt Go.RowKit Go.Maps Go.Proofs.Ytmpbhoijkcanmaa.G
set_option linter.unusedVariables false
set_option linter.unusedSimpArgs false
set_option linter.unnecessarySimpa false

abbrev varE (a b c d : Int) : Obj := .cells #[.int .i64 a, .int .i64 b, .int .i64 c, .int .i64 d] 33 (0, 0)
theorem varE_at {w : World} {k : Nat} {a b c d : Int} (h : w.heap[k]? = some (varE a b c d)) : EntAt w k ⟨⟨a, b, c⟩, d⟩ := by
  exact ⟨by simp [World.cell?, h], by simp [World.cell?, h], by simp [World.cell?, h], by simp [World.cell?, h]⟩
theorem as_of {w ww : World} {f L b : Nat} {F : Fo} {K : List (Nat × Obj)} {n : Int} (h : LV w ww f F L K) (hm : (b, varE n 0 0 n) ∈ K) :
    LV w ww f F L K ∧ ww.cell? ⟨b, 0, none⟩ = some (.int .i64 n) ∧ ww.cell? ⟨b, 1, none⟩ = some (.int .i64 0) ∧ ww.cell? ⟨b, 2, none⟩ = some (.int .i64 0) ∧ ww.cell? ⟨b, 3, none⟩ = some (.int .i64 n) := by
  have := varE_at (h.at hm)
  exact ⟨h, this.c0, this.c1, this.c2, this.c3⟩
set_option maxRecDepth 100000 in
set_option maxHeartbeats 4000000 in
theorem alive23 (w : World) : Calls Try.prog 10 #[] w fun e w' => e = .returned (.bool true) ∧ Below w.heap.size w w' := by
  have CN := Lib.hid (new_lv (Below.refl w.heap.size w))
  have CE := Lib.hid entry_fn
  have T1 : Hid (∀ f ww, LV w ww f fo0 0 [] → Calls Try.prog 12 #[.pointer (some ⟨f, 0, none⟩), .int .i64 0, .int .i64 5, .agg #[.int .i64 1, .int .i64 0, .int .i64 0, .int .i64 1]] ww fun e w' => e = .returned (.tuple #[.int .i64 3, .int .i64 0]) ∧ LV w w' f vA.1 3 []) := fun f ww h => by
    have := set_lv (r := 0) (pg := 5) h (by omega) rfl (by omega) (ent 1) ent_ok1
    rw [show (setF fo0 0 5 (.set 0 (ent 1))) = vA from rfl, vA_2] at this
    exact this
  have TN1 : Hid (∀ f ww, LV w ww f vA.1 3 [] → Calls Try.prog 15 #[.pointer (some ⟨f, 0, none⟩)] ww fun e w' => e = .returned (.int .i64 3) ∧ ww = w') := fun f ww h => by
    have := nodes_lv h
    rw [vA_len] at this
    exact this
  have T2 : Hid (∀ f ww, LV w ww f vA.1 3 [] → Calls Try.prog 12 #[.pointer (some ⟨f, 0, none⟩), .int .i64 3, .int .i64 6, .agg #[.int .i64 2, .int .i64 0, .int .i64 0, .int .i64 2]] ww fun e w' => e = .returned (.tuple #[.int .i64 6, .int .i64 0]) ∧ LV w w' f vB.1 6 []) := fun f ww h => by
    have := set_lv (r := 3) (pg := 6) h (by omega) vA_b (by omega) (ent 2) ent_ok2
    rw [show (setF vA.1 3 6 (.set 0 (ent 2))) = vB from rfl, vB_2] at this
    exact this
  have TN2 : Hid (∀ f ww, LV w ww f vB.1 6 [] → Calls Try.prog 15 #[.pointer (some ⟨f, 0, none⟩)] ww fun e w' => e = .returned (.int .i64 6) ∧ ww = w') := fun f ww h => by
    have := nodes_lv h
    rw [vB_ids] at this
    exact this
  have TG : Hid (∀ f ww, LV w ww f vB.1 6 [] → Calls Try.prog 17 #[.pointer (some ⟨f, 0, none⟩), .int .i64 6, .int .i64 5] ww fun e w' => e = .returned (.tuple #[.agg #[.int .i64 1, .int .i64 0, .int .i64 0, .int .i64 1], .bool true]) ∧ LV w w' f vB.1 6 []) := fun f ww h => by
    have := get_lv (r := 6) (pg := 5) h (by omega) vB_b6 (by omega)
    rw [vB_get 5 (by omega)] at this
    exact this.mono fun e w' ⟨e1, e2⟩ => ⟨e1, h.calm e2⟩
  have TD : Hid (∀ f ww K, LV w ww f vB.1 6 K → Calls Try.prog 18 #[.pointer (some ⟨f, 0, none⟩), .int .i64 3] ww fun e w' => ∃ a cap G, e = .returned (.tuple #[.slice a 0 cap, .int .i64 0]) ∧ DropIs vB.1 6 3 G [] ∧ LV w w' f G 6 K) := fun f ww K h =>
    (drop_lv (r := 3) h (by omega) vB_b3).mono fun e w' ⟨v, G, ys, e1, e2, e3, e4⟩ => by
      have := vG_gone e2
      subst this
      obtain ⟨a, cap, rfl⟩ := slice_of_owns e3
      exact ⟨a, cap, G, e1, e2, e4⟩
  have TG2 : Hid (∀ f ww K G, DropIs vB.1 6 3 G [] → LV w ww f G 6 K → Calls Try.prog 17 #[.pointer (some ⟨f, 0, none⟩), .int .i64 3, .int .i64 5] ww fun e w' => e = .returned (.tuple #[.agg #[.int .i64 0, .int .i64 0, .int .i64 0, .int .i64 0], .bool false]) ∧ LV w w' f G 6 K) := fun f ww K G hd h => by
    obtain ⟨p, e, h1, h2⟩ := id h
    have := get_out (p := p) (r := 3) (by unfold I64; omega) 5 (.inl (vG_b3 hd)) ww h1.fo
    rw [e] at this
    exact this.mono fun e w' ⟨e1, e2⟩ => ⟨e1, h.calm e2⟩
  have TN3 : Hid (∀ f ww K G, DropIs vB.1 6 3 G [] → LV w ww f G 6 K → Calls Try.prog 15 #[.pointer (some ⟨f, 0, none⟩)] ww fun e w' => e = .returned (.int .i64 3) ∧ ww = w') := fun f ww K G hd h => by
    have := nodes_lv h
    rw [vG_len hd] at this
    exact this
  have TA : Hid (∀ f ww K G, DropIs vB.1 6 3 G [] → LV w ww f G 6 K → Calls Try.prog 13 #[.pointer (some ⟨f, 0, none⟩), .int .i64 6] ww fun e w' => ∃ a cap, e = .returned (.slice a 2 cap) ∧ LV w w' f G 6 K) := fun f ww K G hd h =>
    (all_lv (r := 6) h (by omega) (vG_b6 hd)).mono fun e w' ⟨v, e1, e2, e3⟩ => by
      rw [vG_all hd] at e2
      obtain ⟨a, cap, rfl⟩ := slice_of_owns e2
      exact ⟨a, cap, e1, h.calm e3⟩
  have TS : Hid (∀ f ww K G, DropIs vB.1 6 3 G [] → LV w ww f G 6 K → Calls Try.prog 19 #[.pointer (some ⟨f, 0, none⟩)] ww fun e w' => ∃ a cap, e = .returned (.slice a 2 cap) ∧ LV w w' f G 6 K) := fun f ww K G hd h =>
    (slots_lv h (by omega)).mono fun e w' ⟨v, zs, e1, e2, e3, e4⟩ => by
      rw [vG_slots hd e2] at e3
      obtain ⟨a, cap, rfl⟩ := slice_of_owns e3
      exact ⟨a, cap, e1, h.calm e4⟩
  go_enter Try.func10, Try.ntmps10
  go_upto_region 11 with (first
    | (go_at_call 11; ((with_reducible refine CN.out.mono ?_); rintro e w1 ⟨f, rfl, hs⟩; have S0 := Lib.hid hs; clear hs CN))
    | (go_at_call 36; ((with_reducible refine (CE.out 1 _).mono ?_); rintro e w2 ⟨rfl, hb⟩; have S1 := Lib.hid (S0.out.calm hb); clear hb S0))
    | (go_at_call 12; ((with_reducible refine (T1.out _ _ S1.out).mono ?_); rintro e w3 ⟨rfl, hs⟩; have S2 := Lib.hid hs; clear hs S1 T1))
    | (go_at_call 15; ((with_reducible refine (TN1.out _ _ S2.out).mono ?_); rintro e w4 ⟨rfl, rfl⟩; have S3 := Lib.hid S2.out; clear S2 TN1))
    | (go_at_call 36; ((with_reducible refine (CE.out 2 _).mono ?_); rintro e w5 ⟨rfl, hb⟩; have S4 := Lib.hid (S3.out.calm hb); clear hb S3))
    | (go_at_call 12; ((with_reducible refine (T2.out _ _ S4.out).mono ?_); rintro e w6 ⟨rfl, hs⟩; have S5 := Lib.hid hs; clear hs S4 T2))
    | (go_at_call 15; ((with_reducible refine (TN2.out _ _ S5.out).mono ?_); rintro e w7 ⟨rfl, rfl⟩; have S6 := Lib.hid S5.out; clear S5 TN2))
    | (go_at_call 17; ((with_reducible refine (TG.out _ _ S6.out).mono ?_); rintro e w8 ⟨rfl, hs⟩; have S7 := Lib.hid (hs.put (varE 1 0 0 1)); clear hs S6 TG))
    | (go_at_call 18; ((with_reducible refine (TD.out _ _ _ S7.out).mono ?_); rintro e w9 ⟨a, cap, G, rfl, hd, hs⟩; have S8 := Lib.hid hs; have HD := Lib.hid hd; clear hs hd S7 TD))
    | (go_at_call 17; ((with_reducible refine (TG2.out _ _ _ _ HD.out S8.out).mono ?_); rintro e w10 ⟨rfl, hs⟩; have S9 := Lib.hid (hs.put (varE 0 0 0 0)); clear hs S8 TG2)))
  have HQ := S9.out
  generalize w10.alloc (varE 0 0 0 0) = w11 at *
  obtain ⟨b8, hb8⟩ : ∃ b8, w8.heap.size = b8 := ⟨_, rfl⟩
  rw [hb8] at HQ
  rw [hb8]
  have hMem : (b8, varE 1 0 0 1) ∈ [(w10.heap.size, varE 0 0 0 0), (b8, varE 1 0 0 1)] := by simp
  generalize [(w10.heap.size, varE 0 0 0 0), (b8, varE 1 0 0 1)] = K at *
  have hAS : Hid (∀ ww, LV w ww f G 6 K → LV w ww f G 6 K ∧ ww.cell? ⟨b8, 0, none⟩ = some (.int .i64 1) ∧ ww.cell? ⟨b8, 1, none⟩ = some (.int .i64 0) ∧ ww.cell? ⟨b8, 2, none⟩ = some (.int .i64 0) ∧ ww.cell? ⟨b8, 3, none⟩ = some (.int .i64 1)) := fun ww h => as_of h hMem
  obtain ⟨_, c0, c1, c2, c3⟩ := hAS.out _ HQ
  have hA1 : ∀ ww : World, LV w ww f G 6 K → LV w ww.drew f G 6 K := fun ww h => h.drew 1
  clear hMem S9 hb8
  go_region_held3 (fun w' => LV w w' f G 6 K ∧ w'.cell? ⟨b8, 0, none⟩ = some (.int .i64 1) ∧ w'.cell? ⟨b8, 1, none⟩ = some (.int .i64 0) ∧ w'.cell? ⟨b8, 2, none⟩ = some (.int .i64 0) ∧ w'.cell? ⟨b8, 3, none⟩ = some (.int .i64 1)) (first | exact hKp | go_keep)
    (first
      | (go_at_call 36; ((with_reducible refine (CE.out 1 _).mono ?_); rintro e w3 ⟨rfl, hb3⟩; go_split_ands; have hKp := hAS.out _ (LV.calm (K := K) (by assumption) hb3)))
      | (go_at_call 15; ((with_reducible refine (TN3.out _ _ K G HD.out ?_).mono ?_); (go_split_ands; assumption); rintro e w3 ⟨rfl, rfl⟩))
      | (go_at_call 13; ((with_reducible refine (TA.out _ _ K G HD.out ?_).mono ?_); (go_split_ands; assumption); rintro e w3 ⟨a3, cap3, rfl, hb3⟩; have hKp := hAS.out _ hb3))
      | (go_at_call 19; ((with_reducible refine (TS.out _ _ K G HD.out ?_).mono ?_); (go_split_ands; assumption); rintro e w3 ⟨a4, cap4, rfl, hb3⟩; have hKp := hAS.out _ hb3)))
  all_goals
    have hB := Lib.hid (LV.bel hb3)
    go_wp2
    go_ret
    exact ⟨rfl, hB.out⟩
end Go.Proofs.Ytmpbhoijkcanmaa.R
