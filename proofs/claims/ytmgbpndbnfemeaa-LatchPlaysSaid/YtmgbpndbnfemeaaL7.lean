/- The document's example, and what nothing answers. -/
import Derived.Test.YtmgbpndbnfemeaaL6
namespace Go.Proofs.Ytmgbpndbnfemeaa.L
open Go.ChangeShapes Go.WideShapes Go.ChangeAt Go.RowKit Go.Maps Go.Proofs.Ytmgbpndbnfemeaa.G
set_option linter.unusedVariables false
set_option linter.unusedSimpArgs false

def one31 : Holds := [(3, iv 1)]
theorem nums31 : Nums one31 := by
  intro p hp
  simp only [one31, List.mem_singleton] at hp
  subst hp
  exact ⟨1, rfl⟩

theorem held31 : heldL one31 1 = [3] := by
  unfold heldL keysL one31
  simp [List.filter_cons, isOf, mget, iv]

theorem sl_of_new (w : World) (vs : List Value) (t : TypeId) (n : Nat) (hn : vs.length = n) (B : Nat) (hB : w.heap.size = B) : SlAt (w.alloc (.cells vs.toArray t)) (some ⟨B, 0, none⟩) n vs := by
  subst hB
  refine ⟨hn, .inr ⟨w.heap.size, 0, rfl, fun i hi => ?_⟩⟩
  rw [List.getElem?_eq_getElem (by omega)]
  have := cells_new w vs t i vs[i] (List.getElem?_eq_getElem (by omega))
  unfold Addr.add at this
  by_cases h0 : i = 0
  · subst h0; exact this
  · rw [if_neg h0] at this; exact this

theorem LatchAt.after {w w' : World} {bl bm : Nat} {np : Int} {l l' : Holds} (h : LatchAt w bl bm np l) (hm : MapIs Try.prog 3 iv w' bm l') (t : Turned [bm] w w') : LatchAt w' bl bm np l' :=
  ⟨t.cell h.pages (by simpa using h.ne), t.cell h.by_ (by simpa using h.ne), hm, h.ne⟩

theorem take' (bl bm : Nat) (np page who : Int) (l : Holds) (w : World) (h : LatchAt w bl bm np l) (hl : Nums l) (hp : I64 page) (E : Int) (l' : Holds) (hE : takeE np page who l = E) (hL : takeL np page who l = l') :
    Calls Try.prog 11 #[.pointer (some ⟨bl, 0, none⟩), .int .i64 page, .int .i64 who] w fun e w' => e = .returned (.int .i64 E) ∧ LatchAt w' bl bm np l' ∧ Turned [bm] w w' :=
  (take bl bm np page who l w h hl hp).mono fun e w' ⟨h1, h2, h3⟩ => ⟨by rw [h1, hE], h.after (hL ▸ h2) h3, h3⟩
theorem drop' (bl bm : Nat) (np page who : Int) (l : Holds) (w : World) (h : LatchAt w bl bm np l) (hl : Nums l) (hp : I64 page) (E : Int) (l' : Holds) (hE : dropE np page who l = E) (hL : dropL np page who l = l') :
    Calls Try.prog 9 #[.pointer (some ⟨bl, 0, none⟩), .int .i64 page, .int .i64 who] w fun e w' => e = .returned (.int .i64 E) ∧ LatchAt w' bl bm np l' ∧ Turned [bm] w w' :=
  (drop bl bm np page who l w h hl hp).mono fun e w' ⟨h1, h2, h3⟩ => ⟨by rw [h1, hE], h.after (hL ▸ h2) h3, h3⟩

theorem nums_nil : Nums [] := by intro p hp; cases hp

set_option maxHeartbeats 1000000 in
theorem works (w : World) : Calls Try.prog 6 #[] w fun e w' => e = .returned (.bool true) ∧ Below w.heap.size w w' := by
  have cN := new 5
  have c1 := fun bl bm w h => take' bl bm 5 3 1 [] w h nums_nil (by decide) 0 one31 (by decide) rfl
  have c2 := fun bl bm w h => take' bl bm 5 3 2 one31 w h nums31 (by decide) 8 one31 (by decide) rfl
  have c3 := fun bl bm w h => drop' bl bm 5 3 2 one31 w h nums31 (by decide) 3 one31 (by decide) rfl
  have c4 := fun bl bm w h => who bl bm 5 3 one31 w h (by decide)
  rw [show mget one31 3 = some (iv 1) from rfl] at c4
  have c5 := fun bl bm w h => held bl bm 5 1 one31 w h nums31 (by decide) (by intro p hp; simp only [one31, List.mem_singleton] at hp; subst hp; decide)
  unfold heldPost at c5
  rw [held31] at c5
  have c6 := fun bl bm w h a cap hs => free [3, 4] a 2 cap bl bm 5 1 one31 w h nums31 hs (by decide) (by decide)
  have c7 := fun bl bm w h a cap hs => free [3] a 1 cap bl bm 5 2 one31 w h nums31 hs (by decide) (by decide)
  rw [show (!([3, 4].any (busy one31 1))) = true by decide] at c6
  rw [show (!([3].any (busy one31 2))) = false by decide] at c7
  simp only [iv, Option.getD, Option.isSome] at c4
  have S6 : Hid (∀ w : World, SlAt (w.alloc (.cells #[.int .i64 3, .int .i64 4] 3)) (some ⟨w.heap.size, 0, none⟩) 2 ([3, 4].map (Value.int .i64))) := fun w => sl_of_new w _ 3 2 rfl _ rfl
  have S7 : Hid (∀ w : World, SlAt (w.alloc (.cells #[.int .i64 3] 3)) (some ⟨w.heap.size, 0, none⟩) 1 ([3].map (Value.int .i64))) := fun w => sl_of_new w _ 3 1 rfl _ rfl
  have CN := Lib.hid cN
  have C1 := Lib.hid c1
  have C2 := Lib.hid c2
  have C3 := Lib.hid c3
  have C4 := Lib.hid c4
  have C5 := Lib.hid c5
  have C6 := Lib.hid c6
  have C7 := Lib.hid c7
  clear cN c1 c2 c3 c4 c5 c6 c7
  go_enter Try.func6, Try.ntmps6
  go_wp2_with (first
    | (go_at_call 7; ((with_reducible refine (CN.out _).mono ?_); rintro e w1 ⟨bl, bm, rfl, hL, h1, h2, hT⟩; have HL1 : Hid (LatchAt w1 bl bm 5 []) := hL; have HT1 := Lib.hid hT; have HA := Lib.hid (And.intro h1 h2); clear hL hT h1 h2))
    | (go_at_call 11; ((with_reducible refine (C1.out _ _ _ HL1.out).mono ?_); rintro e w2 ⟨rfl, hL, hT⟩; have HL2 := Lib.hid hL; have HT2 := Lib.hid hT; clear hL hT HL1))
    | (go_at_call 11; ((with_reducible refine (C2.out _ _ _ HL2.out).mono ?_); rintro e w3 ⟨rfl, hL, hT⟩; have HL3 := Lib.hid hL; have HT3 := Lib.hid hT; clear hL hT HL2))
    | (go_at_call 9; ((with_reducible refine (C3.out _ _ _ HL3.out).mono ?_); rintro e w4 ⟨rfl, hL, hT⟩; have HL4 := Lib.hid hL; have HT4 := Lib.hid hT; clear hL hT HL3))
    | (go_at_call 13; ((with_reducible refine (C4.out _ _ _ HL4.out).mono ?_); rintro e w5 ⟨rfl, rfl⟩))
    | (go_at_call 15; ((with_reducible refine (C5.out _ _ _ HL4.out).mono ?_); rintro e w5 ⟨v, rfl, hrow, hb⟩; obtain ⟨sa, cap, rfl, hsl, hsb⟩ := SlAt.of_owns hrow; obtain ⟨b, off, rfl, hc⟩ := hsl.cells (by simp); have HC5 : Hid (w5.cell? ⟨b, off, none⟩ = some (.int .i64 3)) := hc 0 (by simp); have HL5 := Lib.hid (HL4.out.turned (Turned.of_below hb) (by simp) (by simp)); have HB5 := Lib.hid hb; clear hrow hsl hc hb hsb))
    | (go_at_call 17; ((with_reducible refine (C6.out _ _ _ (HL5.out.turned ((Turned.refl [] _).alloc _) (by simp) (by simp)) _ _ (S6.out _)).mono ?_); rintro e w6 ⟨rfl, hb⟩; have HB6 := Lib.hid (((Turned.refl [] _).alloc _).trans (Turned.of_below hb)); clear hb; have HL6 := Lib.hid (HL5.out.turned HB6.out (by simp) (by simp)); have HC6 := Lib.hid (HB6.out.cell HC5.out (by simp)); clear HL5 HC5))
    | (go_at_call 17; ((with_reducible refine (C7.out _ _ _ (HL6.out.turned ((Turned.refl [] _).alloc _) (by simp) (by simp)) _ _ (S7.out _)).mono ?_); rintro e w7 ⟨rfl, hb⟩; have HB7 := Lib.hid (((Turned.refl [] _).alloc _).trans (Turned.of_below hb)); clear hb; have hc7 := HB7.out.cell HC6.out (by simp))))
  go_ret
  exact ⟨rfl, Turned.below_of HT1.out.below (((((HT2.out.trans HT3.out).trans HT4.out).trans (Turned.of_below HB5.out).nil_mono).trans HB6.out.nil_mono).trans HB7.out.nil_mono) (by intro i hi; simp only [List.mem_singleton] at hi; subst hi; exact HA.out.2)⟩


theorem below_next {a b c : World} (h : Below a.heap.size a b) (k : Below b.heap.size b c) : Below a.heap.size a c := h.trans (k.mono h.size)

theorem may_two_of (page who : Int) : mayE 0 page who = 2 := by unfold mayE; rw [if_pos (by omega)]

set_option maxHeartbeats 1000000 in
theorem none_law (page wh : Int) (hp : I64 page) (w : World) : Calls Try.prog 5 #[.int .i64 page, .int .i64 wh] w fun e w' => e = .returned (.bool true) ∧ Below w.heap.size w w' := by
  have cN := new 0
  have c1 := fun bl bm w h => take' bl bm 0 page wh [] w h nums_nil hp 2 [] (by unfold takeE; rw [may_two_of]; rfl) (by unfold takeL takeE; rw [may_two_of]; rfl)
  have c3 := fun bl bm w h => drop' bl bm 0 page wh [] w h nums_nil hp 2 [] (by unfold dropE; rw [may_two_of]; rfl) (by unfold dropL dropE; rw [may_two_of]; rfl)
  have c4 := fun bl bm w h => who bl bm 0 page [] w h hp
  rw [show mget ([] : Holds) page = none from rfl] at c4
  have c5 := fun bl bm w h => held bl bm 0 wh [] w h nums_nil (by decide) (by intro p hp; cases hp)
  have hh : heldL [] wh = [] := by unfold heldL keysL; simp
  unfold heldPost at c5
  rw [hh] at c5
  have c6 := fun bl bm w h a cap hs => free [page] a 1 cap bl bm 0 wh [] w h nums_nil hs (by decide) (by intro x hx; simp only [List.mem_singleton] at hx; subst hx; exact hp)
  rw [show (!([page].any (busy [] wh))) = true by simp [busy, mget]] at c6
  simp only [iv, Option.getD, Option.isSome] at c4
  have S6 : Hid (∀ w : World, SlAt (w.alloc (.cells #[.int .i64 page] 3)) (some ⟨w.heap.size, 0, none⟩) 1 ([page].map (Value.int .i64))) := fun w => sl_of_new w _ 3 1 rfl _ rfl
  have CN := Lib.hid cN
  have C1 := Lib.hid c1
  have C3 := Lib.hid c3
  have C4 := Lib.hid c4
  have C5 := Lib.hid c5
  have C6 := Lib.hid c6
  clear cN c1 c3 c4 c5 c6 hh
  go_enter Try.func5, Try.ntmps5
  go_wp2_with (first
    | (go_at_call 7; ((with_reducible refine (CN.out _).mono ?_); rintro e w1 ⟨bl, bm, rfl, hL, h1, h2, hT⟩; have HL1 : Hid (LatchAt w1 bl bm 0 []) := hL; have HT1 := Lib.hid hT; have HA := Lib.hid (And.intro h1 h2); clear hL hT h1 h2))
    | (go_at_call 13; ((with_reducible refine (who_nil _ _).mono ?_); rintro e ww ⟨rfl, rfl⟩))
    | (go_at_call 13; ((with_reducible refine (C4.out _ _ _ HL1.out).mono ?_); rintro e ww ⟨rfl, rfl⟩))
    | (go_at_call 11; ((with_reducible refine (take_nil _ _ _).mono ?_); rintro e ww ⟨rfl, rfl⟩))
    | (go_at_call 9; ((with_reducible refine (drop_nil _ _ _).mono ?_); rintro e ww ⟨rfl, rfl⟩))
    | (go_at_call 15; ((with_reducible refine (held_nil _ _).mono ?_); rintro e ww ⟨rfl, rfl⟩))
    | (go_at_call 17; ((with_reducible refine (free_nil _ _ _ _ _ (S6.out _)).mono ?_); rintro e w2 ⟨rfl, hb⟩; have HB2 := Lib.hid (((Turned.refl [] _).alloc _).trans (Turned.of_below hb)); clear hb; have HL2 := Lib.hid (HL1.out.turned HB2.out (by simp) (by simp))))
    | (go_at_call 11; ((with_reducible refine (C1.out _ _ _ HL2.out).mono ?_); rintro e w3 ⟨rfl, hL, hT⟩; have HL3 := Lib.hid hL; have HT3 := Lib.hid hT; clear hL hT))
    | (go_at_call 9; ((with_reducible refine (C3.out _ _ _ HL3.out).mono ?_); rintro e w4 ⟨rfl, hL, hT⟩; have HL4 := Lib.hid hL; have HT4 := Lib.hid hT; clear hL hT))
    | (go_at_call 15; ((with_reducible refine (C5.out _ _ _ HL4.out).mono ?_); rintro e w5 ⟨v, rfl, hrow, hb⟩; obtain ⟨sa, cap, rfl, hsl, hsb⟩ := SlAt.of_owns hrow; have HL5 := Lib.hid (HL4.out.turned (Turned.of_below hb) (by simp) (by simp)); have HB5 := Lib.hid hb; clear hrow hsl hb hsb))
    | (go_at_call 17; ((with_reducible refine (C6.out _ _ _ (HL5.out.turned ((Turned.refl [] _).alloc _) (by simp) (by simp)) _ _ (S6.out _)).mono ?_); rintro e w6 ⟨rfl, hb⟩; have HB6 := Lib.hid (((Turned.refl [] _).alloc _).trans (Turned.of_below hb)); clear hb))
    | (go_at_call 6; ((with_reducible refine (works _).mono ?_); rintro e w7 ⟨rfl, hb⟩; have HB7 := Lib.hid hb; clear hb)))
  go_ret
  exact ⟨rfl, below_next (Turned.below_of HT1.out.below ((((HB2.out.nil_mono.trans HT3.out).trans HT4.out).trans (Turned.of_below HB5.out).nil_mono).trans HB6.out.nil_mono) (by intro i hi; simp only [List.mem_singleton] at hi; subst hi; exact HA.out.2)) HB7.out⟩

end Go.Proofs.Ytmgbpndbnfemeaa.L
