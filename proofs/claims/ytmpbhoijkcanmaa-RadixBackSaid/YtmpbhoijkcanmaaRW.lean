/- Radix: Drop, Slots: the walk. -/
import Derived.Test.YtmpbhoijkcanmaaRV
namespace Go.Proofs.Ytmpbhoijkcanmaa.R
open Go.ChangeShapes Go.WideShapes Go.ChangeAt Go.RowKit Go.Maps Go.Proofs.Ytmpbhoijkcanmaa.G
set_option linter.unusedVariables false
set_option linter.unusedSimpArgs false
set_option linter.unnecessarySimpa false

variable {F G : Fo} {w w' : World} {p : Pf} {L : Nat}
theorem owns_mono {w : World} {base base' : Nat} {e : TypeId} {size : Nat} {v : Value} {n : Nat} {xs : List Value} (h : w.ownsRow base e size v n xs) (hb : base' ≤ base) : w.ownsRow base' e size v n xs := by
  refine ⟨h.1, h.2.imp id ?_⟩
  rintro ⟨g, cap, cur, e1, e2, e3⟩
  exact ⟨g, cap, cur, e1, Nat.le_trans hb e2, e3⟩
/-- what Slots answers -/
def slotsPost (C : Slot → Prop) (w : World) (e : Ending) (w' : World) : Prop := ∃ (v : Value) (ys : List Slot), e = .returned v ∧ SlotsIs C ys ∧ w'.ownsRow w.heap.size 31 3 v ys.length (flat ys) ∧ Below w.heap.size w w'
set_option maxRecDepth 100000 in
theorem slots_fn (h : Ok F L) (hL : L ≤ 2 ^ 34) (w : World) (hF : FoAt w p F) : Calls Try.prog 19 #[.pointer (some ⟨p.f, 0, none⟩)] w (slotsPost (HasS F) w) := by
  have CN := Lib.hid (none_fn _ hF)
  have c2 := hF.c2
  have hk : ∀ s, (mget F.sl s).isSome = true ↔ HasS F s := fun s => hF.ns.some_iff s
  have CS := Lib.hid (sortedI p.s F.sl (by have := keys_le h hF.sl.nodup (fun s hs => (hk s).1 hs); omega) w hF.sl)
  have HE : Hid (∀ e w', sortedPost F.sl w e w' → slotsPost (HasS F) w e w') := by
    rintro e w' ⟨v, ys, he, h1, h2, h3, h4⟩
    exact ⟨v, ys, he, ⟨fun s => by rw [h1.mem_iff, mem_keys, hk], h1.nodup_iff.2 hF.sl.nodup, h2⟩, h3, h4⟩
  clear hF hk h
  go_enter Try.func19, Try.ntmps19
  go_wp2_with (first
    | (go_at_call 37; ((with_reducible refine CN.out.mono ?_); rintro e ww ⟨rfl, rfl⟩))
    | (go_at_call 47; ((with_reducible refine CS.out.mono ?_); rintro e w2 hp; obtain ⟨v, ys, rfl, hr⟩ := HE.out _ _ hp; have HR := Lib.hid hr; clear hr hp)))
  go_ret
  exact ⟨v, ys, rfl, HR.out⟩
/-- what Drop answers -/
def dropPost (p : Pf) (F : Fo) (L r : Nat) (w : World) (e : Ending) (w' : World) : Prop :=
  ∃ (v : Value) (G : Fo) (ys : List Slot), e = .returned (.tuple #[v, .int .i64 0]) ∧ DropIs F L r G ys ∧ w'.ownsRow w.heap.size 31 3 v ys.length (flat ys) ∧ FoAt w' p G ∧ FoOwn p F w w'
set_option maxRecDepth 100000 in
set_option maxHeartbeats 1000000 in
theorem drop_fn (h : Ok F L) (hL : L ≤ 2 ^ 34) {r : Nat} (hr : isB F (r : Int) = true) (w : World) (hF : FoAt w p F) :
    Calls Try.prog 18 #[.pointer (some ⟨p.f, 0, none⟩), .int .i64 (r : Nat)] w (dropPost p F L r w) := by
  have hr' := h.inv.root hr
  have hlt : r < 2 ^ 60 := by
    rcases hr' with h0 | ⟨h1, _⟩
    · omega
    · have := (h.inv.pos _ h1).2; have := h.last; omega
  have CN := Lib.hid (none_fn _ hF)
  have CI := Lib.hid (is_fn (r : Int) (by unfold I64; omega) _ hF)
  rw [hr] at CI
  by_cases h0 : r = 0
  · subst h0
    have HE : Hid (dropPost p F L 0 w (.returned (.tuple #[.slice none 0 0, .int .i64 0])) w) := ⟨_, F, [], rfl, DropIs.zero h, ⟨rfl, .inl ⟨rfl, rfl⟩⟩, hF, FoOwn.of (Turned.refl [] w)⟩
    have hz : ((0 : Nat) : Int) = 0 := rfl
    rw [hz] at CI
    clear h hF hr' hr hz
    go_enter Try.func18, Try.ntmps18
    go_wp2_with (first
      | (go_at_call 37; ((with_reducible refine CN.out.mono ?_); rintro e ww ⟨rfl, rfl⟩))
      | (go_at_call 38; ((with_reducible refine CI.out.mono ?_); rintro e ww ⟨rfl, rfl⟩)))
    go_ret2
    exact HE.out
  · have hne : ((r : Int) == 0) = false := by simpa using h0
    have hc := ((isB_iff F r).1 hr).resolve_left h0
    obtain ⟨hm, hlev⟩ := hr'.resolve_left h0
    have c1 := hF.c1
    have hLk := hF.look_held (r : Int) (by unfold I64; omega)
    obtain ⟨kk, hkk⟩ := keyI (r : Nat) (by unfold I64; omega)
    have HKK := Lib.hid hkk
    have HM := Lib.hid hF.held
    have hs := h.small (by omega)
    -- behind the counting down
    have HL : Hid (∀ w2, FoAt w2 p (unheld F r) → FoOwn p F w w2 → ∀ w3 gb, w3 = w2.alloc (.map #[] 0) → gb = w2.heap.size → Calls Try.prog 45 #[.pointer (some ⟨p.f, 0, none⟩), .int .i64 (r : Nat), .map (some gb)] w3 fun e w4 => e = .returned (.tuple #[]) ∧
        Calls Try.prog 46 #[.map (some gb)] w4 fun e w5 => ∃ v, e = .returned v ∧ dropPost p F L r w (.returned (.tuple #[v, .int .i64 0])) w5) := by
      intro w2 hF2 hO2 w3 gb hw3 hgb
      have t3 := (Turned.refl [] w2).alloc (.map #[] 0)
      rw [← hw3] at t3
      have hF3 := hF2.calm t3
      have hM3 : MapIs Try.prog 31 encS w3 gb [] := by rw [hw3, hgb]; exact MapIs.made w2
      have hgo : ¬ p.own (unheld F r) gb := fun ho => by have := hF2.lt ho; omega
      have hI := h.inv.unheld hc
      refine (less_fn 0 (by omega) p gb (unheld F r) _ _ r [] w3 hI hm hlev (by rw [if_pos rfl]; omega) (by have := h.last; show F.last ≤ _; omega) (fun i hi => by have := h.inv.refs_le hs i hi; show (F.nd i).refs ≤ _; omega) hF3 hM3 hgo).mono fun e w4 ⟨e1, G, g, l1, l2, l3, l4, l5, l6, l7⟩ => ⟨e1, ?_⟩
      have hsz : w.heap.size ≤ w4.heap.size := Nat.le_trans hO2.size (Nat.le_trans t3.size l7.size)
      refine (sortedB gb g (by
        have := keys_le h l6.nodup (fun s hs => by
          rcases (l4 s).1 hs with h' | ⟨h', _⟩
          · cases h'
          · exact h')
        omega) w4 l6).mono fun e w5 ⟨v, ys, s1, s2, s3, s4, s5⟩ => ⟨v, s1, v, G, ys, rfl, drop_is h h0 hc l1 l2 l4 l6.nodup s2 s3, owns_mono s4 hsz, l5.calm (Turned.of_below s5), ?_⟩
      have o1 : FoOwn p F w w3 := hO2.step t3 (by simp)
      obtain ⟨S, tS, hS⟩ := l7
      exact (o1.step tS (fun b hb => by
        rcases hS b hb with h' | h'
        · exact .inr h'
        · have := hO2.size; exact .inl (by omega))).step (Turned.of_below s5) (by simp)
    have hdis := hF.dis
    by_cases h1 : cnt F.held (r : Int) = 1
    · have HD : Hid (∀ w2, MapIs Try.prog 3 encI w2 p.h (mput F.held (r : Int) (.int .i64 0)) → Turned [p.h] w w2 → w2.cell? ⟨p.f, 1, none⟩ = some (.map (some p.h)) ∧ (Instr.lookup 87 (.map (some p.h)) (.int .i64 (r : Nat)) false).run Try.prog w2 = .ok (.int .i64 0) w2 ∧
          ∀ w3, MapIs Try.prog 3 encI w3 p.h (mdel (mput F.held (r : Int) (.int .i64 0)) (r : Int)) → Turned [p.h] w2 w3 → FoAt w3 p (unheld F r) ∧ FoOwn p F w w3) := fun w2 hm2 ht2 => by
        have hlk := hm2.run_look keyedI encI_inj Try.underlying87 (zeroI w2) (r : Int) hkk false
        rw [look_put, if_pos rfl] at hlk
        refine ⟨ht2.cell c1 (by simpa using hdis.1.2.1), hlk, fun w3 hm3 ht3 => ?_⟩
        have := hF.setHeld (l := unheldL F r) (by unfold unheldL; rw [if_pos h1]; exact hm3) (by unfold unheldL; rw [if_pos h1]; exact hF.nh.put0 _ _) (ht2.trans ht3)
        exact ⟨this, (FoOwn.of (Turned.refl [] w)).step (ht2.trans ht3) (fun b hb => by simp at hb; subst hb; exact .inr (.inr (.inr (.inl rfl))))⟩
      rw [h1] at hLk
      have hmm := @run_makeMap Try.prog
      clear h hL hF hr' hr hc hs hlev hdis h1 hm h0 hkk
      go_enter Try.func18, Try.ntmps18
      go_upto_region 8 with (first
        | (go_at_call 37; ((with_reducible refine CN.out.mono ?_); rintro e ww ⟨rfl, rfl⟩))
        | (go_at_call 38; ((with_reducible refine CI.out.mono ?_); rintro e ww ⟨rfl, rfl⟩))
        | (at_mapUpdate; refine wp_put _ rfl _ _ _ 87 rfl keyedI encI_inj Try.underlying87 p.h F.held rfl HM.out (r : Int) rfl _ rfl HKK.out ?_; intro w2 hm2 ht2; have HM2 := Lib.hid hm2; obtain ⟨d0, d1, d2⟩ := HD.out w2 hm2 ht2; have HD2 := Lib.hid d2; clear hm2 ht2 d2))
      go_upto_region 10 with (at_delete; refine wp_del _ rfl _ _ 87 3 rfl keyedI encI_inj Try.underlying87 p.h _ rfl HM2.out (r : Int) rfl HKK.out ?_; intro w3 hm3 ht3; obtain ⟨f1, f2⟩ := HD2.out w3 hm3 ht3; have HL3 := Lib.hid (HL.out w3 f1 f2); clear hm3 ht3 f1 f2)
      go_wp2_with (first
        | (go_at_call 45; ((with_reducible refine (HL3.out _ _ rfl rfl).mono ?_); rintro e w4 ⟨rfl, h4⟩; have H4 := Lib.hid h4; clear h4))
        | (go_at_call 46; ((with_reducible refine H4.out.mono ?_); rintro e w5 ⟨v, rfl, h5⟩; have H5 := Lib.hid h5; clear h5)))
      go_ret2
      exact H5.out
    · have hC2 : 2 ≤ cnt F.held (r : Int) := by omega
      have hC50 := hF.nh.le (r : Int)
      have hcast : ((cnt F.held (r : Int) : Int) - 1) = ((cnt F.held (r : Int) - 1 : Nat) : Int) := by omega
      have HD : Hid (∀ w2, MapIs Try.prog 3 encI w2 p.h (mput F.held (r : Int) (.int .i64 ((cnt F.held (r : Int) : Int) - 1))) → Turned [p.h] w w2 → w2.cell? ⟨p.f, 1, none⟩ = some (.map (some p.h)) ∧ (Instr.lookup 87 (.map (some p.h)) (.int .i64 (r : Nat)) false).run Try.prog w2 = .ok (.int .i64 ((cnt F.held (r : Int) : Int) - 1)) w2 ∧
          FoAt w2 p (unheld F r) ∧ FoOwn p F w w2) := fun w2 hm2 ht2 => by
        have hlk := hm2.run_look keyedI encI_inj Try.underlying87 (zeroI w2) (r : Int) hkk false
        rw [look_put, if_pos rfl] at hlk
        rw [hcast] at hm2
        have := hF.setHeld (l := unheldL F r) (by unfold unheldL; rw [if_neg h1]; exact hm2) (by unfold unheldL; rw [if_neg h1]; exact hF.nh.put _ _ (by omega) (by omega)) ht2
        exact ⟨ht2.cell c1 (by simpa using hdis.1.2.1), hlk, this, (FoOwn.of (Turned.refl [] w)).step ht2 (fun b hb => by simp at hb; subst hb; exact .inr (.inr (.inr (.inl rfl))))⟩
      have hmm := @run_makeMap Try.prog
      clear h hL hF hr' hr hc hs hlev hdis h1 hm h0 hkk hcast
      generalize cnt F.held (r : Int) = C at *
      have hcb : ((C : Int) - 1 == 0) = false := by simp; omega
      go_enter Try.func18, Try.ntmps18
      go_upto_region 8 with (first
        | (go_at_call 37; ((with_reducible refine CN.out.mono ?_); rintro e ww ⟨rfl, rfl⟩))
        | (go_at_call 38; ((with_reducible refine CI.out.mono ?_); rintro e ww ⟨rfl, rfl⟩))
        | (at_mapUpdate; refine wp_put _ rfl _ _ _ 87 rfl keyedI encI_inj Try.underlying87 p.h F.held rfl HM.out (r : Int) rfl _ rfl HKK.out ?_; intro w2 hm2 ht2; obtain ⟨d0, d1, f1, f2⟩ := HD.out w2 hm2 ht2; have HL3 := Lib.hid (HL.out w2 f1 f2); clear hm2 ht2 f1 f2))
      go_wp2_with (first
        | (go_at_call 45; ((with_reducible refine (HL3.out _ _ rfl rfl).mono ?_); rintro e w4 ⟨rfl, h4⟩; have H4 := Lib.hid h4; clear h4))
        | (go_at_call 46; ((with_reducible refine H4.out.mono ?_); rintro e w5 ⟨v, rfl, h5⟩; have H5 := Lib.hid h5; clear h5)))
      go_ret2
      exact H5.out
end Go.Proofs.Ytmpbhoijkcanmaa.R
