/- Slots: where a slot lies. -/
import Derived.Test.YtaikapgpkkpdjaaDoorSO
import Derived.Deep.RegionHeld3
import Derived.IntWalk
namespace Go.Proofs.YtaikapgpkkpdjaaDoor.L
open Go.ChangeShapes Go.WideShapes Go.ChangeAt Go.RowKit Go.Maps Go.Proofs.YtaikapgpkkpdjaaDoor.G Go.Sort Go.Shelf Go.Lib
set_option linter.unusedVariables false
set_option linter.unusedSimpArgs false

def atPost (r0 r1 r2 : Int) (w : World) (e : Ending) (w' : World) : Prop := e = .returned (.tuple #[.int .i64 r0, .int .i64 r1, .int .i64 r2]) ∧ Below w.heap.size w w'
/-- is there such a slot? -/
def thereB (n : Nat) (ex : Exts) (x : Slot) : Bool := decide (0 ≤ x.c) && decide (classX n ex x.e = x.c) && decide (0 ≤ x.i) && decide (x.i < slotsC x.c)

set_option maxRecDepth 100000 in
set_option maxHeartbeats 4000000 in
theorem at_fn (bs be bm n : Nat) (pg : Int) (ex : Exts) (l : States) (x : Slot) (hx : I64 x.e ∧ I64 x.c ∧ I64 x.i) (hpg : isPage pg = true) (w : World) (h : SlotsAt w bs be bm n pg ex l) :
    Calls Tryd.prog 15 #[.pointer (some ⟨bs, 0, none⟩), encS x] w
      (if thereB n ex x then atPost (x.e * (pg / 16) * 64 + x.i * sizeC x.c pg) (sizeC x.c pg) 0 w else atPost 0 0 3 w) := by
  obtain ⟨xe, xc, xi⟩ := x
  have hcm := h.states
  have hbs : bs < w.heap.size := lt_of_cell h.states
  have qT : ∀ (w : World) (r : Option Nat), (binOp .eql 64 (.map r) (.map none)).run Tryd.prog w = .ok (.bool r.isNone) w := fun w r => run_eql_map_nil w 64 24 80 r Tryd.underlying64
  have C13 : Hid (∀ w', SlotsAt w' bs be bm n pg ex l → Calls Tryd.prog 13 #[.pointer (some ⟨bs, 0, none⟩), .int .i64 xe] w' fun e w'' => e = .returned (.int .i64 (classX n ex xe)) ∧ w' = w'') := fun w' h' => class_ bs be bm n pg ex l xe w' h'
  have hf : (0 ≤ classX n ex xe → 0 ≤ xe ∧ xe < n ∧ n ≤ 16384) := by
    intro h0
    unfold classX at h0
    have := h.rows.few
    by_cases hc : xe < 0 ∨ (n : Int) ≤ xe
    · rw [if_pos hc] at h0; omega
    · omega
  have HF := Lib.hid hf
  have T1 : Turned [] w (w.alloc (.cells #[.int .i64 xe, .int .i64 xc, .int .i64 xi] 24)) := (Turned.refl [] w).alloc _
  have hb0 : ∀ j u, [Value.int .i64 xe, .int .i64 xc, .int .i64 xi][j]? = some u → (w.alloc (.cells #[.int .i64 xe, .int .i64 xc, .int .i64 xi] 24)).cell? ((⟨w.heap.size, 0, none⟩ : Addr).add j) = some u := fun j u => cells_new w _ 24 j u
  have hc0 := hb0 0 _ rfl
  have hc1 := hb0 1 _ rfl
  have hc2 := hb0 2 _ rfl
  change (w.alloc (.cells #[.int .i64 xe, .int .i64 xc, .int .i64 xi] 24)).cell? ⟨w.heap.size, 0, none⟩ = _ at hc0
  change (w.alloc (.cells #[.int .i64 xe, .int .i64 xc, .int .i64 xi] 24)).cell? ⟨w.heap.size, 1, none⟩ = _ at hc1
  change (w.alloc (.cells #[.int .i64 xe, .int .i64 xc, .int .i64 xi] 24)).cell? ⟨w.heap.size, 2, none⟩ = _ at hc2
  have HC := Lib.hid (And.intro hc0 (And.intro hc1 (And.intro hc2 (h.calm T1))))
  have HB : Hid (Below w.heap.size w (w.alloc (.cells #[.int .i64 xe, .int .i64 xc, .int .i64 xi] 24))) := (Below.refl _ w).alloc (Nat.le_refl _) _
  have hKeep : Hid (∀ (B : Nat) (w1 w2 : World), Below w1.heap.size w1 w2 → w1.cell? ⟨B, 0, none⟩ = some (.int .i64 xe) ∧ w1.cell? ⟨B, 1, none⟩ = some (.int .i64 xc) ∧ w1.cell? ⟨B, 2, none⟩ = some (.int .i64 xi) ∧ SlotsAt w1 bs be bm n pg ex l →
      w2.cell? ⟨B, 0, none⟩ = some (.int .i64 xe) ∧ w2.cell? ⟨B, 1, none⟩ = some (.int .i64 xc) ∧ w2.cell? ⟨B, 2, none⟩ = some (.int .i64 xi) ∧ SlotsAt w2 bs be bm n pg ex l) :=
    fun B w1 w2 hb ⟨a, b, c, d⟩ => ⟨below_cell hb a, below_cell hb b, below_cell hb c, d.calm (Turned.of_below hb)⟩
  have CS := Lib.hid (slots xc)
  have CZ := Lib.hid (size xc pg)
  have HZ : Hid (isPage pg = true) := hpg
  have hthere : thereB n ex ⟨xe, xc, xi⟩ = (decide (0 ≤ xc) && decide (classX n ex xe = xc) && decide (0 ≤ xi) && decide (xi < slotsC xc)) := rfl
  rw [hthere]
  have hsb : 0 ≤ slotsC xc ∧ slotsC xc ≤ 64 := by rcases slotsC_of xc with h | h | h | h | h | h | h <;> omega
  have hzb : 0 ≤ sizeC xc pg ∧ sizeC xc pg ≤ 17 * 1024 := by
    unfold sizeC
    rw [hpg, if_pos rfl]
    have hpp : pg = 1024 ∨ pg = 2048 ∨ pg = 4096 ∨ pg = 8192 ∨ pg = 16384 := by unfold isPage at hpg; simpa [or_assoc] using hpg
    rcases unitsC_of xc with h | h | h | h | h | h | h <;> rw [h.2] <;> omega
  have hpp : 0 ≤ pg ∧ pg ≤ 16384 := by
    have hpp : pg = 1024 ∨ pg = 2048 ∨ pg = 4096 ∨ pg = 8192 ∨ pg = 16384 := by unfold isPage at hpg; simpa [or_assoc] using hpg
    omega
  generalize slotsC xc = sl at *
  generalize sizeC xc pg = sz at *
  generalize classX n ex xe = cx at *
  clear h hx hb0 hc0 hc1 hc2 hcm T1 hthere hpg hf
  unfold encS
  by_cases g0 : 0 ≤ xc
  · by_cases g1 : cx = xc
    · subst g1
      have hfe := HF.out g0
      by_cases g2 : 0 ≤ xi
      · by_cases g3 : xi < sl
        · rw [if_pos (by simp [g0, g2, g3])]
          unfold atPost
          have hcm2 := HC.out.2.2.2.states
          go_enter Tryd.func15, Tryd.ntmps15
          go_upto_region 3 with fail
          obtain ⟨hc0, hc1, hc2, hsl⟩ := HC.out
          generalize w.alloc (.cells #[.int .i64 xe, .int .i64 cx, .int .i64 xi] 24) = w1 at *
          obtain ⟨B, hBe⟩ : ∃ B, w.heap.size = B := ⟨_, rfl⟩
          rw [hBe] at hc0 hc1 hc2 HB HC
          rw [hBe]
          have HBe := Lib.hid hBe
          clear hBe hcm2 qT
          have d1 : decide (cx < 0) = false := by simpa using g0
          have d2 : decide (xi < 0) = false := by simpa using g2
          have d3 : decide (sl ≤ xi) = false := by simpa using g3
          have hA1 : ∀ w : World, SlotsAt w bs be bm n pg ex l → SlotsAt w.drew bs be bm n pg ex l := fun w h => h.calm (Turned.refl [] w).drew
          go_region_held3 (fun w' => w'.cell? ⟨B, 0, none⟩ = some (.int .i64 xe) ∧ w'.cell? ⟨B, 1, none⟩ = some (.int .i64 cx) ∧ w'.cell? ⟨B, 2, none⟩ = some (.int .i64 xi) ∧ SlotsAt w' bs be bm n pg ex l) (first | exact hKp | go_keep)
              (first
                | (go_at_call 13; ((with_reducible refine (C13.out _ ?_).mono ?_); (go_split_ands; assumption); rintro e w3 ⟨rfl, rfl⟩))
                | (go_at_call 21; ((with_reducible refine (CS.out _).mono ?_); rintro e w3 ⟨rfl, hb3⟩; have hKp := hKeep.out B _ _ hb3 (by assumption))))
          all_goals
            obtain ⟨e0, e1, e2, hs3⟩ := hKp
            have e3 := hs3.page
            have HB3 := Lib.hid (HB.out.drew.trans (hb3.mono (by have := HB.out.size; have := HBe.out; simp; omega)))
            clear hKeep C13 CS hA1 d1 d2 d3 hb3
            go_wp2
            have HB4 := Lib.hid HB3.out.drew
            have HS4 := Lib.hid (hs3.calm (Turned.refl [] w3).drew)
            have HE4 : Hid (w3.drew.cell? ⟨B, 0, none⟩ = some (.int .i64 xe) ∧ w3.drew.cell? ⟨B, 2, none⟩ = some (.int .i64 xi)) := ⟨e0, e2⟩
            go_still_tail 6, (by kernel_rfl)
            change wpList _ _ _ _ _ w3.drew
            generalize w3.drew = w4 at *
            go_wp2_with (go_at_call 32; ((with_reducible refine (CZ.out _).mono ?_); rintro e w5 ⟨rfl, hb5⟩; have HS5 := Lib.hid (HS4.out.calm (Turned.of_below hb5)); have HB5 := Lib.hid (HB4.out.trans (hb5.mono (by have := HB4.out.size; have := HBe.out; omega))); have k0 := below_cell hb5 HE4.out.1; have k1 := below_cell hb5 HE4.out.2; have k2 := HS5.out.page; clear hb5))
            have q1 : 0 ≤ xe * (pg / 16) ∧ xe * (pg / 16) ≤ 16384 * 1024 := ⟨Int.mul_nonneg (by omega) (by omega), Int.mul_le_mul (by omega) (by omega) (by omega) (by omega)⟩
            have q2 : 0 ≤ xi * sz ∧ xi * sz ≤ 64 * (17 * 1024) := ⟨Int.mul_nonneg (by omega) (by omega), Int.mul_le_mul (by omega) (by omega) (by omega) (by omega)⟩
            have w1 : IntKind.i64.wrap (xe * (pg / 16)) = xe * (pg / 16) := IntWalk.i64_in _ (by omega)
            have w2 : IntKind.i64.wrap (xe * (pg / 16) * 64) = xe * (pg / 16) * 64 := IntWalk.i64_in _ (by omega)
            have w3 : IntKind.i64.wrap (xi * sz) = xi * sz := IntWalk.i64_in _ (by omega)
            have w4 : IntKind.i64.wrap (xe * (pg / 16) * 64 + xi * sz) = xe * (pg / 16) * 64 + xi * sz := IntWalk.i64_in _ (by omega)
            clear q1 q2
            go_quiet (fail)
            clear w1 w2 w3 w4
            go_wp2
            go_ret3
            exact ⟨rfl, HBe.out ▸ (Turned.drewN ((Turned.of_below (HBe.out ▸ HB5.out))) nq).below⟩
        · rw [if_neg (by simp [g3])]
          unfold atPost
          have hcm2 := HC.out.2.2.2.states
          go_enter Tryd.func15, Tryd.ntmps15
          go_upto_region 3 with fail
          obtain ⟨hc0, hc1, hc2, hsl⟩ := HC.out
          generalize w.alloc (.cells #[.int .i64 xe, .int .i64 cx, .int .i64 xi] 24) = w1 at *
          obtain ⟨B, hBe⟩ : ∃ B, w.heap.size = B := ⟨_, rfl⟩
          rw [hBe] at hc0 hc1 hc2 HB HC
          rw [hBe]
          have HBe := Lib.hid hBe
          clear hBe hcm2 qT
          have d1 : decide (cx < 0) = false := by simpa using g0
          have d2 : decide (xi < 0) = false := by simpa using g2
          have d3 : decide (sl ≤ xi) = true := by simpa using g3
          have hA1 : ∀ w : World, SlotsAt w bs be bm n pg ex l → SlotsAt w.drew bs be bm n pg ex l := fun w h => h.calm (Turned.refl [] w).drew
          go_region_held3 (fun w' => w'.cell? ⟨B, 0, none⟩ = some (.int .i64 xe) ∧ w'.cell? ⟨B, 1, none⟩ = some (.int .i64 cx) ∧ w'.cell? ⟨B, 2, none⟩ = some (.int .i64 xi) ∧ SlotsAt w' bs be bm n pg ex l) (first | exact hKp | go_keep)
              (first
                | (go_at_call 13; ((with_reducible refine (C13.out _ ?_).mono ?_); (go_split_ands; assumption); rintro e w3 ⟨rfl, rfl⟩))
                | (go_at_call 21; ((with_reducible refine (CS.out _).mono ?_); rintro e w3 ⟨rfl, hb3⟩; have hKp := hKeep.out B _ _ hb3 (by assumption))))
          all_goals
            have HB3 := Lib.hid (HB.out.drew.trans (hb3.mono (by have := HB.out.size; have := HBe.out; simp; omega)))
            clear hKeep C13 CS hA1 d1 d2 d3 hb3
            go_wp2
            go_ret3
            exact ⟨rfl, HBe.out ▸ HB3.out⟩
      · rw [if_neg (by simp [g2])]
        unfold atPost
        have hcm2 := HC.out.2.2.2.states
        go_enter Tryd.func15, Tryd.ntmps15
        go_upto_region 3 with fail
        obtain ⟨hc0, hc1, hc2, hsl⟩ := HC.out
        generalize w.alloc (.cells #[.int .i64 xe, .int .i64 cx, .int .i64 xi] 24) = w1 at *
        obtain ⟨B, hBe⟩ : ∃ B, w.heap.size = B := ⟨_, rfl⟩
        rw [hBe] at hc0 hc1 hc2 HB HC
        rw [hBe]
        have HBe := Lib.hid hBe
        clear hBe hcm2 qT
        have d1 : decide (cx < 0) = false := by simpa using g0
        have d2 : decide (xi < 0) = true := by simpa using g2
        have hA1 : ∀ w : World, SlotsAt w bs be bm n pg ex l → SlotsAt w.drew bs be bm n pg ex l := fun w h => h.calm (Turned.refl [] w).drew
        go_quiet ((go_at_call 13; exact Calls.quiet_of_same ((C13.out _ (hsl.calm ((Turned.refl [] _).drewN _))).mono fun e w' h => ⟨h.1, h.2.symm⟩)))
        clear hKeep C13 CS hA1 d1 d2
        go_wp2
        go_ret3
        exact ⟨rfl, (Turned.drewN ((Turned.of_below (HBe.out ▸ HB.out))) nq).below⟩
    · have g1b : (cx != xc) = true := by simpa using g1
      have g1c : (!(cx == xc)) = true := by simpa using g1
      have g1d : (cx == xc) = false := by simpa using g1
      rw [if_neg (by simp [g1])]
      unfold atPost
      have hcm2 := HC.out.2.2.2.states
      go_enter Tryd.func15, Tryd.ntmps15
      go_upto_region 3 with fail
      obtain ⟨hc0, hc1, hc2, hsl⟩ := HC.out
      generalize w.alloc (.cells #[.int .i64 xe, .int .i64 xc, .int .i64 xi] 24) = w1 at *
      obtain ⟨B, hBe⟩ : ∃ B, w.heap.size = B := ⟨_, rfl⟩
      rw [hBe] at hc0 hc1 hc2 HB HC
      rw [hBe]
      have HBe := Lib.hid hBe
      clear hBe hcm2 qT
      have d1 : decide (xc < 0) = false := by simpa using g0
      have hA1 : ∀ w : World, SlotsAt w bs be bm n pg ex l → SlotsAt w.drew bs be bm n pg ex l := fun w h => h.calm (Turned.refl [] w).drew
      go_quiet ((go_at_call 13; exact Calls.quiet_of_same ((C13.out _ (hsl.calm ((Turned.refl [] _).drewN _))).mono fun e w' h => ⟨h.1, h.2.symm⟩)))
      clear hKeep C13 CS hA1 d1
      go_wp2
      go_ret3
      exact ⟨rfl, (Turned.drewN ((Turned.of_below (HBe.out ▸ HB.out))) nq).below⟩
  · rw [if_neg (by simp [g0])]
    unfold atPost
    have hcm2 := HC.out.2.2.2.states
    go_enter Tryd.func15, Tryd.ntmps15
    go_upto_region 3 with fail
    obtain ⟨hc0, hc1, hc2, hsl⟩ := HC.out
    generalize w.alloc (.cells #[.int .i64 xe, .int .i64 xc, .int .i64 xi] 24) = w1 at *
    obtain ⟨B, hBe⟩ : ∃ B, w.heap.size = B := ⟨_, rfl⟩
    rw [hBe] at hc0 hc1 hc2 HB HC
    rw [hBe]
    have HBe := Lib.hid hBe
    clear hBe hcm2 qT
    have d1 : decide (xc < 0) = true := by simpa using g0
    have hA1 : ∀ w : World, SlotsAt w bs be bm n pg ex l → SlotsAt w.drew bs be bm n pg ex l := fun w h => h.calm (Turned.refl [] w).drew
    go_quiet ((go_at_call 13; exact Calls.quiet_of_same ((C13.out _ (hsl.calm ((Turned.refl [] _).drewN _))).mono fun e w' h => ⟨h.1, h.2.symm⟩)))
    clear hKeep C13 CS hA1 d1
    go_wp2
    go_ret3
    exact ⟨rfl, (Turned.drewN ((Turned.of_below (HBe.out ▸ HB.out))) nq).below⟩
end Go.Proofs.YtaikapgpkkpdjaaDoor.L
