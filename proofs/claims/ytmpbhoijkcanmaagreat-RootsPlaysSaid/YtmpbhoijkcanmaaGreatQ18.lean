/- Maps of pages, and versions of them: lemmas, part 18 of 23. -/
import Derived.Test.YtmpbhoijkcanmaaGreatQ17

/- Sorting numbers: partition (printed by wip/tools/mkPE.py). -/
namespace Go.Proofs.YtmpbhoijkcanmaaGreat.R
open Go.ChangeShapes Go.WideShapes Go.ChangeAt Go.RowKit Go.Maps Go.Proofs.YtmpbhoijkcanmaaGreat.G Go.Joins
set_option linter.unusedVariables false
set_option linter.unusedSimpArgs false
set_option linter.unnecessarySimpa false

variable {w w' wr : World} {g cap n a b i j q c s v p : Nat} {f h k : Nat → Nat}
/-- behind some steps: what is ahead of i is less than the pivot, what is behind j is not -/
structure PartH (w wr : World) (g cap n a b : Nat) (f : Nat → Nat) (v i j : Nat) (h : Nat → Nat) : Prop where
  row : FU wr g cap n h
  turn : Turned [g] w wr
  sim : Sim a b f h
  piv : h a = v
  lo : ∀ k, a < k → k < i → h k < v
  hi : ∀ k, j < k → k < b → v ≤ h k
def PartS (w wr : World) (g cap n a b : Nat) (f : Nat → Nat) (v i j : Nat) : Prop := ∃ h, PartH w wr g cap n a b f v i j h
theorem PartH.drewN (hp : PartH w wr g cap n a b f v i j h) (m : Nat) : PartH w (wr.drewN m) g cap n a b f v i j h := ⟨hp.row.drewN m, hp.turn.drewN m, hp.sim, hp.piv, hp.lo, hp.hi⟩
theorem PartH.drew (hp : PartH w wr g cap n a b f v i j h) : PartH w wr.drew g cap n a b f v i j h := ⟨hp.row.turned ((Turned.refl [] wr).drew) (by simp), hp.turn.drew, hp.sim, hp.piv, hp.lo, hp.hi⟩
theorem PartH.more (hp : PartH w wr g cap n a b f v i j h) (hx : h i < v) : PartH w wr g cap n a b f v (i + 1) j h := ⟨hp.row, hp.turn, hp.sim, hp.piv, fun k h1 h2 => by
  by_cases e : k = i
  · rw [e]; exact hx
  · exact hp.lo k h1 (by omega), hp.hi⟩
theorem PartH.less {j1 : Nat} (hp : PartH w wr g cap n a b f v i j h) (hj : j = j1 + 1) (hx : v ≤ h j) : PartH w wr g cap n a b f v i j1 h := ⟨hp.row, hp.turn, hp.sim, hp.piv, hp.lo, fun k h1 h2 => by
  by_cases e : k = j
  · rw [e]; exact hx
  · exact hp.hi k (by omega) h2⟩
/-- what partition answers -/
def partPost (w : World) (g cap n a b : Nat) (f : Nat → Nat) (v m : Nat) (w' : World) : Prop := ∃ h, FU w' g cap n h ∧ Turned [g] w w' ∧ Sim a b f h ∧ a < m ∧ m < b ∧ h m = v ∧ (∀ k, a ≤ k → k < m → h k < v) ∧ ∀ k, m < k → k < b → v ≤ h k
/-- something is less than the pivot: it does not stay in front -/
theorem PartH.apart (hp : PartH w wr g cap n a b f v i j h) (hl : ∃ x, a ≤ x ∧ x < b ∧ f x < v) (ha : a ≤ j) (hi : i = j + 1) : a < j := by
  rcases Nat.lt_or_ge a j with h1 | h1
  · exact h1
  · have hj : j = a := by omega
    obtain ⟨x, hx1, hx2, hx3⟩ := hp.sim.some (P := fun z => z < v) hl
    by_cases e : x = a
    · rw [e, hp.piv] at hx3; omega
    · have := hp.hi x (by omega) hx2; omega
theorem PartH.fin (hp : PartH w wr g cap n a b f v i j h) (ha : a < j) (hj : j < b) (hi : i = j + 1) {ww : World} (hF : FU ww g cap n (swp h j a)) (ht : Turned [g] w ww) : partPost w g cap n a b f v j ww := by
  refine ⟨_, hF, ht, hp.sim.trans (Sim.swap ⟨by omega, hj⟩ ⟨Nat.le_refl _, by omega⟩), ha, hj, ?_, fun k h1 h2 => ?_, fun k h1 h2 => ?_⟩
  · unfold swp; rw [if_pos rfl]; exact hp.piv
  · unfold swp
    rw [if_neg (by omega)]
    by_cases e : k = a
    · rw [if_pos e]; exact hp.lo j ha (by omega)
    · rw [if_neg e]; exact hp.lo k (by omega) (by omega)
  · unfold swp
    rw [if_neg (by omega), if_neg (by omega)]
    exact hp.hi k h1 h2
set_option maxRecDepth 100000 in
set_option maxHeartbeats 16000000 in
theorem partU_fn (hF : FU w g cap n f) (hb : b ≤ n) (hn : n ≤ 1048576) (hap : a < p) (hpb : p < b) (hlo : ∃ x, a ≤ x ∧ x < b ∧ f x < f p) : Calls Tryz.prog 80 #[.slice (some ⟨g, 0, none⟩) n cap, .int .i64 (a : Nat), .int .i64 (b : Nat), .int .i64 (p : Nat)] w fun e w' => ∃ (m : Nat) (B : Bool), e = .returned (.tuple #[.int .i64 (m : Nat), .bool B]) ∧ partPost w g cap n a b f (f p) m w' := by
  obtain ⟨v, hv⟩ : ∃ v, f p = v := ⟨_, rfl⟩
  obtain ⟨u, hu⟩ : ∃ u, f a = u := ⟨_, rfl⟩
  rw [hv] at hlo
  rw [hv]
  have HLo := Lib.hid hlo
  have han : a < n := by omega
  have hpn : p < n := by omega
  obtain ⟨ca, cp, fa, fp, hF1, ht1⟩ := hF.swp_at han hpn u v hu hv
  have hwa : IntKind.i64.wrap ((a : Int) + 1) = ((a + 1 : Nat) : Int) := by rw [IntWalk.i64_in _ (by omega)]; omega
  have hwb : IntKind.i64.wrap ((b : Int) - 1) = ((b - 1 : Nat) : Int) := by rw [IntWalk.i64_in _ (by omega)]; omega
  have HS : Hid (PartS w ((w.drew.setCell ⟨g, a, none⟩ (.int .u64 (v : Nat))).setCell ⟨g, p, none⟩ (.int .u64 (u : Nat))) g cap n a b f v (a + 1) (b - 1)) := ⟨_, hF1, ht1, Sim.swap ⟨Nat.le_refl _, by omega⟩ ⟨by omega, hpb⟩, by unfold swp; rw [if_pos rfl]; exact hv, fun k h1 h2 => by omega, fun k h1 h2 => by omega⟩
  have HLv : Hid (∀ (i j j1 : Nat) (h : Nat → Nat) (wr ww : World), a + 1 ≤ i → i < j → j < b → j = j1 + 1 → PartH w wr g cap n a b f v i j h → v ≤ h i → h j < v → FU ww g cap n (swp h i j) → Turned [g] w ww → PartS w ww g cap n a b f v (i + 1) j1) := fun i j j1 h wr ww hai hlt hjb hj1 hp hvi hvj hF ht => by
    refine ⟨_, hF, ht, hp.sim.trans (Sim.swap ⟨by omega, by omega⟩ ⟨by omega, hjb⟩), ?_, fun k h1 h2 => ?_, fun k h1 h2 => ?_⟩
    · unfold swp; rw [if_neg (by omega), if_neg (by omega)]; exact hp.piv
    · unfold swp
      by_cases e : k = i
      · rw [if_pos e]; exact hvj
      · rw [if_neg e, if_neg (by omega)]; exact hp.lo k h1 (by omega)
    · unfold swp
      rw [if_neg (by omega)]
      by_cases e : k = j
      · rw [if_pos e]; exact hvi
      · rw [if_neg e]; exact hp.hi k (by omega) h2
  obtain ⟨i, hiE⟩ : ∃ i, i = a + 1 := ⟨_, rfl⟩
  obtain ⟨j, hjE⟩ : ∃ j, j = b - 1 := ⟨_, rfl⟩
  obtain ⟨i0, hi0⟩ : ∃ i0, i0 = a + 1 := ⟨_, rfl⟩
  obtain ⟨j0, hj0⟩ : ∃ j0, j0 = b - 1 := ⟨_, rfl⟩
  rw [← hiE, ← hjE] at HS
  rw [← hiE] at hwa
  rw [← hjE] at hwb
  have hai : a + 1 ≤ i := by omega
  have hij : i ≤ j + 1 := by omega
  have haj : a ≤ j := by omega
  have hjb : j < b := by omega
  have hi0a : i0 ≤ i := by omega
  have hj0a : j ≤ j0 := by omega
  clear hF hv hu hlo hF1 ht1 hiE hjE hi0 hj0
  go_enter Tryz.func80, Tryz.ntmps80
  go_upto_region 1 with fail
  go_region
  all_goals go_wp2
  go_loopw [10] (fun u wv => ∃ i : Nat, a + 1 ≤ i ∧ i0 ≤ i ∧ i ≤ j + 1 ∧ u = .int .i64 (i : Nat) ∧ Hid (PartS w wv g cap n a b f v i j)) (fun u _ => j + 1 - (intOf u).toNat)
  case atStart => exact ⟨i, by omega, by omega, by omega, by first | rfl | go_num, HS.out⟩
  case round =>
    clear HS
    obtain ⟨i, hai, hii, hij, rfl, hB⟩ := hrel
    obtain ⟨h, hP⟩ := hB.out
    by_cases hle : i ≤ j
    · have hd : decide ((i : Int) ≤ (j : Int)) = true := by simp; omega
      have hd1 : decide (i ≤ j) = true := by simp; omega
      have hin : i < n := by omega
      have han : a < n := by omega
      obtain ⟨x, hx⟩ : ∃ x, h i = x := ⟨_, rfl⟩
      have ci := hP.row.cell hin
      have ca := hP.row.cell han
      rw [hx] at ci
      rw [hP.piv] at ca
      obtain ⟨r, hr⟩ : ∃ r, decide (x < v) = r := ⟨_, rfl⟩
      have CLr : Hid (∀ w, Calls Tryz.prog 78 #[.int .u64 (x : Nat), .int .u64 (v : Nat)] w fun e w' => e = .returned (.bool r) ∧ w = w') := fun w => by rw [← hr]; exact lessU_fn x v w
      have HT : Hid (r = true → PartS w wr.drew g cap n a b f v (i + 1) j) := fun hr2 => ⟨h, hP.drew.more (by rw [hx]; rw [hr2] at hr; simpa using hr)⟩
      have HE : Hid (r = false → ∃ h, PartH w wr.drew g cap n a b f v i j h ∧ (i ≤ j → v ≤ h i)) := fun hr2 => ⟨h, hP.drew, fun _ => by rw [hx]; rw [hr2] at hr; simpa using hr⟩
      have hle1 : i + 1 ≤ j + 1 := by omega
      clear hB hP hx hr hle
      go_upto_region 3 with fail
      go_region_held3 (fun w' => w'.cell? ⟨g, i, none⟩ = some (.int .u64 (x : Nat)) ∧ w'.cell? ⟨g, a, none⟩ = some (.int .u64 (v : Nat))) (go_keep)
        (first | (go_at_call 78; ((with_reducible refine (CLr.out _).mono ?_); rintro e w5 ⟨rfl, rfl⟩)))
      cases r
      rotate_left
      · go_wp2
        all_goals
          go_roundw
          all_goals first | exact ⟨i + 1, by omega, by omega, by omega, by go_num, HT.out rfl⟩ | exact ⟨i + 1, by omega, by omega, by omega, by go_num, HT.out trivial⟩ | (simp [intOf]; omega)
      · have HS : Hid (∃ h, PartH w wr.drew g cap n a b f v i j h ∧ (i ≤ j → v ≤ h i)) := HE.out rfl
        obtain ⟨wz, hwz⟩ : ∃ wz, wr.drew = wz := ⟨_, rfl⟩
        rw [hwz] at HS
        rw [hwz]
        clear hwz HT HE CLr ci ca hd hd1
        go_wp2
        go_loopw [11] (fun u wv => ∃ j : Nat, a ≤ j ∧ j < b ∧ i ≤ j + 1 ∧ j ≤ j0 ∧ u = .int .i64 (j : Nat) ∧ Hid (∃ h, PartH w wv g cap n a b f v i j h ∧ (i ≤ j → v ≤ h i))) (fun u _ => (intOf u).toNat)
        case atStart => exact ⟨j, by omega, by omega, by omega, by omega, by first | rfl | go_num, HS.out⟩
        case round =>
          clear HS
          obtain ⟨j, haj, hjb, hij, hjj0, rfl, hB⟩ := hrel
          obtain ⟨h, hP, hvi⟩ := hB.out
          by_cases hle : i ≤ j
          · have hd : decide ((i : Int) ≤ (j : Int)) = true := by simp; omega
            have hd1 : decide (i ≤ j) = true := by simp; omega
            have hjn : j < n := by omega
            have han : a < n := by omega
            obtain ⟨j1, hj1⟩ : ∃ j1, j = j1 + 1 := ⟨j - 1, by omega⟩
            have hwj : IntKind.i64.wrap ((j : Int) - 1) = ((j1 : Nat) : Int) := by rw [IntWalk.i64_in _ (by omega)]; omega
            obtain ⟨x, hx⟩ : ∃ x, h j = x := ⟨_, rfl⟩
            have cj := hP.row.cell hjn
            have ca := hP.row.cell han
            rw [hx] at cj
            rw [hP.piv] at ca
            obtain ⟨r, hr⟩ : ∃ r, decide (x < v) = r := ⟨_, rfl⟩
            have CLr : Hid (∀ w, Calls Tryz.prog 78 #[.int .u64 (x : Nat), .int .u64 (v : Nat)] w fun e w' => e = .returned (.bool r) ∧ w = w') := fun w => by rw [← hr]; exact lessU_fn x v w
            have HT : Hid (r = false → ∃ h, PartH w wr.drew g cap n a b f v i j1 h ∧ (i ≤ j1 → v ≤ h i)) := fun hr2 => ⟨h, hP.drew.less hj1 (by rw [hx]; rw [hr2] at hr; simpa using hr), fun h => hvi (by omega)⟩
            have HE : Hid (r = true → (∃ h, PartH w wr.drew g cap n a b f v i j h ∧ v ≤ h i ∧ h j < v) ∧ i < j) := fun hr2 => by
              have h1 := hvi hle
              have h2 : h j < v := by rw [hx]; rw [hr2] at hr; simpa using hr
              refine ⟨⟨h, hP.drew, h1, h2⟩, ?_⟩
              rcases Nat.lt_or_ge i j with h3 | h3
              · exact h3
              · have : i = j := by omega
                rw [this] at h1; omega
            have hjj : j1 < j := by omega
            have haj1 : a ≤ j1 := by omega
            have hij1 : i ≤ j1 + 1 := by omega
            have hjb1 : j1 < b := by omega
            clear hB hP hx hr hvi hj1 hle
            go_upto_region 5 with fail
            go_region_held3 (fun w' => w'.cell? ⟨g, j, none⟩ = some (.int .u64 (x : Nat)) ∧ w'.cell? ⟨g, a, none⟩ = some (.int .u64 (v : Nat))) (go_keep)
              (first | (go_at_call 78; ((with_reducible refine (CLr.out _).mono ?_); rintro e w5 ⟨rfl, rfl⟩)))
            cases r
            · go_wp2
              all_goals
                go_roundw
                all_goals first | exact ⟨j1, haj1, hjb1, hij1, by omega, by go_num, HT.out rfl⟩ | exact ⟨j1, haj1, hjb1, hij1, by omega, by go_num, HT.out trivial⟩ | exact ⟨j1, haj1, hjb1, hij1, by omega, rfl, HT.out trivial⟩ | exact ⟨j1, haj1, hjb1, hij1, by omega, rfl, HT.out rfl⟩ | (simp [intOf]; omega)
            · simp only [Bool.not_true]
              have hlt : i < j := (HE.out rfl).2
              have HS : Hid (∃ h, PartH w wr.drew g cap n a b f v i j h ∧ v ≤ h i ∧ h j < v) := (HE.out rfl).1
              obtain ⟨wz, hwz⟩ : ∃ wz, wr.drew = wz := ⟨_, rfl⟩
              rw [hwz] at HS
              rw [hwz]
              clear hwz HT HE CLr cj ca hd hd1 hwj hjj haj1 hij1 hjb1
              have hgt : decide ((j : Int) < (i : Int)) = false := by simp; omega
              have hgt1 : decide (j < i) = false := by simp; omega
              obtain ⟨h, hP, hvi2, hvj2⟩ := HS.out
              have hin : i < n := by omega
              have hjn : j < n := by omega
              obtain ⟨j1, hj1⟩ : ∃ j1, j = j1 + 1 := ⟨j - 1, by omega⟩
              have hwj : IntKind.i64.wrap ((j : Int) - 1) = ((j1 : Nat) : Int) := by rw [IntWalk.i64_in _ (by omega)]; omega
              have hwi : IntKind.i64.wrap ((i : Int) + 1) = ((i + 1 : Nat) : Int) := by rw [IntWalk.i64_in _ (by omega)]; omega
              obtain ⟨X, hX⟩ : ∃ X, h i = X := ⟨_, rfl⟩
              obtain ⟨Y, hY⟩ : ∃ Y, h j = Y := ⟨_, rfl⟩
              obtain ⟨ci, cj, fi, fj, hF2, ht2⟩ := hP.row.swp_at hin hjn X Y hX hY
              have HS2 : Hid (PartS w ((wz.drew.setCell ⟨g, i, none⟩ (.int .u64 (Y : Nat))).setCell ⟨g, j, none⟩ (.int .u64 (X : Nat))) g cap n a b f v (i + 1) j1) := HLv.out i j j1 h _ _ hai hlt hjb hj1 hP hvi2 hvj2 hF2 (hP.turn.trans ht2)
              have hj1a : a ≤ j1 := by omega
              have hj1b : j1 < b := by omega
              have hij2 : i + 1 ≤ j1 + 1 := by omega
              have hm1 : j1 < j := by omega
              clear HS hP hX hY hF2 ht2 hj1 hvi2 hvj2
              go_upto_region 10 with fail
              all_goals
                go_region
                all_goals go_wp2
                go_loopw [10, 11] (fun u u2 wv => ∃ i j : Nat, a + 1 ≤ i ∧ i ≤ j + 1 ∧ a ≤ j ∧ j < b ∧ u = .int .i64 (i : Nat) ∧ u2 = .int .i64 (j : Nat) ∧ Hid (PartS w wv g cap n a b f v i j)) (fun u u2 _ => (intOf u2).toNat + 2 - (intOf u).toNat)
                case atStart => exact ⟨i + 1, j1, by omega, hij2, hj1a, hj1b, by first | rfl | go_num, rfl, HS2.out⟩
                case round =>
                  clear HS2
                  obtain ⟨i, j, hai, hij, haj, hjb, rfl, rfl, hS⟩ := hrel
                  obtain ⟨i0, hi0a, hi0b⟩ : ∃ i0, i0 ≤ i ∧ i ≤ i0 := ⟨_, Nat.le_refl _, Nat.le_refl _⟩
                  obtain ⟨j0, hj0a, hj0b⟩ : ∃ j0, j ≤ j0 ∧ j0 ≤ j := ⟨_, Nat.le_refl _, Nat.le_refl _⟩
                  have HS := Lib.hid hS.out
                  clear hS
                  go_wp2
                  go_loopw [10] (fun u wv => ∃ i : Nat, a + 1 ≤ i ∧ i0 ≤ i ∧ i ≤ j + 1 ∧ u = .int .i64 (i : Nat) ∧ Hid (PartS w wv g cap n a b f v i j)) (fun u _ => j + 1 - (intOf u).toNat)
                  case atStart => exact ⟨i, by omega, by omega, by omega, by first | rfl | go_num, HS.out⟩
                  case round =>
                    clear HS
                    obtain ⟨i, hai, hii, hij, rfl, hB⟩ := hrel
                    obtain ⟨h, hP⟩ := hB.out
                    by_cases hle : i ≤ j
                    · have hd : decide ((i : Int) ≤ (j : Int)) = true := by simp; omega
                      have hd1 : decide (i ≤ j) = true := by simp; omega
                      have hin : i < n := by omega
                      have han : a < n := by omega
                      obtain ⟨x, hx⟩ : ∃ x, h i = x := ⟨_, rfl⟩
                      have ci := hP.row.cell hin
                      have ca := hP.row.cell han
                      rw [hx] at ci
                      rw [hP.piv] at ca
                      obtain ⟨r, hr⟩ : ∃ r, decide (x < v) = r := ⟨_, rfl⟩
                      have CLr : Hid (∀ w, Calls Tryz.prog 78 #[.int .u64 (x : Nat), .int .u64 (v : Nat)] w fun e w' => e = .returned (.bool r) ∧ w = w') := fun w => by rw [← hr]; exact lessU_fn x v w
                      have HT : Hid (r = true → PartS w wr.drew g cap n a b f v (i + 1) j) := fun hr2 => ⟨h, hP.drew.more (by rw [hx]; rw [hr2] at hr; simpa using hr)⟩
                      have HE : Hid (r = false → ∃ h, PartH w wr.drew g cap n a b f v i j h ∧ (i ≤ j → v ≤ h i)) := fun hr2 => ⟨h, hP.drew, fun _ => by rw [hx]; rw [hr2] at hr; simpa using hr⟩
                      have hle1 : i + 1 ≤ j + 1 := by omega
                      clear hB hP hx hr hle
                      go_upto_region 13 with fail
                      go_region_held3 (fun w' => w'.cell? ⟨g, i, none⟩ = some (.int .u64 (x : Nat)) ∧ w'.cell? ⟨g, a, none⟩ = some (.int .u64 (v : Nat))) (go_keep)
                        (first | (go_at_call 78; ((with_reducible refine (CLr.out _).mono ?_); rintro e w5 ⟨rfl, rfl⟩)))
                      cases r
                      rotate_left
                      · go_wp2
                        all_goals
                          go_roundw
                          all_goals first | exact ⟨i + 1, by omega, by omega, by omega, by go_num, HT.out rfl⟩ | exact ⟨i + 1, by omega, by omega, by omega, by go_num, HT.out trivial⟩ | (simp [intOf]; omega)
                      · have HS : Hid (∃ h, PartH w wr.drew g cap n a b f v i j h ∧ (i ≤ j → v ≤ h i)) := HE.out rfl
                        obtain ⟨wz, hwz⟩ : ∃ wz, wr.drew = wz := ⟨_, rfl⟩
                        rw [hwz] at HS
                        rw [hwz]
                        clear hwz HT HE CLr ci ca hd hd1
                        go_wp2
                        go_loopw [11] (fun u wv => ∃ j : Nat, a ≤ j ∧ j < b ∧ i ≤ j + 1 ∧ j ≤ j0 ∧ u = .int .i64 (j : Nat) ∧ Hid (∃ h, PartH w wv g cap n a b f v i j h ∧ (i ≤ j → v ≤ h i))) (fun u _ => (intOf u).toNat)
                        case atStart => exact ⟨j, by omega, by omega, by omega, by omega, by first | rfl | go_num, HS.out⟩
                        case round =>
                          clear HS
                          obtain ⟨j, haj, hjb, hij, hjj0, rfl, hB⟩ := hrel
                          obtain ⟨h, hP, hvi⟩ := hB.out
                          by_cases hle : i ≤ j
                          · have hd : decide ((i : Int) ≤ (j : Int)) = true := by simp; omega
                            have hd1 : decide (i ≤ j) = true := by simp; omega
                            have hjn : j < n := by omega
                            have han : a < n := by omega
                            obtain ⟨j1, hj1⟩ : ∃ j1, j = j1 + 1 := ⟨j - 1, by omega⟩
                            have hwj : IntKind.i64.wrap ((j : Int) - 1) = ((j1 : Nat) : Int) := by rw [IntWalk.i64_in _ (by omega)]; omega
                            obtain ⟨x, hx⟩ : ∃ x, h j = x := ⟨_, rfl⟩
                            have cj := hP.row.cell hjn
                            have ca := hP.row.cell han
                            rw [hx] at cj
                            rw [hP.piv] at ca
                            obtain ⟨r, hr⟩ : ∃ r, decide (x < v) = r := ⟨_, rfl⟩
                            have CLr : Hid (∀ w, Calls Tryz.prog 78 #[.int .u64 (x : Nat), .int .u64 (v : Nat)] w fun e w' => e = .returned (.bool r) ∧ w = w') := fun w => by rw [← hr]; exact lessU_fn x v w
                            have HT : Hid (r = false → ∃ h, PartH w wr.drew g cap n a b f v i j1 h ∧ (i ≤ j1 → v ≤ h i)) := fun hr2 => ⟨h, hP.drew.less hj1 (by rw [hx]; rw [hr2] at hr; simpa using hr), fun h => hvi (by omega)⟩
                            have HE : Hid (r = true → (∃ h, PartH w wr.drew g cap n a b f v i j h ∧ v ≤ h i ∧ h j < v) ∧ i < j) := fun hr2 => by
                              have h1 := hvi hle
                              have h2 : h j < v := by rw [hx]; rw [hr2] at hr; simpa using hr
                              refine ⟨⟨h, hP.drew, h1, h2⟩, ?_⟩
                              rcases Nat.lt_or_ge i j with h3 | h3
                              · exact h3
                              · have : i = j := by omega
                                rw [this] at h1; omega
                            have hjj : j1 < j := by omega
                            have haj1 : a ≤ j1 := by omega
                            have hij1 : i ≤ j1 + 1 := by omega
                            have hjb1 : j1 < b := by omega
                            clear hB hP hx hr hvi hj1 hle
                            go_upto_region 15 with fail
                            go_region_held3 (fun w' => w'.cell? ⟨g, j, none⟩ = some (.int .u64 (x : Nat)) ∧ w'.cell? ⟨g, a, none⟩ = some (.int .u64 (v : Nat))) (go_keep)
                              (first | (go_at_call 78; ((with_reducible refine (CLr.out _).mono ?_); rintro e w5 ⟨rfl, rfl⟩)))
                            cases r
                            · go_wp2
                              all_goals
                                go_roundw
                                all_goals first | exact ⟨j1, haj1, hjb1, hij1, by omega, by go_num, HT.out rfl⟩ | exact ⟨j1, haj1, hjb1, hij1, by omega, by go_num, HT.out trivial⟩ | exact ⟨j1, haj1, hjb1, hij1, by omega, rfl, HT.out trivial⟩ | exact ⟨j1, haj1, hjb1, hij1, by omega, rfl, HT.out rfl⟩ | (simp [intOf]; omega)
                            · simp only [Bool.not_true]
                              have hlt : i < j := (HE.out rfl).2
                              have HS : Hid (∃ h, PartH w wr.drew g cap n a b f v i j h ∧ v ≤ h i ∧ h j < v) := (HE.out rfl).1
                              obtain ⟨wz, hwz⟩ : ∃ wz, wr.drew = wz := ⟨_, rfl⟩
                              rw [hwz] at HS
                              rw [hwz]
                              clear hwz HT HE CLr cj ca hd hd1 hwj hjj haj1 hij1 hjb1
                              have hgt : decide ((j : Int) < (i : Int)) = false := by simp; omega
                              have hgt1 : decide (j < i) = false := by simp; omega
                              obtain ⟨h, hP, hvi2, hvj2⟩ := HS.out
                              have hin : i < n := by omega
                              have hjn : j < n := by omega
                              obtain ⟨j1, hj1⟩ : ∃ j1, j = j1 + 1 := ⟨j - 1, by omega⟩
                              have hwj : IntKind.i64.wrap ((j : Int) - 1) = ((j1 : Nat) : Int) := by rw [IntWalk.i64_in _ (by omega)]; omega
                              have hwi : IntKind.i64.wrap ((i : Int) + 1) = ((i + 1 : Nat) : Int) := by rw [IntWalk.i64_in _ (by omega)]; omega
                              obtain ⟨X, hX⟩ : ∃ X, h i = X := ⟨_, rfl⟩
                              obtain ⟨Y, hY⟩ : ∃ Y, h j = Y := ⟨_, rfl⟩
                              obtain ⟨ci, cj, fi, fj, hF2, ht2⟩ := hP.row.swp_at hin hjn X Y hX hY
                              have HS2 : Hid (PartS w ((wz.drew.setCell ⟨g, i, none⟩ (.int .u64 (Y : Nat))).setCell ⟨g, j, none⟩ (.int .u64 (X : Nat))) g cap n a b f v (i + 1) j1) := HLv.out i j j1 h _ _ hai hlt hjb hj1 hP hvi2 hvj2 hF2 (hP.turn.trans ht2)
                              have hj1a : a ≤ j1 := by omega
                              have hj1b : j1 < b := by omega
                              have hij2 : i + 1 ≤ j1 + 1 := by omega
                              have hm1 : j1 < j := by omega
                              clear HS hP hX hY hF2 ht2 hj1 hvi2 hvj2
                              go_upto_region 18 with fail
                              all_goals
                                go_region
                                all_goals go_wp2
                                all_goals
                                  go_roundw
                                  case rel => exact ⟨i + 1, j1, by omega, hij2, hj1a, hj1b, by go_num, rfl, HS2.out⟩
                                  case measure => simp [intOf]; omega
                          · have hd : decide ((i : Int) ≤ (j : Int)) = false := by simp; omega
                            have hd1 : decide (i ≤ j) = false := by simp; omega
                            have HQ : Hid (∀ m, ∃ h, PartH w (wr.drewN m) g cap n a b f v i j h ∧ (i ≤ j → i < j)) := fun m => ⟨h, hP.drewN m, fun h => by omega⟩
                            have hij1 : i ≤ j + 1 ∧ j + 1 ≤ i := by omega
                            clear hB hP hvi hle
                            go_upto_region 15 with fail
                            go_quiet (fail)
                            have HS : Hid (PartS w (wr.drewN nq) g cap n a b f v i j) := by
                              obtain ⟨h, h1, _⟩ := HQ.out nq
                              exact ⟨h, h1⟩
                            obtain ⟨wz, hwz⟩ : ∃ wz, wr.drewN nq = wz := ⟨_, rfl⟩
                            rw [hwz] at HS
                            rw [hwz]
                            clear hwz
                            clear HQ hd hd1
                            have hgt : decide ((j : Int) < (i : Int)) = true := by simp; omega
                            have hgt1 : decide (j < i) = true := by simp; omega
                            obtain ⟨h, hP⟩ := HS.out
                            have haj2 := hP.apart HLo.out haj (by omega)
                            have hjn : j < n := by omega
                            have han : a < n := by omega
                            obtain ⟨X, hX⟩ : ∃ X, h j = X := ⟨_, rfl⟩
                            obtain ⟨Y, hY⟩ : ∃ Y, h a = Y := ⟨_, rfl⟩
                            obtain ⟨cj, ca, fj, fa, hF2, ht2⟩ := hP.row.swp_at hjn han X Y hX hY
                            have HR : Hid (partPost w g cap n a b f v j ((wz.drew.setCell ⟨g, j, none⟩ (.int .u64 (Y : Nat))).setCell ⟨g, a, none⟩ (.int .u64 (X : Nat)))) := hP.fin haj2 hjb (by omega) hF2 (hP.turn.trans ht2)
                            clear HS hP hX hY hF2 ht2
                            go_upto_region 21 with fail
                            go_region
                            all_goals go_wp2
                            go_ret2
                            exact ⟨j, false, rfl, HR.out⟩
                    · obtain rfl : i = j + 1 := by omega
                      have hd : decide (((j + 1 : Nat) : Int) ≤ (j : Int)) = false := by simp; omega
                      have hd1 : decide (j + 1 ≤ j) = false := by simp
                      have HQ : Hid (∀ m, ∃ h, PartH w (wr.drewN m) g cap n a b f v (j + 1) j h ∧ (j + 1 ≤ j → v ≤ h (j + 1))) := fun m => ⟨h, hP.drewN m, fun h => by omega⟩
                      obtain ⟨i, hi1⟩ : ∃ i, j + 1 = i := ⟨_, rfl⟩
                      rw [hi1] at hd hd1 HQ hij hai hii
                      rw [hi1]
                      clear hB hP
                      go_upto_region 13 with fail
                      go_quiet (fail)
                      have HS := Lib.hid (HQ.out nq)
                      obtain ⟨wz, hwz⟩ : ∃ wz, wr.drewN nq = wz := ⟨_, rfl⟩
                      rw [hwz] at HS
                      rw [hwz]
                      clear hwz
                      clear HQ hd hd1
                      go_wp2
                      go_loopw [11] (fun u wv => ∃ j : Nat, a ≤ j ∧ j < b ∧ i ≤ j + 1 ∧ j ≤ j0 ∧ u = .int .i64 (j : Nat) ∧ Hid (∃ h, PartH w wv g cap n a b f v i j h ∧ (i ≤ j → v ≤ h i))) (fun u _ => (intOf u).toNat)
                      case atStart => exact ⟨j, by omega, by omega, by omega, by omega, by first | rfl | go_num, HS.out⟩
                      case round =>
                        clear HS
                        obtain ⟨j, haj, hjb, hij, hjj0, rfl, hB⟩ := hrel
                        obtain ⟨h, hP, hvi⟩ := hB.out
                        by_cases hle : i ≤ j
                        · have hd : decide ((i : Int) ≤ (j : Int)) = true := by simp; omega
                          have hd1 : decide (i ≤ j) = true := by simp; omega
                          have hjn : j < n := by omega
                          have han : a < n := by omega
                          obtain ⟨j1, hj1⟩ : ∃ j1, j = j1 + 1 := ⟨j - 1, by omega⟩
                          have hwj : IntKind.i64.wrap ((j : Int) - 1) = ((j1 : Nat) : Int) := by rw [IntWalk.i64_in _ (by omega)]; omega
                          obtain ⟨x, hx⟩ : ∃ x, h j = x := ⟨_, rfl⟩
                          have cj := hP.row.cell hjn
                          have ca := hP.row.cell han
                          rw [hx] at cj
                          rw [hP.piv] at ca
                          obtain ⟨r, hr⟩ : ∃ r, decide (x < v) = r := ⟨_, rfl⟩
                          have CLr : Hid (∀ w, Calls Tryz.prog 78 #[.int .u64 (x : Nat), .int .u64 (v : Nat)] w fun e w' => e = .returned (.bool r) ∧ w = w') := fun w => by rw [← hr]; exact lessU_fn x v w
                          have HT : Hid (r = false → ∃ h, PartH w wr.drew g cap n a b f v i j1 h ∧ (i ≤ j1 → v ≤ h i)) := fun hr2 => ⟨h, hP.drew.less hj1 (by rw [hx]; rw [hr2] at hr; simpa using hr), fun h => hvi (by omega)⟩
                          have HE : Hid (r = true → (∃ h, PartH w wr.drew g cap n a b f v i j h ∧ v ≤ h i ∧ h j < v) ∧ i < j) := fun hr2 => by
                            have h1 := hvi hle
                            have h2 : h j < v := by rw [hx]; rw [hr2] at hr; simpa using hr
                            refine ⟨⟨h, hP.drew, h1, h2⟩, ?_⟩
                            rcases Nat.lt_or_ge i j with h3 | h3
                            · exact h3
                            · have : i = j := by omega
                              rw [this] at h1; omega
                          have hjj : j1 < j := by omega
                          have haj1 : a ≤ j1 := by omega
                          have hij1 : i ≤ j1 + 1 := by omega
                          have hjb1 : j1 < b := by omega
                          clear hB hP hx hr hvi hj1 hle
                          go_upto_region 15 with fail
                          go_region_held3 (fun w' => w'.cell? ⟨g, j, none⟩ = some (.int .u64 (x : Nat)) ∧ w'.cell? ⟨g, a, none⟩ = some (.int .u64 (v : Nat))) (go_keep)
                            (first | (go_at_call 78; ((with_reducible refine (CLr.out _).mono ?_); rintro e w5 ⟨rfl, rfl⟩)))
                          cases r
                          · go_wp2
                            all_goals
                              go_roundw
                              all_goals first | exact ⟨j1, haj1, hjb1, hij1, by omega, by go_num, HT.out rfl⟩ | exact ⟨j1, haj1, hjb1, hij1, by omega, by go_num, HT.out trivial⟩ | exact ⟨j1, haj1, hjb1, hij1, by omega, rfl, HT.out trivial⟩ | exact ⟨j1, haj1, hjb1, hij1, by omega, rfl, HT.out rfl⟩ | (simp [intOf]; omega)
                          · simp only [Bool.not_true]
                            have hlt : i < j := (HE.out rfl).2
                            have HS : Hid (∃ h, PartH w wr.drew g cap n a b f v i j h ∧ v ≤ h i ∧ h j < v) := (HE.out rfl).1
                            obtain ⟨wz, hwz⟩ : ∃ wz, wr.drew = wz := ⟨_, rfl⟩
                            rw [hwz] at HS
                            rw [hwz]
                            clear hwz HT HE CLr cj ca hd hd1 hwj hjj haj1 hij1 hjb1
                            have hgt : decide ((j : Int) < (i : Int)) = false := by simp; omega
                            have hgt1 : decide (j < i) = false := by simp; omega
                            obtain ⟨h, hP, hvi2, hvj2⟩ := HS.out
                            have hin : i < n := by omega
                            have hjn : j < n := by omega
                            obtain ⟨j1, hj1⟩ : ∃ j1, j = j1 + 1 := ⟨j - 1, by omega⟩
                            have hwj : IntKind.i64.wrap ((j : Int) - 1) = ((j1 : Nat) : Int) := by rw [IntWalk.i64_in _ (by omega)]; omega
                            have hwi : IntKind.i64.wrap ((i : Int) + 1) = ((i + 1 : Nat) : Int) := by rw [IntWalk.i64_in _ (by omega)]; omega
                            obtain ⟨X, hX⟩ : ∃ X, h i = X := ⟨_, rfl⟩
                            obtain ⟨Y, hY⟩ : ∃ Y, h j = Y := ⟨_, rfl⟩
                            obtain ⟨ci, cj, fi, fj, hF2, ht2⟩ := hP.row.swp_at hin hjn X Y hX hY
                            have HS2 : Hid (PartS w ((wz.drew.setCell ⟨g, i, none⟩ (.int .u64 (Y : Nat))).setCell ⟨g, j, none⟩ (.int .u64 (X : Nat))) g cap n a b f v (i + 1) j1) := HLv.out i j j1 h _ _ hai hlt hjb hj1 hP hvi2 hvj2 hF2 (hP.turn.trans ht2)
                            have hj1a : a ≤ j1 := by omega
                            have hj1b : j1 < b := by omega
                            have hij2 : i + 1 ≤ j1 + 1 := by omega
                            have hm1 : j1 < j := by omega
                            clear HS hP hX hY hF2 ht2 hj1 hvi2 hvj2
                            go_upto_region 18 with fail
                            all_goals
                              go_region
                              all_goals go_wp2
                              all_goals
                                go_roundw
                                case rel => exact ⟨i + 1, j1, by omega, hij2, hj1a, hj1b, by go_num, rfl, HS2.out⟩
                                case measure => simp [intOf]; omega
                        · have hd : decide ((i : Int) ≤ (j : Int)) = false := by simp; omega
                          have hd1 : decide (i ≤ j) = false := by simp; omega
                          have HQ : Hid (∀ m, ∃ h, PartH w (wr.drewN m) g cap n a b f v i j h ∧ (i ≤ j → i < j)) := fun m => ⟨h, hP.drewN m, fun h => by omega⟩
                          have hij1 : i ≤ j + 1 ∧ j + 1 ≤ i := by omega
                          clear hB hP hvi hle
                          go_upto_region 15 with fail
                          go_quiet (fail)
                          have HS : Hid (PartS w (wr.drewN nq) g cap n a b f v i j) := by
                            obtain ⟨h, h1, _⟩ := HQ.out nq
                            exact ⟨h, h1⟩
                          obtain ⟨wz, hwz⟩ : ∃ wz, wr.drewN nq = wz := ⟨_, rfl⟩
                          rw [hwz] at HS
                          rw [hwz]
                          clear hwz
                          clear HQ hd hd1
                          have hgt : decide ((j : Int) < (i : Int)) = true := by simp; omega
                          have hgt1 : decide (j < i) = true := by simp; omega
                          obtain ⟨h, hP⟩ := HS.out
                          have haj2 := hP.apart HLo.out haj (by omega)
                          have hjn : j < n := by omega
                          have han : a < n := by omega
                          obtain ⟨X, hX⟩ : ∃ X, h j = X := ⟨_, rfl⟩
                          obtain ⟨Y, hY⟩ : ∃ Y, h a = Y := ⟨_, rfl⟩
                          obtain ⟨cj, ca, fj, fa, hF2, ht2⟩ := hP.row.swp_at hjn han X Y hX hY
                          have HR : Hid (partPost w g cap n a b f v j ((wz.drew.setCell ⟨g, j, none⟩ (.int .u64 (Y : Nat))).setCell ⟨g, a, none⟩ (.int .u64 (X : Nat)))) := hP.fin haj2 hjb (by omega) hF2 (hP.turn.trans ht2)
                          clear HS hP hX hY hF2 ht2
                          go_upto_region 21 with fail
                          go_region
                          all_goals go_wp2
                          go_ret2
                          exact ⟨j, false, rfl, HR.out⟩
          · have hd : decide ((i : Int) ≤ (j : Int)) = false := by simp; omega
            have hd1 : decide (i ≤ j) = false := by simp; omega
            have HQ : Hid (∀ m, ∃ h, PartH w (wr.drewN m) g cap n a b f v i j h ∧ (i ≤ j → i < j)) := fun m => ⟨h, hP.drewN m, fun h => by omega⟩
            have hij1 : i ≤ j + 1 ∧ j + 1 ≤ i := by omega
            clear hB hP hvi hle
            go_upto_region 5 with fail
            go_quiet (fail)
            have HS : Hid (PartS w (wr.drewN nq) g cap n a b f v i j) := by
              obtain ⟨h, h1, _⟩ := HQ.out nq
              exact ⟨h, h1⟩
            obtain ⟨wz, hwz⟩ : ∃ wz, wr.drewN nq = wz := ⟨_, rfl⟩
            rw [hwz] at HS
            rw [hwz]
            clear hwz
            clear HQ hd hd1
            have hgt : decide ((j : Int) < (i : Int)) = true := by simp; omega
            have hgt1 : decide (j < i) = true := by simp; omega
            obtain ⟨h, hP⟩ := HS.out
            have haj2 := hP.apart HLo.out haj (by omega)
            have hjn : j < n := by omega
            have han : a < n := by omega
            obtain ⟨X, hX⟩ : ∃ X, h j = X := ⟨_, rfl⟩
            obtain ⟨Y, hY⟩ : ∃ Y, h a = Y := ⟨_, rfl⟩
            obtain ⟨cj, ca, fj, fa, hF2, ht2⟩ := hP.row.swp_at hjn han X Y hX hY
            have HR : Hid (partPost w g cap n a b f v j ((wz.drew.setCell ⟨g, j, none⟩ (.int .u64 (Y : Nat))).setCell ⟨g, a, none⟩ (.int .u64 (X : Nat)))) := hP.fin haj2 hjb (by omega) hF2 (hP.turn.trans ht2)
            clear HS hP hX hY hF2 ht2
            go_upto_region 8 with fail
            go_region
            all_goals go_wp2
            go_ret2
            exact ⟨j, true, rfl, HR.out⟩
    · obtain rfl : i = j + 1 := by omega
      have hd : decide (((j + 1 : Nat) : Int) ≤ (j : Int)) = false := by simp; omega
      have hd1 : decide (j + 1 ≤ j) = false := by simp
      have HQ : Hid (∀ m, ∃ h, PartH w (wr.drewN m) g cap n a b f v (j + 1) j h ∧ (j + 1 ≤ j → v ≤ h (j + 1))) := fun m => ⟨h, hP.drewN m, fun h => by omega⟩
      obtain ⟨i, hi1⟩ : ∃ i, j + 1 = i := ⟨_, rfl⟩
      rw [hi1] at hd hd1 HQ hij hai hii
      rw [hi1]
      clear hB hP
      go_upto_region 3 with fail
      go_quiet (fail)
      have HS := Lib.hid (HQ.out nq)
      obtain ⟨wz, hwz⟩ : ∃ wz, wr.drewN nq = wz := ⟨_, rfl⟩
      rw [hwz] at HS
      rw [hwz]
      clear hwz
      clear HQ hd hd1
      go_wp2
      go_loopw [11] (fun u wv => ∃ j : Nat, a ≤ j ∧ j < b ∧ i ≤ j + 1 ∧ j ≤ j0 ∧ u = .int .i64 (j : Nat) ∧ Hid (∃ h, PartH w wv g cap n a b f v i j h ∧ (i ≤ j → v ≤ h i))) (fun u _ => (intOf u).toNat)
      case atStart => exact ⟨j, by omega, by omega, by omega, by omega, by first | rfl | go_num, HS.out⟩
      case round =>
        clear HS
        obtain ⟨j, haj, hjb, hij, hjj0, rfl, hB⟩ := hrel
        obtain ⟨h, hP, hvi⟩ := hB.out
        by_cases hle : i ≤ j
        · have hd : decide ((i : Int) ≤ (j : Int)) = true := by simp; omega
          have hd1 : decide (i ≤ j) = true := by simp; omega
          have hjn : j < n := by omega
          have han : a < n := by omega
          obtain ⟨j1, hj1⟩ : ∃ j1, j = j1 + 1 := ⟨j - 1, by omega⟩
          have hwj : IntKind.i64.wrap ((j : Int) - 1) = ((j1 : Nat) : Int) := by rw [IntWalk.i64_in _ (by omega)]; omega
          obtain ⟨x, hx⟩ : ∃ x, h j = x := ⟨_, rfl⟩
          have cj := hP.row.cell hjn
          have ca := hP.row.cell han
          rw [hx] at cj
          rw [hP.piv] at ca
          obtain ⟨r, hr⟩ : ∃ r, decide (x < v) = r := ⟨_, rfl⟩
          have CLr : Hid (∀ w, Calls Tryz.prog 78 #[.int .u64 (x : Nat), .int .u64 (v : Nat)] w fun e w' => e = .returned (.bool r) ∧ w = w') := fun w => by rw [← hr]; exact lessU_fn x v w
          have HT : Hid (r = false → ∃ h, PartH w wr.drew g cap n a b f v i j1 h ∧ (i ≤ j1 → v ≤ h i)) := fun hr2 => ⟨h, hP.drew.less hj1 (by rw [hx]; rw [hr2] at hr; simpa using hr), fun h => hvi (by omega)⟩
          have HE : Hid (r = true → (∃ h, PartH w wr.drew g cap n a b f v i j h ∧ v ≤ h i ∧ h j < v) ∧ i < j) := fun hr2 => by
            have h1 := hvi hle
            have h2 : h j < v := by rw [hx]; rw [hr2] at hr; simpa using hr
            refine ⟨⟨h, hP.drew, h1, h2⟩, ?_⟩
            rcases Nat.lt_or_ge i j with h3 | h3
            · exact h3
            · have : i = j := by omega
              rw [this] at h1; omega
          have hjj : j1 < j := by omega
          have haj1 : a ≤ j1 := by omega
          have hij1 : i ≤ j1 + 1 := by omega
          have hjb1 : j1 < b := by omega
          clear hB hP hx hr hvi hj1 hle
          go_upto_region 5 with fail
          go_region_held3 (fun w' => w'.cell? ⟨g, j, none⟩ = some (.int .u64 (x : Nat)) ∧ w'.cell? ⟨g, a, none⟩ = some (.int .u64 (v : Nat))) (go_keep)
            (first | (go_at_call 78; ((with_reducible refine (CLr.out _).mono ?_); rintro e w5 ⟨rfl, rfl⟩)))
          cases r
          · go_wp2
            all_goals
              go_roundw
              all_goals first | exact ⟨j1, haj1, hjb1, hij1, by omega, by go_num, HT.out rfl⟩ | exact ⟨j1, haj1, hjb1, hij1, by omega, by go_num, HT.out trivial⟩ | exact ⟨j1, haj1, hjb1, hij1, by omega, rfl, HT.out trivial⟩ | exact ⟨j1, haj1, hjb1, hij1, by omega, rfl, HT.out rfl⟩ | (simp [intOf]; omega)
          · simp only [Bool.not_true]
            have hlt : i < j := (HE.out rfl).2
            have HS : Hid (∃ h, PartH w wr.drew g cap n a b f v i j h ∧ v ≤ h i ∧ h j < v) := (HE.out rfl).1
            obtain ⟨wz, hwz⟩ : ∃ wz, wr.drew = wz := ⟨_, rfl⟩
            rw [hwz] at HS
            rw [hwz]
            clear hwz HT HE CLr cj ca hd hd1 hwj hjj haj1 hij1 hjb1
            have hgt : decide ((j : Int) < (i : Int)) = false := by simp; omega
            have hgt1 : decide (j < i) = false := by simp; omega
            obtain ⟨h, hP, hvi2, hvj2⟩ := HS.out
            have hin : i < n := by omega
            have hjn : j < n := by omega
            obtain ⟨j1, hj1⟩ : ∃ j1, j = j1 + 1 := ⟨j - 1, by omega⟩
            have hwj : IntKind.i64.wrap ((j : Int) - 1) = ((j1 : Nat) : Int) := by rw [IntWalk.i64_in _ (by omega)]; omega
            have hwi : IntKind.i64.wrap ((i : Int) + 1) = ((i + 1 : Nat) : Int) := by rw [IntWalk.i64_in _ (by omega)]; omega
            obtain ⟨X, hX⟩ : ∃ X, h i = X := ⟨_, rfl⟩
            obtain ⟨Y, hY⟩ : ∃ Y, h j = Y := ⟨_, rfl⟩
            obtain ⟨ci, cj, fi, fj, hF2, ht2⟩ := hP.row.swp_at hin hjn X Y hX hY
            have HS2 : Hid (PartS w ((wz.drew.setCell ⟨g, i, none⟩ (.int .u64 (Y : Nat))).setCell ⟨g, j, none⟩ (.int .u64 (X : Nat))) g cap n a b f v (i + 1) j1) := HLv.out i j j1 h _ _ hai hlt hjb hj1 hP hvi2 hvj2 hF2 (hP.turn.trans ht2)
            have hj1a : a ≤ j1 := by omega
            have hj1b : j1 < b := by omega
            have hij2 : i + 1 ≤ j1 + 1 := by omega
            have hm1 : j1 < j := by omega
            clear HS hP hX hY hF2 ht2 hj1 hvi2 hvj2
            go_upto_region 10 with fail
            all_goals
              go_region
              all_goals go_wp2
              go_loopw [10, 11] (fun u u2 wv => ∃ i j : Nat, a + 1 ≤ i ∧ i ≤ j + 1 ∧ a ≤ j ∧ j < b ∧ u = .int .i64 (i : Nat) ∧ u2 = .int .i64 (j : Nat) ∧ Hid (PartS w wv g cap n a b f v i j)) (fun u u2 _ => (intOf u2).toNat + 2 - (intOf u).toNat)
              case atStart => exact ⟨i + 1, j1, by omega, hij2, hj1a, hj1b, by first | rfl | go_num, rfl, HS2.out⟩
              case round =>
                clear HS2
                obtain ⟨i, j, hai, hij, haj, hjb, rfl, rfl, hS⟩ := hrel
                obtain ⟨i0, hi0a, hi0b⟩ : ∃ i0, i0 ≤ i ∧ i ≤ i0 := ⟨_, Nat.le_refl _, Nat.le_refl _⟩
                obtain ⟨j0, hj0a, hj0b⟩ : ∃ j0, j ≤ j0 ∧ j0 ≤ j := ⟨_, Nat.le_refl _, Nat.le_refl _⟩
                have HS := Lib.hid hS.out
                clear hS
                go_wp2
                go_loopw [10] (fun u wv => ∃ i : Nat, a + 1 ≤ i ∧ i0 ≤ i ∧ i ≤ j + 1 ∧ u = .int .i64 (i : Nat) ∧ Hid (PartS w wv g cap n a b f v i j)) (fun u _ => j + 1 - (intOf u).toNat)
                case atStart => exact ⟨i, by omega, by omega, by omega, by first | rfl | go_num, HS.out⟩
                case round =>
                  clear HS
                  obtain ⟨i, hai, hii, hij, rfl, hB⟩ := hrel
                  obtain ⟨h, hP⟩ := hB.out
                  by_cases hle : i ≤ j
                  · have hd : decide ((i : Int) ≤ (j : Int)) = true := by simp; omega
                    have hd1 : decide (i ≤ j) = true := by simp; omega
                    have hin : i < n := by omega
                    have han : a < n := by omega
                    obtain ⟨x, hx⟩ : ∃ x, h i = x := ⟨_, rfl⟩
                    have ci := hP.row.cell hin
                    have ca := hP.row.cell han
                    rw [hx] at ci
                    rw [hP.piv] at ca
                    obtain ⟨r, hr⟩ : ∃ r, decide (x < v) = r := ⟨_, rfl⟩
                    have CLr : Hid (∀ w, Calls Tryz.prog 78 #[.int .u64 (x : Nat), .int .u64 (v : Nat)] w fun e w' => e = .returned (.bool r) ∧ w = w') := fun w => by rw [← hr]; exact lessU_fn x v w
                    have HT : Hid (r = true → PartS w wr.drew g cap n a b f v (i + 1) j) := fun hr2 => ⟨h, hP.drew.more (by rw [hx]; rw [hr2] at hr; simpa using hr)⟩
                    have HE : Hid (r = false → ∃ h, PartH w wr.drew g cap n a b f v i j h ∧ (i ≤ j → v ≤ h i)) := fun hr2 => ⟨h, hP.drew, fun _ => by rw [hx]; rw [hr2] at hr; simpa using hr⟩
                    have hle1 : i + 1 ≤ j + 1 := by omega
                    clear hB hP hx hr hle
                    go_upto_region 13 with fail
                    go_region_held3 (fun w' => w'.cell? ⟨g, i, none⟩ = some (.int .u64 (x : Nat)) ∧ w'.cell? ⟨g, a, none⟩ = some (.int .u64 (v : Nat))) (go_keep)
                      (first | (go_at_call 78; ((with_reducible refine (CLr.out _).mono ?_); rintro e w5 ⟨rfl, rfl⟩)))
                    cases r
                    rotate_left
                    · go_wp2
                      all_goals
                        go_roundw
                        all_goals first | exact ⟨i + 1, by omega, by omega, by omega, by go_num, HT.out rfl⟩ | exact ⟨i + 1, by omega, by omega, by omega, by go_num, HT.out trivial⟩ | (simp [intOf]; omega)
                    · have HS : Hid (∃ h, PartH w wr.drew g cap n a b f v i j h ∧ (i ≤ j → v ≤ h i)) := HE.out rfl
                      obtain ⟨wz, hwz⟩ : ∃ wz, wr.drew = wz := ⟨_, rfl⟩
                      rw [hwz] at HS
                      rw [hwz]
                      clear hwz HT HE CLr ci ca hd hd1
                      go_wp2
                      go_loopw [11] (fun u wv => ∃ j : Nat, a ≤ j ∧ j < b ∧ i ≤ j + 1 ∧ j ≤ j0 ∧ u = .int .i64 (j : Nat) ∧ Hid (∃ h, PartH w wv g cap n a b f v i j h ∧ (i ≤ j → v ≤ h i))) (fun u _ => (intOf u).toNat)
                      case atStart => exact ⟨j, by omega, by omega, by omega, by omega, by first | rfl | go_num, HS.out⟩
                      case round =>
                        clear HS
                        obtain ⟨j, haj, hjb, hij, hjj0, rfl, hB⟩ := hrel
                        obtain ⟨h, hP, hvi⟩ := hB.out
                        by_cases hle : i ≤ j
                        · have hd : decide ((i : Int) ≤ (j : Int)) = true := by simp; omega
                          have hd1 : decide (i ≤ j) = true := by simp; omega
                          have hjn : j < n := by omega
                          have han : a < n := by omega
                          obtain ⟨j1, hj1⟩ : ∃ j1, j = j1 + 1 := ⟨j - 1, by omega⟩
                          have hwj : IntKind.i64.wrap ((j : Int) - 1) = ((j1 : Nat) : Int) := by rw [IntWalk.i64_in _ (by omega)]; omega
                          obtain ⟨x, hx⟩ : ∃ x, h j = x := ⟨_, rfl⟩
                          have cj := hP.row.cell hjn
                          have ca := hP.row.cell han
                          rw [hx] at cj
                          rw [hP.piv] at ca
                          obtain ⟨r, hr⟩ : ∃ r, decide (x < v) = r := ⟨_, rfl⟩
                          have CLr : Hid (∀ w, Calls Tryz.prog 78 #[.int .u64 (x : Nat), .int .u64 (v : Nat)] w fun e w' => e = .returned (.bool r) ∧ w = w') := fun w => by rw [← hr]; exact lessU_fn x v w
                          have HT : Hid (r = false → ∃ h, PartH w wr.drew g cap n a b f v i j1 h ∧ (i ≤ j1 → v ≤ h i)) := fun hr2 => ⟨h, hP.drew.less hj1 (by rw [hx]; rw [hr2] at hr; simpa using hr), fun h => hvi (by omega)⟩
                          have HE : Hid (r = true → (∃ h, PartH w wr.drew g cap n a b f v i j h ∧ v ≤ h i ∧ h j < v) ∧ i < j) := fun hr2 => by
                            have h1 := hvi hle
                            have h2 : h j < v := by rw [hx]; rw [hr2] at hr; simpa using hr
                            refine ⟨⟨h, hP.drew, h1, h2⟩, ?_⟩
                            rcases Nat.lt_or_ge i j with h3 | h3
                            · exact h3
                            · have : i = j := by omega
                              rw [this] at h1; omega
                          have hjj : j1 < j := by omega
                          have haj1 : a ≤ j1 := by omega
                          have hij1 : i ≤ j1 + 1 := by omega
                          have hjb1 : j1 < b := by omega
                          clear hB hP hx hr hvi hj1 hle
                          go_upto_region 15 with fail
                          go_region_held3 (fun w' => w'.cell? ⟨g, j, none⟩ = some (.int .u64 (x : Nat)) ∧ w'.cell? ⟨g, a, none⟩ = some (.int .u64 (v : Nat))) (go_keep)
                            (first | (go_at_call 78; ((with_reducible refine (CLr.out _).mono ?_); rintro e w5 ⟨rfl, rfl⟩)))
                          cases r
                          · go_wp2
                            all_goals
                              go_roundw
                              all_goals first | exact ⟨j1, haj1, hjb1, hij1, by omega, by go_num, HT.out rfl⟩ | exact ⟨j1, haj1, hjb1, hij1, by omega, by go_num, HT.out trivial⟩ | exact ⟨j1, haj1, hjb1, hij1, by omega, rfl, HT.out trivial⟩ | exact ⟨j1, haj1, hjb1, hij1, by omega, rfl, HT.out rfl⟩ | (simp [intOf]; omega)
                          · simp only [Bool.not_true]
                            have hlt : i < j := (HE.out rfl).2
                            have HS : Hid (∃ h, PartH w wr.drew g cap n a b f v i j h ∧ v ≤ h i ∧ h j < v) := (HE.out rfl).1
                            obtain ⟨wz, hwz⟩ : ∃ wz, wr.drew = wz := ⟨_, rfl⟩
                            rw [hwz] at HS
                            rw [hwz]
                            clear hwz HT HE CLr cj ca hd hd1 hwj hjj haj1 hij1 hjb1
                            have hgt : decide ((j : Int) < (i : Int)) = false := by simp; omega
                            have hgt1 : decide (j < i) = false := by simp; omega
                            obtain ⟨h, hP, hvi2, hvj2⟩ := HS.out
                            have hin : i < n := by omega
                            have hjn : j < n := by omega
                            obtain ⟨j1, hj1⟩ : ∃ j1, j = j1 + 1 := ⟨j - 1, by omega⟩
                            have hwj : IntKind.i64.wrap ((j : Int) - 1) = ((j1 : Nat) : Int) := by rw [IntWalk.i64_in _ (by omega)]; omega
                            have hwi : IntKind.i64.wrap ((i : Int) + 1) = ((i + 1 : Nat) : Int) := by rw [IntWalk.i64_in _ (by omega)]; omega
                            obtain ⟨X, hX⟩ : ∃ X, h i = X := ⟨_, rfl⟩
                            obtain ⟨Y, hY⟩ : ∃ Y, h j = Y := ⟨_, rfl⟩
                            obtain ⟨ci, cj, fi, fj, hF2, ht2⟩ := hP.row.swp_at hin hjn X Y hX hY
                            have HS2 : Hid (PartS w ((wz.drew.setCell ⟨g, i, none⟩ (.int .u64 (Y : Nat))).setCell ⟨g, j, none⟩ (.int .u64 (X : Nat))) g cap n a b f v (i + 1) j1) := HLv.out i j j1 h _ _ hai hlt hjb hj1 hP hvi2 hvj2 hF2 (hP.turn.trans ht2)
                            have hj1a : a ≤ j1 := by omega
                            have hj1b : j1 < b := by omega
                            have hij2 : i + 1 ≤ j1 + 1 := by omega
                            have hm1 : j1 < j := by omega
                            clear HS hP hX hY hF2 ht2 hj1 hvi2 hvj2
                            go_upto_region 18 with fail
                            all_goals
                              go_region
                              all_goals go_wp2
                              all_goals
                                go_roundw
                                case rel => exact ⟨i + 1, j1, by omega, hij2, hj1a, hj1b, by go_num, rfl, HS2.out⟩
                                case measure => simp [intOf]; omega
                        · have hd : decide ((i : Int) ≤ (j : Int)) = false := by simp; omega
                          have hd1 : decide (i ≤ j) = false := by simp; omega
                          have HQ : Hid (∀ m, ∃ h, PartH w (wr.drewN m) g cap n a b f v i j h ∧ (i ≤ j → i < j)) := fun m => ⟨h, hP.drewN m, fun h => by omega⟩
                          have hij1 : i ≤ j + 1 ∧ j + 1 ≤ i := by omega
                          clear hB hP hvi hle
                          go_upto_region 15 with fail
                          go_quiet (fail)
                          have HS : Hid (PartS w (wr.drewN nq) g cap n a b f v i j) := by
                            obtain ⟨h, h1, _⟩ := HQ.out nq
                            exact ⟨h, h1⟩
                          obtain ⟨wz, hwz⟩ : ∃ wz, wr.drewN nq = wz := ⟨_, rfl⟩
                          rw [hwz] at HS
                          rw [hwz]
                          clear hwz
                          clear HQ hd hd1
                          have hgt : decide ((j : Int) < (i : Int)) = true := by simp; omega
                          have hgt1 : decide (j < i) = true := by simp; omega
                          obtain ⟨h, hP⟩ := HS.out
                          have haj2 := hP.apart HLo.out haj (by omega)
                          have hjn : j < n := by omega
                          have han : a < n := by omega
                          obtain ⟨X, hX⟩ : ∃ X, h j = X := ⟨_, rfl⟩
                          obtain ⟨Y, hY⟩ : ∃ Y, h a = Y := ⟨_, rfl⟩
                          obtain ⟨cj, ca, fj, fa, hF2, ht2⟩ := hP.row.swp_at hjn han X Y hX hY
                          have HR : Hid (partPost w g cap n a b f v j ((wz.drew.setCell ⟨g, j, none⟩ (.int .u64 (Y : Nat))).setCell ⟨g, a, none⟩ (.int .u64 (X : Nat)))) := hP.fin haj2 hjb (by omega) hF2 (hP.turn.trans ht2)
                          clear HS hP hX hY hF2 ht2
                          go_upto_region 21 with fail
                          go_region
                          all_goals go_wp2
                          go_ret2
                          exact ⟨j, false, rfl, HR.out⟩
                  · obtain rfl : i = j + 1 := by omega
                    have hd : decide (((j + 1 : Nat) : Int) ≤ (j : Int)) = false := by simp; omega
                    have hd1 : decide (j + 1 ≤ j) = false := by simp
                    have HQ : Hid (∀ m, ∃ h, PartH w (wr.drewN m) g cap n a b f v (j + 1) j h ∧ (j + 1 ≤ j → v ≤ h (j + 1))) := fun m => ⟨h, hP.drewN m, fun h => by omega⟩
                    obtain ⟨i, hi1⟩ : ∃ i, j + 1 = i := ⟨_, rfl⟩
                    rw [hi1] at hd hd1 HQ hij hai hii
                    rw [hi1]
                    clear hB hP
                    go_upto_region 13 with fail
                    go_quiet (fail)
                    have HS := Lib.hid (HQ.out nq)
                    obtain ⟨wz, hwz⟩ : ∃ wz, wr.drewN nq = wz := ⟨_, rfl⟩
                    rw [hwz] at HS
                    rw [hwz]
                    clear hwz
                    clear HQ hd hd1
                    go_wp2
                    go_loopw [11] (fun u wv => ∃ j : Nat, a ≤ j ∧ j < b ∧ i ≤ j + 1 ∧ j ≤ j0 ∧ u = .int .i64 (j : Nat) ∧ Hid (∃ h, PartH w wv g cap n a b f v i j h ∧ (i ≤ j → v ≤ h i))) (fun u _ => (intOf u).toNat)
                    case atStart => exact ⟨j, by omega, by omega, by omega, by omega, by first | rfl | go_num, HS.out⟩
                    case round =>
                      clear HS
                      obtain ⟨j, haj, hjb, hij, hjj0, rfl, hB⟩ := hrel
                      obtain ⟨h, hP, hvi⟩ := hB.out
                      by_cases hle : i ≤ j
                      · have hd : decide ((i : Int) ≤ (j : Int)) = true := by simp; omega
                        have hd1 : decide (i ≤ j) = true := by simp; omega
                        have hjn : j < n := by omega
                        have han : a < n := by omega
                        obtain ⟨j1, hj1⟩ : ∃ j1, j = j1 + 1 := ⟨j - 1, by omega⟩
                        have hwj : IntKind.i64.wrap ((j : Int) - 1) = ((j1 : Nat) : Int) := by rw [IntWalk.i64_in _ (by omega)]; omega
                        obtain ⟨x, hx⟩ : ∃ x, h j = x := ⟨_, rfl⟩
                        have cj := hP.row.cell hjn
                        have ca := hP.row.cell han
                        rw [hx] at cj
                        rw [hP.piv] at ca
                        obtain ⟨r, hr⟩ : ∃ r, decide (x < v) = r := ⟨_, rfl⟩
                        have CLr : Hid (∀ w, Calls Tryz.prog 78 #[.int .u64 (x : Nat), .int .u64 (v : Nat)] w fun e w' => e = .returned (.bool r) ∧ w = w') := fun w => by rw [← hr]; exact lessU_fn x v w
                        have HT : Hid (r = false → ∃ h, PartH w wr.drew g cap n a b f v i j1 h ∧ (i ≤ j1 → v ≤ h i)) := fun hr2 => ⟨h, hP.drew.less hj1 (by rw [hx]; rw [hr2] at hr; simpa using hr), fun h => hvi (by omega)⟩
                        have HE : Hid (r = true → (∃ h, PartH w wr.drew g cap n a b f v i j h ∧ v ≤ h i ∧ h j < v) ∧ i < j) := fun hr2 => by
                          have h1 := hvi hle
                          have h2 : h j < v := by rw [hx]; rw [hr2] at hr; simpa using hr
                          refine ⟨⟨h, hP.drew, h1, h2⟩, ?_⟩
                          rcases Nat.lt_or_ge i j with h3 | h3
                          · exact h3
                          · have : i = j := by omega
                            rw [this] at h1; omega
                        have hjj : j1 < j := by omega
                        have haj1 : a ≤ j1 := by omega
                        have hij1 : i ≤ j1 + 1 := by omega
                        have hjb1 : j1 < b := by omega
                        clear hB hP hx hr hvi hj1 hle
                        go_upto_region 15 with fail
                        go_region_held3 (fun w' => w'.cell? ⟨g, j, none⟩ = some (.int .u64 (x : Nat)) ∧ w'.cell? ⟨g, a, none⟩ = some (.int .u64 (v : Nat))) (go_keep)
                          (first | (go_at_call 78; ((with_reducible refine (CLr.out _).mono ?_); rintro e w5 ⟨rfl, rfl⟩)))
                        cases r
                        · go_wp2
                          all_goals
                            go_roundw
                            all_goals first | exact ⟨j1, haj1, hjb1, hij1, by omega, by go_num, HT.out rfl⟩ | exact ⟨j1, haj1, hjb1, hij1, by omega, by go_num, HT.out trivial⟩ | exact ⟨j1, haj1, hjb1, hij1, by omega, rfl, HT.out trivial⟩ | exact ⟨j1, haj1, hjb1, hij1, by omega, rfl, HT.out rfl⟩ | (simp [intOf]; omega)
                        · simp only [Bool.not_true]
                          have hlt : i < j := (HE.out rfl).2
                          have HS : Hid (∃ h, PartH w wr.drew g cap n a b f v i j h ∧ v ≤ h i ∧ h j < v) := (HE.out rfl).1
                          obtain ⟨wz, hwz⟩ : ∃ wz, wr.drew = wz := ⟨_, rfl⟩
                          rw [hwz] at HS
                          rw [hwz]
                          clear hwz HT HE CLr cj ca hd hd1 hwj hjj haj1 hij1 hjb1
                          have hgt : decide ((j : Int) < (i : Int)) = false := by simp; omega
                          have hgt1 : decide (j < i) = false := by simp; omega
                          obtain ⟨h, hP, hvi2, hvj2⟩ := HS.out
                          have hin : i < n := by omega
                          have hjn : j < n := by omega
                          obtain ⟨j1, hj1⟩ : ∃ j1, j = j1 + 1 := ⟨j - 1, by omega⟩
                          have hwj : IntKind.i64.wrap ((j : Int) - 1) = ((j1 : Nat) : Int) := by rw [IntWalk.i64_in _ (by omega)]; omega
                          have hwi : IntKind.i64.wrap ((i : Int) + 1) = ((i + 1 : Nat) : Int) := by rw [IntWalk.i64_in _ (by omega)]; omega
                          obtain ⟨X, hX⟩ : ∃ X, h i = X := ⟨_, rfl⟩
                          obtain ⟨Y, hY⟩ : ∃ Y, h j = Y := ⟨_, rfl⟩
                          obtain ⟨ci, cj, fi, fj, hF2, ht2⟩ := hP.row.swp_at hin hjn X Y hX hY
                          have HS2 : Hid (PartS w ((wz.drew.setCell ⟨g, i, none⟩ (.int .u64 (Y : Nat))).setCell ⟨g, j, none⟩ (.int .u64 (X : Nat))) g cap n a b f v (i + 1) j1) := HLv.out i j j1 h _ _ hai hlt hjb hj1 hP hvi2 hvj2 hF2 (hP.turn.trans ht2)
                          have hj1a : a ≤ j1 := by omega
                          have hj1b : j1 < b := by omega
                          have hij2 : i + 1 ≤ j1 + 1 := by omega
                          have hm1 : j1 < j := by omega
                          clear HS hP hX hY hF2 ht2 hj1 hvi2 hvj2
                          go_upto_region 18 with fail
                          all_goals
                            go_region
                            all_goals go_wp2
                            all_goals
                              go_roundw
                              case rel => exact ⟨i + 1, j1, by omega, hij2, hj1a, hj1b, by go_num, rfl, HS2.out⟩
                              case measure => simp [intOf]; omega
                      · have hd : decide ((i : Int) ≤ (j : Int)) = false := by simp; omega
                        have hd1 : decide (i ≤ j) = false := by simp; omega
                        have HQ : Hid (∀ m, ∃ h, PartH w (wr.drewN m) g cap n a b f v i j h ∧ (i ≤ j → i < j)) := fun m => ⟨h, hP.drewN m, fun h => by omega⟩
                        have hij1 : i ≤ j + 1 ∧ j + 1 ≤ i := by omega
                        clear hB hP hvi hle
                        go_upto_region 15 with fail
                        go_quiet (fail)
                        have HS : Hid (PartS w (wr.drewN nq) g cap n a b f v i j) := by
                          obtain ⟨h, h1, _⟩ := HQ.out nq
                          exact ⟨h, h1⟩
                        obtain ⟨wz, hwz⟩ : ∃ wz, wr.drewN nq = wz := ⟨_, rfl⟩
                        rw [hwz] at HS
                        rw [hwz]
                        clear hwz
                        clear HQ hd hd1
                        have hgt : decide ((j : Int) < (i : Int)) = true := by simp; omega
                        have hgt1 : decide (j < i) = true := by simp; omega
                        obtain ⟨h, hP⟩ := HS.out
                        have haj2 := hP.apart HLo.out haj (by omega)
                        have hjn : j < n := by omega
                        have han : a < n := by omega
                        obtain ⟨X, hX⟩ : ∃ X, h j = X := ⟨_, rfl⟩
                        obtain ⟨Y, hY⟩ : ∃ Y, h a = Y := ⟨_, rfl⟩
                        obtain ⟨cj, ca, fj, fa, hF2, ht2⟩ := hP.row.swp_at hjn han X Y hX hY
                        have HR : Hid (partPost w g cap n a b f v j ((wz.drew.setCell ⟨g, j, none⟩ (.int .u64 (Y : Nat))).setCell ⟨g, a, none⟩ (.int .u64 (X : Nat)))) := hP.fin haj2 hjb (by omega) hF2 (hP.turn.trans ht2)
                        clear HS hP hX hY hF2 ht2
                        go_upto_region 21 with fail
                        go_region
                        all_goals go_wp2
                        go_ret2
                        exact ⟨j, false, rfl, HR.out⟩
        · have hd : decide ((i : Int) ≤ (j : Int)) = false := by simp; omega
          have hd1 : decide (i ≤ j) = false := by simp; omega
          have HQ : Hid (∀ m, ∃ h, PartH w (wr.drewN m) g cap n a b f v i j h ∧ (i ≤ j → i < j)) := fun m => ⟨h, hP.drewN m, fun h => by omega⟩
          have hij1 : i ≤ j + 1 ∧ j + 1 ≤ i := by omega
          clear hB hP hvi hle
          go_upto_region 5 with fail
          go_quiet (fail)
          have HS : Hid (PartS w (wr.drewN nq) g cap n a b f v i j) := by
            obtain ⟨h, h1, _⟩ := HQ.out nq
            exact ⟨h, h1⟩
          obtain ⟨wz, hwz⟩ : ∃ wz, wr.drewN nq = wz := ⟨_, rfl⟩
          rw [hwz] at HS
          rw [hwz]
          clear hwz
          clear HQ hd hd1
          have hgt : decide ((j : Int) < (i : Int)) = true := by simp; omega
          have hgt1 : decide (j < i) = true := by simp; omega
          obtain ⟨h, hP⟩ := HS.out
          have haj2 := hP.apart HLo.out haj (by omega)
          have hjn : j < n := by omega
          have han : a < n := by omega
          obtain ⟨X, hX⟩ : ∃ X, h j = X := ⟨_, rfl⟩
          obtain ⟨Y, hY⟩ : ∃ Y, h a = Y := ⟨_, rfl⟩
          obtain ⟨cj, ca, fj, fa, hF2, ht2⟩ := hP.row.swp_at hjn han X Y hX hY
          have HR : Hid (partPost w g cap n a b f v j ((wz.drew.setCell ⟨g, j, none⟩ (.int .u64 (Y : Nat))).setCell ⟨g, a, none⟩ (.int .u64 (X : Nat)))) := hP.fin haj2 hjb (by omega) hF2 (hP.turn.trans ht2)
          clear HS hP hX hY hF2 ht2
          go_upto_region 8 with fail
          go_region
          all_goals go_wp2
          go_ret2
          exact ⟨j, true, rfl, HR.out⟩
end Go.Proofs.YtmpbhoijkcanmaaGreat.R
