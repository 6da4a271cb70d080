/- Maps of pages, and versions of them: lemmas, part 17 of 23. -/
import Derived.Deep.QuietTactic
import Derived.StillTailTactics
import Derived.Deep.RegionHeld3
import Derived.BigGuard
import Derived.BigCall
import Derived.BigRegion
import Derived.Deep.Draws
import Derived.Test.YtmpbhoijkcanmaaGreatQ16

/- Sorting numbers: a row of numbers, what swaps make of it; insertion. -/
namespace Go.Proofs.YtmpbhoijkcanmaaGreat.R
open Go.ChangeShapes Go.WideShapes Go.ChangeAt Go.RowKit Go.Maps Go.Proofs.YtmpbhoijkcanmaaGreat.G Go.Joins
set_option linter.unusedVariables false
set_option linter.unusedSimpArgs false
set_option linter.unnecessarySimpa false

variable {w w' : World} {g cap n a b i j : Nat} {f h k : Nat → Nat}
/-- a row of numbers, by its block -/
def FU (w : World) (g cap n : Nat) (f : Nat → Nat) : Prop := ∃ cur : Array Value, w.heap[g]? = some (.cells cur 23 (0, 0)) ∧ cur.size = cap ∧ n ≤ cap ∧ ∀ i, i < n → cur[i]? = some (.int .u64 ((f i : Nat) : Int))
def swp (f : Nat → Nat) (i j : Nat) (k : Nat) : Nat := if k = i then f j else if k = j then f i else f k
theorem FU.cell (h : FU w g cap n f) (hi : i < n) : w.cell? ⟨g, i, none⟩ = some (.int .u64 ((f i : Nat) : Int)) := by
  obtain ⟨cur, h1, h2, h3, h4⟩ := h
  simp [World.cell?, h1, h4 i hi]
theorem FU.frozen (h : FU w g cap n f) (i : Nat) : w.frozen? ⟨g, i, none⟩ = false := by
  obtain ⟨cur, h1, _⟩ := h
  simp [World.frozen?, h1]
theorem FU.lt (h : FU w g cap n f) : g < w.heap.size := by
  obtain ⟨cur, h1, _⟩ := h
  exact lt_of_at h1
theorem FU.turned (h : FU w g cap n f) {S : List Nat} (t : Turned S w w') (hn : g ∉ S) : FU w' g cap n f := by
  obtain ⟨cur, h1, h2⟩ := h
  exact ⟨cur, t.at h1 hn, h2⟩
theorem FU.drewN (h : FU w g cap n f) (m : Nat) : FU (w.drewN m) g cap n f := h.turned ((Turned.refl [] w).drewN m) (by simp)
theorem FU.swap (h : FU w g cap n f) (hi : i < n) (hj : j < n) : FU ((w.setCell ⟨g, i, none⟩ (.int .u64 ((f j : Nat) : Int))).setCell ⟨g, j, none⟩ (.int .u64 ((f i : Nat) : Int))) g cap n (swp f i j) := by
  obtain ⟨cur, h1, h2, h3, h4⟩ := h
  refine ⟨_, block_setCell (block_setCell h1 _) _, by simp [h2], h3, fun x hx => ?_⟩
  have h5 := h4 x hx
  simp only [Array.getElem?_setIfInBounds, Array.size_setIfInBounds]
  unfold swp
  by_cases e1 : j = x
  · subst e1
    rw [if_pos rfl, if_pos (by omega)]
    by_cases e2 : j = i
    · rw [if_pos e2, e2]
    · rw [if_neg e2, if_pos rfl]
  · rw [if_neg e1]
    by_cases e2 : i = x
    · subst e2
      rw [if_pos rfl, if_pos (by omega), if_pos rfl]
    · rw [if_neg e2, if_neg (fun e => e2 e.symm), if_neg (fun e => e1 e.symm)]
      exact h5
theorem swap_turned (w : World) (g i j : Nat) (x y : Value) : Turned [g] w ((w.setCell ⟨g, i, none⟩ x).setCell ⟨g, j, none⟩ y) :=
  ((Turned.refl [g] w).setCell (.inl (by simp)) _).setCell (.inl (by simp)) _
/-- the same numbers, in a part of the row in another order -/
def Sim (a b : Nat) (f h : Nat → Nat) : Prop := ∃ σ τ : Nat → Nat, (∀ k, h k = f (σ k)) ∧ (∀ k, σ (τ k) = k) ∧ (∀ k, τ (σ k) = k) ∧ (∀ k, a ≤ k ∧ k < b → a ≤ σ k ∧ σ k < b) ∧ ∀ k, ¬ (a ≤ k ∧ k < b) → σ k = k
theorem Sim.refl (a b : Nat) (f : Nat → Nat) : Sim a b f f := ⟨id, id, fun _ => rfl, fun _ => rfl, fun _ => rfl, fun _ h => h, fun _ _ => rfl⟩
theorem Sim.trans (h1 : Sim a b f h) (h2 : Sim a b h k) : Sim a b f k := by
  obtain ⟨σ, σ', a1, a2, a2', a3, a4⟩ := h1
  obtain ⟨τ, τ', b1, b2, b2', b3, b4⟩ := h2
  exact ⟨fun x => σ (τ x), fun x => τ' (σ' x), fun x => (b1 x).trans (a1 _), fun x => by show σ (τ (τ' (σ' x))) = x; rw [b2, a2], fun x => by show τ' (σ' (σ (τ x))) = x; rw [a2', b2'], fun x hx => a3 _ (b3 x hx), fun x hx => by show σ (τ x) = x; rw [b4 x hx, a4 x hx]⟩
theorem Sim.symm (h1 : Sim a b f h) : Sim a b h f := by
  obtain ⟨σ, σ', a1, a2, a2', a3, a4⟩ := h1
  have key : ∀ x, ¬ (a ≤ x ∧ x < b) → σ' x = x := fun x hx => by
    have := a2' x
    rw [a4 x hx] at this; exact this
  refine ⟨σ', σ, fun x => by rw [a1, a2], a2', a2, fun x hx => ?_, key⟩
  by_cases e : a ≤ σ' x ∧ σ' x < b
  · exact e
  · have := a4 _ e
    rw [a2] at this
    rw [← this]; exact hx
theorem Sim.mono {a' b' : Nat} (h1 : Sim a b f h) (ha : a' ≤ a) (hb : b ≤ b') : Sim a' b' f h := by
  obtain ⟨σ, σ', a1, a2, a2', a3, a4⟩ := h1
  refine ⟨σ, σ', a1, a2, a2', fun x hx => ?_, fun x hx => a4 x (by omega)⟩
  by_cases e : a ≤ x ∧ x < b
  · have := a3 x e; omega
  · rw [a4 x e]; exact hx
theorem Sim.swap (hi : a ≤ i ∧ i < b) (hj : a ≤ j ∧ j < b) : Sim a b f (swp f i j) := by
  have inv : ∀ k, (fun k => if k = i then j else if k = j then i else k) ((fun k => if k = i then j else if k = j then i else k) k) = k := fun k => by
    simp only
    by_cases e1 : k = i
    · rw [if_pos e1]
      by_cases e2 : j = i
      · rw [if_pos e2, e1, e2]
      · rw [if_neg e2, if_pos rfl, e1]
    · rw [if_neg e1]
      by_cases e2 : k = j
      · rw [if_pos e2, if_pos rfl, e2]
      · rw [if_neg e2, if_neg e1, if_neg e2]
  refine ⟨fun k => if k = i then j else if k = j then i else k, fun k => if k = i then j else if k = j then i else k, fun k => ?_, inv, inv, fun x hx => ?_, fun x hx => ?_⟩
  · unfold swp
    simp only
    split
    · rfl
    · split <;> rfl
  · simp only
    split
    · exact hj
    · split
      · exact hi
      · exact hx
  · simp only
    rw [if_neg (by omega), if_neg (by omega)]
theorem Sim.inn (h1 : Sim a b f h) {P : Nat → Prop} (hp : ∀ x, a ≤ x → x < b → P (f x)) : ∀ x, a ≤ x → x < b → P (h x) := fun x hx1 hx2 => by
  obtain ⟨σ, σ', a1, a2, a2', a3, a4⟩ := h1
  rw [a1]
  have := a3 x ⟨hx1, hx2⟩
  exact hp _ this.1 this.2
theorem Sim.some (h1 : Sim a b f h) {P : Nat → Prop} (hp : ∃ x, a ≤ x ∧ x < b ∧ P (f x)) : ∃ x, a ≤ x ∧ x < b ∧ P (h x) := by
  obtain ⟨x, hx1, hx2, hx⟩ := hp
  obtain ⟨σ, σ', a1, a2, a2', a3, a4⟩ := h1.symm
  have := a3 x ⟨hx1, hx2⟩
  exact ⟨σ x, this.1, this.2, by rw [← a1]; exact hx⟩
theorem Sim.out (h1 : Sim a b f h) {x : Nat} (hx : ¬ (a ≤ x ∧ x < b)) : h x = f x := by
  obtain ⟨σ, σ', a1, a2, a2', a3, a4⟩ := h1
  rw [a1, a4 x hx]
theorem Sim.inj (h1 : Sim a b f h) {m : Nat} (hb : b ≤ m) (hf : ∀ x y, x < m → y < m → f x = f y → x = y) : ∀ x y, x < m → y < m → h x = h y → x = y := fun x y hx hy e => by
  obtain ⟨σ, σ', a1, a2, a2', a3, a4⟩ := h1
  rw [a1, a1] at e
  have key : ∀ z, z < m → σ z < m := fun z hz => by
    by_cases e : a ≤ z ∧ z < b
    · have := a3 z e; omega
    · rw [a4 z e]; exact hz
  have := hf _ _ (key x hx) (key y hy) e
  rw [← a2' x, this, a2']
def SortedOn (a b : Nat) (f : Nat → Nat) : Prop := ∀ x y, a ≤ x → x < y → y < b → f x ≤ f y
set_option maxRecDepth 100000 in
theorem nanU_fn (x : Nat) (w : World) : Calls Tryz.prog 94 #[.int .u64 (x : Nat)] w fun e w' => e = .returned (.bool false) ∧ w = w' := by
  go_enter Tryz.func94, Tryz.ntmps94
  go_wp2
  go_ret
  exact ⟨rfl, rfl⟩
set_option maxRecDepth 100000 in
theorem lessU_fn (x y : Nat) (w : World) : Calls Tryz.prog 78 #[.int .u64 (x : Nat), .int .u64 (y : Nat)] w fun e w' => e = .returned (.bool (decide (x < y))) ∧ w = w' := by
  have C := Lib.hid nanU_fn
  obtain ⟨r, hr⟩ : ∃ r, decide (x < y) = r := ⟨_, rfl⟩
  have hr2 : decide ((x : Int) < (y : Int)) = r := by rw [← hr]; simp
  rw [hr]
  go_enter Tryz.func78, Tryz.ntmps78
  go_wp2_with (go_at_call 94; ((with_reducible refine (C.out _ _).mono ?_); rintro e w1 ⟨rfl, rfl⟩))
  go_ret
  exact ⟨rfl, rfl⟩
end Go.Proofs.YtmpbhoijkcanmaaGreat.R

/- Sorting numbers: insertion. -/
namespace Go.Proofs.YtmpbhoijkcanmaaGreat.R
open Go.ChangeShapes Go.WideShapes Go.ChangeAt Go.RowKit Go.Maps Go.Proofs.YtmpbhoijkcanmaaGreat.G Go.Joins
set_option linter.unusedVariables false
set_option linter.unusedSimpArgs false
set_option linter.unnecessarySimpa false

variable {w w' : World} {g cap n a b i j q : Nat} {f h k : Nat → Nat}
structure InsP (a i j : Nat) (h : Nat → Nat) : Prop where
  le : ∀ x y, a ≤ x → x < y → y ≤ i → x ≠ j → y ≠ j → h x ≤ h y
  gt : ∀ y, j < y → y ≤ i → h j ≤ h y
theorem InsP.start (hs : SortedOn a i h) : InsP a i i h := ⟨fun x y h1 h2 h3 _ h5 => hs x y h1 h2 (by omega), fun y h1 h2 => by omega⟩
theorem InsP.done (p : InsP a i j h) (ha : a ≤ j) (hj : j ≤ i) (he : j = a ∨ ∃ q, j = q + 1 ∧ h q ≤ h j) : SortedOn a (i + 1) h := fun x y h1 h2 h3 => by
  by_cases e1 : x = j
  · subst e1; exact p.gt y h2 (by omega)
  · by_cases e2 : y = j
    · subst e2
      rcases he with he | ⟨q, hq, hle⟩
      · omega
      · by_cases e3 : x = q
        · subst e3; exact hle
        · exact Nat.le_trans (p.le x q h1 (by omega) (by omega) e1 (by omega)) hle
    · exact p.le x y h1 h2 (by omega) e1 e2
theorem InsP.step (p : InsP a i (q + 1) h) (hq : a ≤ q) (hi : q + 1 ≤ i) (hlt : h (q + 1) < h q) : InsP a i q (swp h (q + 1) q) := by
  have e1 : swp h (q + 1) q (q + 1) = h q := if_pos rfl
  have e2 : swp h (q + 1) q q = h (q + 1) := by unfold swp; rw [if_neg (by omega), if_pos rfl]
  have e3 : ∀ x, x ≠ q → x ≠ q + 1 → swp h (q + 1) q x = h x := fun x h1 h2 => by unfold swp; rw [if_neg h2, if_neg h1]
  refine ⟨fun x y h1 h2 h3 h4 h5 => ?_, fun y h1 h2 => ?_⟩
  · by_cases x1 : x = q + 1
    · rw [x1, e1, e3 y h5 (by omega)]
      exact p.le q y hq (by omega) h3 (by omega) (by omega)
    · by_cases y1 : y = q + 1
      · rw [y1, e1, e3 x h4 x1]
        exact p.le x q h1 (by omega) (by omega) (by omega) (by omega)
      · rw [e3 x h4 x1, e3 y h5 y1]
        exact p.le x y h1 h2 h3 x1 y1
  · rw [e2]
    by_cases y1 : y = q + 1
    · rw [y1, e1]; omega
    · rw [e3 y (by omega) y1]
      exact p.gt y (by omega) h2
/-- what a call that sorts a part leaves -/
def srtU (w : World) (g cap n a b : Nat) (f : Nat → Nat) (w' : World) : Prop := ∃ h, FU w' g cap n h ∧ Turned [g] w w' ∧ Sim a b f h ∧ SortedOn a b h
set_option maxRecDepth 100000 in
set_option maxHeartbeats 2000000 in
theorem insU_fn (hF : FU w g cap n f) (hb : b ≤ n) (hn : n ≤ 1048576) (hab : a ≤ b) : Calls Tryz.prog 72 #[.slice (some ⟨g, 0, none⟩) n cap, .int .i64 (a : Nat), .int .i64 (b : Nat)] w fun e w' => e = .returned (.tuple #[]) ∧ srtU w g cap n a b f w' := by
  have CL := Lib.hid lessU_fn
  have HF := Lib.hid hF
  have hwa : IntKind.i64.wrap ((a : Int) + 1) = ((a + 1 : Nat) : Int) := by rw [IntWalk.i64_in _ (by omega)]; omega
  clear hF
  go_enter Tryz.func72, Tryz.ntmps72
  go_wp2
  go_loopw [6] (fun v wr => ∃ i : Nat, a + 1 ≤ i ∧ i ≤ b + 1 ∧ v = .int .i64 ((i : Nat) : Int) ∧ Hid (∃ h, FU wr g cap n h ∧ Turned [g] w wr ∧ Sim a b f h ∧ SortedOn a i h)) (fun v _ => b + 1 - (intOf v).toNat)
  case atStart => exact ⟨a + 1, Nat.le_refl _, by omega, rfl, f, HF.out, Turned.refl _ _, Sim.refl _ _ _, fun x y h1 h2 h3 => by omega⟩
  case round =>
    obtain ⟨i, hai, hib, rfl, hB⟩ := hrel
    by_cases hlt : i < b
    · have hd : decide ((i : Int) < (b : Int)) = true := by simp; omega
      have hd1 : decide (i < b) = true := by simp; omega
      have HS : Hid (∃ h, FU wr g cap n h ∧ Turned [g] w wr ∧ Sim a b f h ∧ InsP a i i h) := by
        obtain ⟨h, h1, h2, h3, h4⟩ := hB.out
        exact ⟨h, h1, h2, h3, InsP.start h4⟩
      clear hB
      go_wp2
      go_loopw [7] (fun v wr => ∃ j : Nat, a ≤ j ∧ j ≤ i ∧ v = .int .i64 ((j : Nat) : Int) ∧ Hid (∃ h, FU wr g cap n h ∧ Turned [g] w wr ∧ Sim a b f h ∧ InsP a i j h)) (fun v _ => (intOf v).toNat)
      case atStart => exact ⟨i, by omega, Nat.le_refl _, rfl, HS.out⟩
      case round =>
        obtain ⟨j, haj, hji, rfl, hB⟩ := hrel
        clear HS
        obtain ⟨h, hF, ht, hs, hp⟩ := hB.out
        by_cases hja : j = a
        · have hd2 : decide ((a : Int) < (j : Int)) = false := by simp; omega
          have hd3 : decide (a < j) = false := by simp; omega
          have HE : Hid (∀ m, FU (wr.drewN m) g cap n h ∧ Turned [g] w (wr.drewN m) ∧ Sim a b f h ∧ SortedOn a (i + 1) h) := fun m => ⟨hF.drewN m, ht.drewN m, hs, hp.done haj hji (.inl hja)⟩
          clear hB hF ht hs hp hja
          go_upto_region 4 with fail
          go_quiet (fail)
          go_wp2
          go_roundw
          all_goals first | exact ⟨i + 1, by omega, by omega, by go_num, _, HE.out _⟩ | (simp [intOf]; omega)
        · obtain ⟨q, hjq⟩ : ∃ q, j = q + 1 := ⟨j - 1, by omega⟩
          have hd2 : decide ((a : Int) < (j : Int)) = true := by simp; omega
          have hd3 : decide (a < j) = true := by simp; omega
          have hwj : IntKind.i64.wrap ((j : Int) - 1) = ((q : Nat) : Int) := by rw [IntWalk.i64_in _ (by omega)]; omega
          have hjn : j < n := by omega
          have hqn : q < n := by omega
          obtain ⟨x, hx⟩ : ∃ x, h j = x := ⟨_, rfl⟩
          obtain ⟨y, hy⟩ : ∃ y, h q = y := ⟨_, rfl⟩
          have cj := hF.cell hjn
          have cq := hF.cell hqn
          rw [hx] at cj
          rw [hy] at cq
          obtain ⟨r, hr⟩ : ∃ r, decide (x < y) = r := ⟨_, rfl⟩
          have CLr : Hid (∀ w, Calls Tryz.prog 78 #[.int .u64 (x : Nat), .int .u64 (y : Nat)] w fun e w' => e = .returned (.bool r) ∧ w = w') := fun w => by rw [← hr]; exact CL.out x y w
          have hFd : FU wr.drew g cap n h := hF.turned ((Turned.refl [] wr).drew) (by simp)
          have HE : Hid (r = false → FU wr.drew g cap n h ∧ Turned [g] w wr.drew ∧ Sim a b f h ∧ SortedOn a (i + 1) h) := fun hr2 => ⟨hFd, ht.drew, hs, hp.done haj hji (.inr ⟨q, hjq, by rw [hx, hy]; rw [hr2] at hr; simpa using hr⟩)⟩
          have HSw : Hid (r = true → ∀ wv : World, FU wv g cap n h → Turned [g] wr wv → FU ((wv.setCell ⟨g, j, none⟩ (.int .u64 (y : Nat))).setCell ⟨g, q, none⟩ (.int .u64 (x : Nat))) g cap n (swp h j q) ∧ Turned [g] w ((wv.setCell ⟨g, j, none⟩ (.int .u64 (y : Nat))).setCell ⟨g, q, none⟩ (.int .u64 (x : Nat))) ∧ Sim a b f (swp h j q) ∧ InsP a i q (swp h j q)) := fun hr2 wv h1 h2 => by
            have h3 := h1.swap hjn hqn
            rw [hx, hy] at h3
            refine ⟨h3, (ht.trans h2).trans (swap_turned _ _ _ _ _ _), hs.trans (Sim.swap (by omega) (by omega)), ?_⟩
            subst hjq
            exact hp.step (by omega) (by omega) (by rw [hx, hy]; rw [hr2] at hr; simpa using hr)
          have HFm : Hid (FU wr.drew g cap n h ∧ Turned [g] wr wr.drew) := ⟨hFd, (Turned.refl _ _).drew⟩
          have HC : Hid (∀ wv, FU wv g cap n h → wv.cell? ⟨g, j, none⟩ = some (.int .u64 (x : Nat)) ∧ wv.cell? ⟨g, q, none⟩ = some (.int .u64 (y : Nat)) ∧ ∀ c, wv.frozen? ⟨g, c, none⟩ = false) := fun wv hw => by
            have k1 := hw.cell hjn
            have k2 := hw.cell hqn
            rw [hx] at k1
            rw [hy] at k2
            exact ⟨k1, k2, hw.frozen⟩
          have hqa : a ≤ q := by omega
          have hqi : q ≤ i := by omega
          have hqj : q < j := by omega
          clear hB hF hFd ht hs hp hja hjq hx hy hr
          go_upto_region 4 with fail
          go_region_held3 (fun w' => w'.cell? ⟨g, j, none⟩ = some (.int .u64 (x : Nat)) ∧ w'.cell? ⟨g, q, none⟩ = some (.int .u64 (y : Nat))) (go_keep)
            (first | (go_at_call 78; ((with_reducible refine (CLr.out _).mono ?_); rintro e w5 ⟨rfl, rfl⟩)))
          cases r
          · go_wp2
            go_roundw
            all_goals first | exact ⟨i + 1, by omega, by omega, by go_num, _, HE.out rfl⟩ | (simp [intOf]; omega)
          · have hFm := HFm.out
            go_upto_region 6 with fail
            generalize wr.drew = wv at *
            obtain ⟨hF1, ht1⟩ := hFm
            have HS2 := Lib.hid (HSw.out rfl (wv.drew) (hF1.turned ((Turned.refl [] wv).drew) (by simp)) ht1.drew)
            obtain ⟨cj, cq, fz⟩ := HC.out _ hF1
            have fj := fz j
            have fq := fz q
            clear HSw HC HE CLr HFm hF1 ht1 fz
            go_region
            all_goals go_wp2
            go_roundw
            all_goals first | exact ⟨q, hqa, hqi, by go_num, _, HS2.out⟩ | (simp [intOf]; omega)
    · have HE : Hid (∃ h, FU wr g cap n h ∧ Turned [g] w wr ∧ Sim a b f h ∧ SortedOn a b h) := by
        obtain ⟨h, h1, h2, h3, h4⟩ := hB.out
        exact ⟨h, h1, h2, h3, fun x y k1 k2 k3 => h4 x y k1 k2 (by omega)⟩
      have hd : decide ((i : Int) < (b : Int)) = false := by simp; omega
      have hd1 : decide (i < b) = false := by simp; omega
      clear hB
      go_wp2
      go_end0
      exact ⟨rfl, HE.out⟩
end Go.Proofs.YtmpbhoijkcanmaaGreat.R

/- Sorting numbers: the pivot. -/
namespace Go.Proofs.YtmpbhoijkcanmaaGreat.R
open Go.ChangeShapes Go.WideShapes Go.ChangeAt Go.RowKit Go.Maps Go.Proofs.YtmpbhoijkcanmaaGreat.G Go.Joins
set_option linter.unusedVariables false
set_option linter.unusedSimpArgs false
set_option linter.unnecessarySimpa false

variable {w w' : World} {g cap n a b i j q c s : Nat} {f h k : Nat → Nat}
/-- the row, and a count in a variable -/
structure FS (w : World) (g cap n : Nat) (f : Nat → Nat) (s c : Nat) : Prop where
  row : FU w g cap n f
  cnt : w.cell? ⟨s, 0, none⟩ = some (.int .i64 (c : Nat))
  fz : w.frozen? ⟨s, 0, none⟩ = false
  ne : g ≠ s
theorem FS.drew (h : FS w g cap n f s c) : FS w.drew g cap n f s c := by
  have t := (Turned.refl [] w).drew
  exact ⟨h.row.turned t (by simp), t.cell h.cnt (by simp), (t.frozen (a := ⟨s, 0, none⟩) (lt_of_cell h.cnt) (by simp)).trans h.fz, h.ne⟩
theorem FS.put (h : FS w g cap n f s c) (d : Nat) : FS (w.setCell ⟨s, 0, none⟩ (.int .i64 (d : Nat))) g cap n f s d := by
  have t := (Turned.refl [s] w).setCell (p := ⟨s, 0, none⟩) (.inl (by simp)) (.int .i64 (d : Nat))
  have hb : ∃ cs tt fr, w.heap[s]? = some (.cells cs tt fr) := by
    have := h.cnt
    unfold World.cell? at this
    split at this
    · rename_i cs tt fr e; exact ⟨cs, tt, fr, e⟩
    · cases this
  obtain ⟨cs, tt, fr, hh⟩ := hb
  have h2 := block_setCell hh (i := 0) (.int .i64 (d : Nat))
  have h0 : 0 < cs.size := by
    have := h.cnt
    simp [World.cell?, hh] at this
    rcases Nat.lt_or_ge 0 cs.size with k | k
    · exact k
    · rw [Array.getElem?_eq_none (by omega)] at this; cases this
  refine ⟨h.row.turned t (by simpa using h.ne), ?_, ?_, h.ne⟩
  · simp [World.cell?, h2, h0]
  · have := h.fz
    simp [World.frozen?, hh] at this
    simp [World.frozen?, h2]
    exact this
/-- what is left by a call that only counts -/
def ordPost (w : World) (g cap n : Nat) (f : Nat → Nat) (s c : Nat) (w' : World) : Prop := ∃ c', FS w' g cap n f s c' ∧ Turned [s] w w' ∧ c' ≤ c + 1
set_option maxRecDepth 100000 in
theorem ord2U_fn (hF : FS w g cap n f s c) (hi : i < n) (hj : j < n) (hn : n ≤ 1048576) (hc : c ≤ 100) : Calls Tryz.prog 97 #[.slice (some ⟨g, 0, none⟩) n cap, .int .i64 (i : Nat), .int .i64 (j : Nat), .pointer (some ⟨s, 0, none⟩)] w fun e w' => ∃ x y : Nat, e = .returned (.tuple #[.int .i64 (x : Nat), .int .i64 (y : Nat)]) ∧ ((x = i ∧ y = j) ∨ (x = j ∧ y = i)) ∧ f x ≤ f y ∧ ordPost w g cap n f s c w' := by
  obtain ⟨u, hu⟩ : ∃ u, f i = u := ⟨_, rfl⟩
  obtain ⟨v, hv⟩ : ∃ v, f j = v := ⟨_, rfl⟩
  have ci := hF.row.cell hi
  have cj := hF.row.cell hj
  rw [hu] at ci
  rw [hv] at cj
  obtain ⟨r, hr⟩ : ∃ r, decide (v < u) = r := ⟨_, rfl⟩
  have CLr : Hid (∀ w, Calls Tryz.prog 78 #[.int .u64 (v : Nat), .int .u64 (u : Nat)] w fun e w' => e = .returned (.bool r) ∧ w = w') := fun w => by rw [← hr]; exact lessU_fn v u w
  have HE : Hid (r = false → ordPost w g cap n f s c w.drew ∧ f i ≤ f j) := fun hr2 => ⟨⟨c, hF.drew, (Turned.refl _ _).drew, by omega⟩, by rw [hu, hv]; rw [hr2] at hr; simpa using hr⟩
  have HT : Hid (r = true → ordPost w g cap n f s c (w.drew.setCell ⟨s, 0, none⟩ (.int .i64 ((c : Int) + 1))) ∧ f j ≤ f i) := fun hr2 => ⟨⟨c + 1, hF.drew.put (c + 1), ((Turned.refl _ _).drew).setCell (.inl (by simp)) _, by omega⟩, by rw [hu, hv]; rw [hr2] at hr; exact Nat.le_of_lt (by simpa using hr)⟩
  have hwc : IntKind.i64.wrap ((c : Int) + 1) = (c : Int) + 1 := IntWalk.i64_in _ (by omega)
  have dc := hF.drew.cnt
  have df := hF.drew.fz
  clear hF hu hv hr
  go_enter Tryz.func97, Tryz.ntmps97
  go_upto_region 1 with fail
  go_region_held3 (fun w' => w'.cell? ⟨g, i, none⟩ = some (.int .u64 (u : Nat)) ∧ w'.cell? ⟨g, j, none⟩ = some (.int .u64 (v : Nat))) (go_keep)
    (first | (go_at_call 78; ((with_reducible refine (CLr.out _).mono ?_); rintro e w5 ⟨rfl, rfl⟩)))
  cases r
  · go_wp2
    go_ret2
    exact ⟨i, j, rfl, .inl ⟨rfl, rfl⟩, (HE.out trivial).2, (HE.out trivial).1⟩
  · go_wp2
    go_ret2
    exact ⟨j, i, rfl, .inr ⟨rfl, rfl⟩, (HT.out trivial).2, (HT.out trivial).1⟩
theorem ordPost.trans {w1 w2 : World} {c1 c2 : Nat} (h1 : FS w1 g cap n f s c1) (t1 : Turned [s] w w1) (hc : c1 ≤ c2) (h2 : ordPost w1 g cap n f s c1 w2) : ∃ c', FS w2 g cap n f s c' ∧ Turned [s] w w2 ∧ c' ≤ c2 + 1 := by
  obtain ⟨c', k1, k2, k3⟩ := h2
  exact ⟨c', k1, t1.trans k2, by omega⟩
set_option maxRecDepth 100000 in
theorem medU_fn {l m o : Nat} (hF : FS w g cap n f s c) (hl : l < n) (hm : m < n) (ho : o < n) (hn : n ≤ 1048576) (hc : c ≤ 50) : Calls Tryz.prog 93 #[.slice (some ⟨g, 0, none⟩) n cap, .int .i64 (l : Nat), .int .i64 (m : Nat), .int .i64 (o : Nat), .pointer (some ⟨s, 0, none⟩)] w fun e w' => ∃ x p y : Nat, e = .returned (.int .i64 (p : Nat)) ∧ ([x, p, y]).Perm [l, m, o] ∧ f x ≤ f p ∧ f p ≤ f y ∧ ∃ c', FS w' g cap n f s c' ∧ Turned [s] w w' ∧ c' ≤ c + 3 := by
  have C1 := Lib.hid (ord2U_fn hF hl hm hn (by omega))
  have C2 : Hid (∀ w1 c1 x, FS w1 g cap n f s c1 → c1 ≤ c + 2 → (x = l ∨ x = m) → Calls Tryz.prog 97 #[.slice (some ⟨g, 0, none⟩) n cap, .int .i64 (x : Nat), .int .i64 (o : Nat), .pointer (some ⟨s, 0, none⟩)] w1 fun e w' => ∃ x' y : Nat, e = .returned (.tuple #[.int .i64 (x' : Nat), .int .i64 (y : Nat)]) ∧ ((x' = x ∧ y = o) ∨ (x' = o ∧ y = x)) ∧ f x' ≤ f y ∧ ordPost w1 g cap n f s c1 w') := fun w1 c1 x h1 h2 h3 => ord2U_fn h1 (by omega) ho hn (by omega)
  have C3 : Hid (∀ w1 c1 x y, FS w1 g cap n f s c1 → c1 ≤ c + 2 → x < n → y < n → Calls Tryz.prog 97 #[.slice (some ⟨g, 0, none⟩) n cap, .int .i64 (x : Nat), .int .i64 (y : Nat), .pointer (some ⟨s, 0, none⟩)] w1 fun e w' => ∃ x' y' : Nat, e = .returned (.tuple #[.int .i64 (x' : Nat), .int .i64 (y' : Nat)]) ∧ ((x' = x ∧ y' = y) ∨ (x' = y ∧ y' = x)) ∧ f x' ≤ f y' ∧ ordPost w1 g cap n f s c1 w') := fun w1 c1 x y h1 h2 h3 h4 => ord2U_fn h1 h3 h4 hn (by omega)
  clear hF
  go_enter Tryz.func93, Tryz.ntmps93
  go_wp2_with (first
    | (go_at_call 97; ((with_reducible refine C1.out.mono ?_); rintro e w1 ⟨a1, b1, rfl, h1, h1', h1''⟩; have S1 := Lib.hid (And.intro h1 (And.intro h1' h1'')); clear h1 h1' h1'' C1))
    | (go_at_call 97; (obtain ⟨q1, hq1, hq1', hq1''⟩ := S1.out.2.2; have K1 := Lib.hid (And.intro hq1 (And.intro hq1' hq1'')); clear hq1 hq1' hq1''; have hb1 : b1 = l ∨ b1 = m := (by have := S1.out.1; omega); (with_reducible refine (C2.out _ q1 b1 K1.out.1 (by have := K1.out.2.2; omega) hb1).mono ?_); rintro e w2 ⟨b2, c2, rfl, h2, h2', h2''⟩; have S2 := Lib.hid (And.intro h2 (And.intro h2' (ordPost.trans K1.out.1 K1.out.2.1 K1.out.2.2 h2''))); clear h2 h2' h2'' C2))
    | (go_at_call 97; (obtain ⟨q2, hq2, hq2', hq2''⟩ := S2.out.2.2; have K2 := Lib.hid (And.intro hq2 (And.intro hq2' hq2'')); clear hq2 hq2' hq2''; have hxn : a1 < n := (by have := S1.out.1; omega); have hyn : b2 < n := (by have := S2.out.1; have := S1.out.1; omega); (with_reducible refine (C3.out _ q2 a1 b2 K2.out.1 (by have := K2.out.2.2; omega) hxn hyn).mono ?_); rintro e w3 ⟨a3, b3, rfl, h3, h3', h3''⟩; have S3 := Lib.hid (And.intro h3 (And.intro h3' (ordPost.trans K2.out.1 K2.out.2.1 K2.out.2.2 h3''))); clear h3 h3' h3'' C3)))
  go_ret
  obtain ⟨h1, h1', -⟩ := S1.out
  obtain ⟨h2, h2', -⟩ := S2.out
  obtain ⟨h3, h3', c', k1, k2, k3⟩ := S3.out
  refine ⟨a3, b3, c2, rfl, ?_, h3', ?_, c', k1, k2, by omega⟩
  · rcases h1 with ⟨rfl, rfl⟩ | ⟨rfl, rfl⟩ <;> rcases h2 with ⟨rfl, rfl⟩ | ⟨rfl, rfl⟩ <;> rcases h3 with ⟨rfl, rfl⟩ | ⟨rfl, rfl⟩ <;>
      (refine List.perm_iff_count.2 fun z => ?_; simp only [List.count_cons, List.count_nil] <;> omega)
  · rcases h1 with ⟨rfl, rfl⟩ | ⟨rfl, rfl⟩ <;> rcases h2 with ⟨rfl, rfl⟩ | ⟨rfl, rfl⟩ <;> rcases h3 with ⟨rfl, rfl⟩ | ⟨rfl, rfl⟩ <;> omega
/-- a pivot: something is less, something is greater -/
structure PivU (a b n : Nat) (f : Nat → Nat) (p : Nat) : Prop where
  inn : a < p ∧ p + 1 < b
  lo : ∃ x, a ≤ x ∧ x < b ∧ f x < f p
  hi : ∃ x, a ≤ x ∧ x < b ∧ f p < f x
set_option maxRecDepth 100000 in
set_option maxHeartbeats 2000000 in
theorem pivotU_fn (hF : FU w g cap n f) (hb : b ≤ n) (hn : n < 50) (hab : a + 12 < b) (hinj : ∀ x y, x < n → y < n → f x = f y → x = y) : Calls Tryz.prog 75 #[.slice (some ⟨g, 0, none⟩) n cap, .int .i64 (a : Nat), .int .i64 (b : Nat)] w fun e w' => ∃ p hint : Nat, e = .returned (.tuple #[.int .i64 (p : Nat), .int .i64 (hint : Nat)]) ∧ hint < 3 ∧ PivU a b n f p ∧ FU w' g cap n f ∧ Below w.heap.size w w' := by
  obtain ⟨d, hd⟩ : ∃ d, b - a = d := ⟨_, rfl⟩
  obtain ⟨u, hu⟩ : ∃ u, d / 4 = u := ⟨_, rfl⟩
  have hd1 : IntKind.i64.wrap ((b : Int) - (a : Int)) = ((d : Nat) : Int) := by rw [IntWalk.i64_in _ (by omega)]; omega
  have hu1 : ((d : Nat) : Int).tdiv 4 = ((u : Nat) : Int) := by rw [Int.tdiv_eq_ediv_of_nonneg (by omega)]; omega
  have hu2 : IntKind.i64.wrap ((u : Nat) : Int) = ((u : Nat) : Int) := IntWalk.i64_in _ (by omega)
  have hm1 : IntKind.i64.wrap (((u : Nat) : Int) * 2) = ((u * 2 : Nat) : Int) := by rw [IntWalk.i64_in _ (by omega)]; omega
  have hm2 : IntKind.i64.wrap (((u : Nat) : Int) * 3) = ((u * 3 : Nat) : Int) := by rw [IntWalk.i64_in _ (by omega)]; omega
  have ha1 : IntKind.i64.wrap ((a : Int) + ((u : Nat) : Int)) = ((a + u : Nat) : Int) := by rw [IntWalk.i64_in _ (by omega)]; omega
  have ha2 : IntKind.i64.wrap ((a : Int) + ((u * 2 : Nat) : Int)) = ((a + u * 2 : Nat) : Int) := by rw [IntWalk.i64_in _ (by omega)]; omega
  have ha3 : IntKind.i64.wrap ((a : Int) + ((u * 3 : Nat) : Int)) = ((a + u * 3 : Nat) : Int) := by rw [IntWalk.i64_in _ (by omega)]; omega
  obtain ⟨p1, hp1⟩ : ∃ p1, a + u = p1 := ⟨_, rfl⟩
  obtain ⟨p2, hp2⟩ : ∃ p2, a + u * 2 = p2 := ⟨_, rfl⟩
  obtain ⟨p3, hp3⟩ : ∃ p3, a + u * 3 = p3 := ⟨_, rfl⟩
  obtain ⟨m2, hmm2⟩ : ∃ m2, u * 2 = m2 := ⟨_, rfl⟩
  obtain ⟨m3, hmm3⟩ : ∃ m3, u * 3 = m3 := ⟨_, rfl⟩
  rw [hp1] at ha1
  rw [hp2, hmm2] at ha2
  rw [hp3, hmm3] at ha3
  rw [hmm2] at hm1
  rw [hmm3] at hm2
  have g8 : decide ((8 : Int) ≤ (d : Int)) = true := by simp; omega
  have g8' : decide (8 ≤ d) = true := by simp; omega
  have g50 : decide ((50 : Int) ≤ (d : Int)) = false := by simp; omega
  have g50' : decide (50 ≤ d) = false := by simp; omega
  have hlt := hF.lt
  have hFS : FS (w.alloc (.cells #[.int .i64 0] 3)) g cap n f w.heap.size 0 := by
    have hnew := fun j u hu => cells_new w [.int .i64 0] 3 j u hu
    have x0 := hnew 0 _ rfl
    rw [addr_add_none, Nat.zero_add] at x0
    exact ⟨hF.turned ((Turned.refl [] w).alloc _) (by simp), x0, by unfold World.frozen?; simp only [World.alloc_heap_new w]; rfl, by omega⟩
  have CM : Hid (Calls Tryz.prog 93 #[.slice (some ⟨g, 0, none⟩) n cap, .int .i64 (p1 : Nat), .int .i64 (p2 : Nat), .int .i64 (p3 : Nat), .pointer (some ⟨w.heap.size, 0, none⟩)] (w.alloc (.cells #[.int .i64 0] 3)) fun e w' => ∃ p c : Nat, e = .returned (.int .i64 (p : Nat)) ∧ c ≤ 3 ∧ w'.cell? ⟨w.heap.size, 0, none⟩ = some (.int .i64 (c : Nat)) ∧ PivU a b n f p ∧ FU w' g cap n f ∧ Below w.heap.size w w') := by
    refine (medU_fn hFS (by omega) (by omega) (by omega) (by omega) (by omega)).mono fun e w' ⟨x, p, y, e1, e2, e3, e4, c', k1, k2, k3⟩ => ?_
    have hx : x ∈ [p1, p2, p3] := e2.mem_iff.1 (by simp)
    have hp : p ∈ [p1, p2, p3] := e2.mem_iff.1 (by simp)
    have hy : y ∈ [p1, p2, p3] := e2.mem_iff.1 (by simp)
    have hnd : [x, p, y].Nodup := e2.nodup_iff.2 (by simp; omega)
    simp only [List.mem_cons, List.not_mem_nil, or_false] at hx hp hy
    simp only [List.nodup_cons, List.mem_cons, List.not_mem_nil, or_false, not_or, not_false_eq_true, true_and, and_true] at hnd
    have i1 : f x ≠ f p := fun e => hnd.1.1 (hinj _ _ (by omega) (by omega) e)
    have i2 : f p ≠ f y := fun e => hnd.2.1 (hinj _ _ (by omega) (by omega) e)
    refine ⟨p, c', e1, by omega, k1.cnt, ⟨by omega, ⟨x, by omega, by omega, by omega⟩, ⟨y, by omega, by omega, by omega⟩⟩, k1.row, ?_⟩
    exact Turned.below_of (((Turned.refl [] w).alloc _).below) k2 (by simp)
  clear hF hFS hinj hlt hp1 hp2 hp3 hmm2 hmm3 hd hu
  go_enter Tryz.func75, Tryz.ntmps75
  go_wp2_with (first
    | (go_at_call 93; ((with_reducible refine CM.out.mono ?_); rintro e w1 ⟨p, c, rfl, hc, hcell, hpv, hfu, hb1⟩; have S1 := Lib.hid (And.intro hpv (And.intro hfu hb1)); clear hpv hfu hb1 CM)))
  all_goals
    go_ret2
    first
      | exact ⟨p, 0, rfl, by omega, S1.out⟩
      | exact ⟨p, 1, rfl, by omega, S1.out⟩
      | exact ⟨p, 2, rfl, by omega, S1.out⟩
end Go.Proofs.YtmpbhoijkcanmaaGreat.R

/- Sorting numbers: reversing; is it sorted. -/
namespace Go.Proofs.YtmpbhoijkcanmaaGreat.R
open Go.ChangeShapes Go.WideShapes Go.ChangeAt Go.RowKit Go.Maps Go.Proofs.YtmpbhoijkcanmaaGreat.G Go.Joins
set_option linter.unusedVariables false
set_option linter.unusedSimpArgs false
set_option linter.unnecessarySimpa false

variable {w w' : World} {g cap n a b i j q c s : Nat} {f h k : Nat → Nat}
/-- all that a swap's region wants, and gives -/
theorem FU.swp_at (h : FU w g cap n f) (hi : i < n) (hj : j < n) (x y : Nat) (hx : f i = x) (hy : f j = y) : w.cell? ⟨g, i, none⟩ = some (.int .u64 (x : Nat)) ∧ w.cell? ⟨g, j, none⟩ = some (.int .u64 (y : Nat)) ∧ w.frozen? ⟨g, i, none⟩ = false ∧ w.frozen? ⟨g, j, none⟩ = false ∧
    FU ((w.drew.setCell ⟨g, i, none⟩ (.int .u64 (y : Nat))).setCell ⟨g, j, none⟩ (.int .u64 (x : Nat))) g cap n (swp f i j) ∧ Turned [g] w ((w.drew.setCell ⟨g, i, none⟩ (.int .u64 (y : Nat))).setCell ⟨g, j, none⟩ (.int .u64 (x : Nat))) := by
  have h1 := h.cell hi
  have h2 := h.cell hj
  rw [hx] at h1
  rw [hy] at h2
  have h3 := (h.turned ((Turned.refl [] w).drew) (by simp)).swap hi hj
  rw [hx, hy] at h3
  exact ⟨h1, h2, h.frozen i, h.frozen j, h3, ((Turned.refl [g] w).drew).trans (swap_turned _ _ _ _ _ _)⟩
set_option maxRecDepth 100000 in
set_option maxHeartbeats 2000000 in
theorem revU_fn (hF : FU w g cap n f) (hb : b ≤ n) (hn : n ≤ 1048576) (hab : a < b) : Calls Tryz.prog 76 #[.slice (some ⟨g, 0, none⟩) n cap, .int .i64 (a : Nat), .int .i64 (b : Nat)] w fun e w' => e = .returned (.tuple #[]) ∧ ∃ h, FU w' g cap n h ∧ Turned [g] w w' ∧ Sim a b f h ∧ ∀ k, a ≤ k → k < b → h k = f (a + b - 1 - k) := by
  have HF := Lib.hid hF
  have hwb : IntKind.i64.wrap ((b : Int) - 1) = ((b - 1 : Nat) : Int) := by rw [IntWalk.i64_in _ (by omega)]; omega
  clear hF
  go_enter Tryz.func76, Tryz.ntmps76
  go_wp2
  go_loopw [6, 7] (fun u v wr => ∃ i j : Nat, a ≤ i ∧ j < b ∧ i + j + 1 = a + b ∧ i ≤ j + 1 ∧ u = .int .i64 (i : Nat) ∧ v = .int .i64 (j : Nat) ∧ Hid (∃ h, FU wr g cap n h ∧ Turned [g] w wr ∧ Sim a b f h ∧ (∀ k, a ≤ k → k < b → (k < i ∨ j < k) → h k = f (a + b - 1 - k)) ∧ ∀ k, i ≤ k → k ≤ j → h k = f k)) (fun u v _ => (intOf v).toNat + 1 - (intOf u).toNat)
  case atStart => exact ⟨a, b - 1, Nat.le_refl _, by omega, by omega, by omega, rfl, rfl, f, HF.out, Turned.refl _ _, Sim.refl _ _ _, fun k h1 h2 h3 => by omega, fun _ _ _ => rfl⟩
  case round =>
    obtain ⟨i, j, hai, hjb, hij, hle, rfl, rfl, hB⟩ := hrel
    obtain ⟨h, hF, ht, hs, ho, hi⟩ := hB.out
    by_cases hlt : i < j
    · have hd : decide ((i : Int) < (j : Int)) = true := by simp; omega
      have hd1 : decide (i < j) = true := by simp; omega
      have hin : i < n := by omega
      have hjn : j < n := by omega
      have hwi : IntKind.i64.wrap ((i : Int) + 1) = (i : Int) + 1 := IntWalk.i64_in _ (by omega)
      obtain ⟨j1, hj1⟩ : ∃ j1, j = j1 + 1 := ⟨j - 1, by omega⟩
      have hwj : IntKind.i64.wrap ((j : Int) - 1) = ((j1 : Nat) : Int) := by rw [IntWalk.i64_in _ (by omega)]; omega
      obtain ⟨x, hx⟩ : ∃ x, h i = x := ⟨_, rfl⟩
      obtain ⟨y, hy⟩ : ∃ y, h j = y := ⟨_, rfl⟩
      obtain ⟨ci, cj, fi, fj, hF2, ht2⟩ := hF.swp_at hin hjn x y hx hy
      have HS : Hid (∃ h, FU ((wr.drew.setCell ⟨g, i, none⟩ (.int .u64 (y : Nat))).setCell ⟨g, j, none⟩ (.int .u64 (x : Nat))) g cap n h ∧ Turned [g] w ((wr.drew.setCell ⟨g, i, none⟩ (.int .u64 (y : Nat))).setCell ⟨g, j, none⟩ (.int .u64 (x : Nat))) ∧ Sim a b f h ∧ (∀ k, a ≤ k → k < b → (k < i + 1 ∨ j1 < k) → h k = f (a + b - 1 - k)) ∧ ∀ k, i + 1 ≤ k → k ≤ j1 → h k = f k) := by
        refine ⟨_, hF2, ht.trans ht2, hs.trans (Sim.swap ⟨hai, by omega⟩ ⟨by omega, hjb⟩), fun k h1 h2 h3 => ?_, fun k h1 h2 => ?_⟩
        · unfold swp
          by_cases e1 : k = i
          · rw [if_pos e1, hi j (by omega) (Nat.le_refl _)]; congr 1; omega
          · rw [if_neg e1]
            by_cases e2 : k = j
            · rw [if_pos e2, hi i (Nat.le_refl _) (Nat.le_of_lt hlt)]; congr 1; omega
            · rw [if_neg e2]
              exact ho k h1 h2 (by omega)
        · unfold swp
          rw [if_neg (by omega), if_neg (by omega)]
          exact hi k (by omega) (by omega)
      have hm : j1 < j := by omega
      have hij2 : i + 1 + j1 + 1 = a + b := by omega
      have hle2 : i + 1 ≤ j1 + 1 := by omega
      have hjb2 : j1 < b := by omega
      clear hB hF ht hs ho hi hx hy hF2 ht2 hj1
      go_upto_region 3 with fail
      go_region
      all_goals go_wp2
      go_roundw
      all_goals first | exact ⟨i + 1, j1, by omega, hjb2, hij2, hle2, by go_num, rfl, HS.out⟩ | (simp [intOf]; omega)
    · have hd : decide ((i : Int) < (j : Int)) = false := by simp; omega
      have hd1 : decide (i < j) = false := by simp; omega
      have HE : Hid (∃ h, FU wr g cap n h ∧ Turned [g] w wr ∧ Sim a b f h ∧ ∀ k, a ≤ k → k < b → h k = f (a + b - 1 - k)) := ⟨h, hF, ht, hs, fun k h1 h2 => by
        by_cases e : k < i ∨ j < k
        · exact ho k h1 h2 e
        · rw [hi k (by omega) (by omega)]; congr 1; omega⟩
      clear hB hF ht hs ho hi
      go_wp2
      go_end0
      exact ⟨rfl, HE.out⟩
set_option maxRecDepth 100000 in
set_option maxHeartbeats 2000000 in
theorem partInsU_fn (hF : FU w g cap n f) (hb : b ≤ n) (hn : n < 50) (hab : a < b) : Calls Tryz.prog 77 #[.slice (some ⟨g, 0, none⟩) n cap, .int .i64 (a : Nat), .int .i64 (b : Nat)] w fun e w' => ∃ B : Bool, e = .returned (.bool B) ∧ FU w' g cap n f ∧ Below w.heap.size w w' ∧ (B = true → SortedOn a b f) := by
  have HF := Lib.hid hF
  have hwa : IntKind.i64.wrap ((a : Int) + 1) = ((a + 1 : Nat) : Int) := by rw [IntWalk.i64_in _ (by omega)]; omega
  obtain ⟨d, hdE⟩ : ∃ d, b - a = d := ⟨_, rfl⟩
  have hwd : IntKind.i64.wrap ((b : Int) - (a : Int)) = ((d : Nat) : Int) := by rw [IntWalk.i64_in _ (by omega)]; omega
  have h50 : decide ((d : Int) < 50) = true := by simp; omega
  have h50' : decide (d < 50) = true := by simp; omega
  clear hF hdE
  go_enter Tryz.func77, Tryz.ntmps77
  go_wp2
  go_loopw [7, 8] (fun u v wr => u = .int .i64 ((a + 1 : Nat) : Int) ∧ v = .int .i64 0 ∧ wr = w) (fun _ _ _ => 0)
  case atStart => exact ⟨rfl, rfl, rfl⟩
  case round =>
    obtain ⟨rfl, rfl, hw0⟩ := hrel
    rw [hw0]
    clear hw0
    go_wp2
    go_loopw [7] (fun u wv => ∃ i : Nat, a + 1 ≤ i ∧ i ≤ b ∧ u = .int .i64 ((i : Nat) : Int) ∧ Hid (FU wv g cap n f ∧ Turned [] w wv ∧ SortedOn a i f)) (fun u _ => b - (intOf u).toNat)
    case atStart => exact ⟨a + 1, Nat.le_refl _, hab, rfl, HF.out, Turned.refl _ _, fun x y h1 h2 h3 => by omega⟩
    case round =>
      obtain ⟨i, hai, hib, rfl, hB⟩ := hrel
      obtain ⟨hF, ht, hs⟩ := hB.out
      by_cases hlt : i < b
      · have hd : decide ((i : Int) < (b : Int)) = true := by simp; omega
        have hd1 : decide (i < b) = true := by simp; omega
        have hne : ((i : Int) == (b : Int)) = false := by rw [beq_eq_false_iff_ne]; omega
        have hne1 : (i == b) = false := by simp; omega
        obtain ⟨q, hq⟩ : ∃ q, i = q + 1 := ⟨i - 1, by omega⟩
        have hwi : IntKind.i64.wrap ((i : Int) - 1) = ((q : Nat) : Int) := by rw [IntWalk.i64_in _ (by omega)]; omega
        have hin : i < n := by omega
        have hqn : q < n := by omega
        obtain ⟨x, hx⟩ : ∃ x, f i = x := ⟨_, rfl⟩
        obtain ⟨y, hy⟩ : ∃ y, f q = y := ⟨_, rfl⟩
        have ci := hF.cell hin
        have cq := hF.cell hqn
        rw [hx] at ci
        rw [hy] at cq
        obtain ⟨r, hr⟩ : ∃ r, decide (x < y) = r := ⟨_, rfl⟩
        have CLr : Hid (∀ w, Calls Tryz.prog 78 #[.int .u64 (x : Nat), .int .u64 (y : Nat)] w fun e w' => e = .returned (.bool r) ∧ w = w') := fun w => by rw [← hr]; exact lessU_fn x y w
        have hFd : FU wr.drew g cap n f := hF.turned ((Turned.refl [] wr).drew) (by simp)
        have HE : Hid (FU wr.drew g cap n f ∧ Turned [] w wr.drew ∧ (r = false → SortedOn a (i + 1) f)) := ⟨hFd, ht.drew, fun hr2 x' y' h1 h2 h3 => by
          by_cases e : y' = i
          · have hle : f q ≤ f i := by rw [hx, hy]; rw [hr2] at hr; simpa using hr
            rw [e]
            by_cases e2 : x' = q
            · rw [e2]; exact hle
            · exact Nat.le_trans (hs x' q h1 (by omega) (by omega)) hle
          · exact hs x' y' h1 h2 (by omega)⟩
        clear hB hF ht hs hx hy hr hFd hq
        go_upto_region 5 with fail
        go_region_held3 (fun w' => w'.cell? ⟨g, i, none⟩ = some (.int .u64 (x : Nat)) ∧ w'.cell? ⟨g, q, none⟩ = some (.int .u64 (y : Nat))) (go_keep)
          (first | (go_at_call 78; ((with_reducible refine (CLr.out _).mono ?_); rintro e w5 ⟨rfl, rfl⟩)))
        cases r
        · go_wp2
          go_roundw
          all_goals first | exact ⟨i + 1, by omega, by omega, by go_num, HE.out.1, HE.out.2.1, HE.out.2.2 rfl⟩ | exact ⟨i + 1, by omega, by omega, by go_num, HE.out.1, HE.out.2.1, HE.out.2.2 trivial⟩ | (simp [intOf]; omega)
        · go_wp2
          go_ret
          exact ⟨false, rfl, HE.out.1, HE.out.2.1.below, fun h => by cases h⟩
      · obtain rfl : i = b := by omega
        have hd : decide ((i : Int) < (i : Int)) = false := by simp
        have HE : Hid (∀ m, FU (wr.drewN m) g cap n f ∧ Turned [] w (wr.drewN m) ∧ SortedOn a i f) := fun m => ⟨hF.drewN m, ht.drewN m, hs⟩
        clear hB hF ht hs
        go_upto_region 5 with fail
        go_quiet (fail)
        go_wp2
        go_ret
        exact ⟨true, rfl, (HE.out _).1, (HE.out _).2.1.below, fun _ => (HE.out 0).2.2⟩
end Go.Proofs.YtmpbhoijkcanmaaGreat.R
