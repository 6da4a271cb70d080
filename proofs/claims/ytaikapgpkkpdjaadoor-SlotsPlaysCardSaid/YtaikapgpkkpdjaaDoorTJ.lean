/- Slots: the document's, in memory. -/
import Derived.Test.YtaikapgpkkpdjaaDoorTI
import Derived.Deep.RegionHeld3
namespace Go.Proofs.YtaikapgpkkpdjaaDoor.L
open Go.ChangeShapes Go.WideShapes Go.ChangeAt Go.RowKit Go.Maps Go.Proofs.YtaikapgpkkpdjaaDoor.G Go.Sort Go.Shelf Go.Lib Go.Deep
set_option linter.unusedVariables false
set_option linter.unusedSimpArgs false

/-- the front of a row -/
def RowP (w : World) (b : Nat) (t : TypeId) (n : Nat) (f : Nat → Value) : Prop := ∃ cs, w.heap[b]? = some (.cells cs t (0, 0)) ∧ ∀ j, j < n → cs[j]? = some (f j)
theorem RowP.lt {w : World} {b : Nat} {t : TypeId} {n : Nat} {f : Nat → Value} (h : RowP w b t n f) : b < w.heap.size := let ⟨_, h, _⟩ := h; lt_of_at h
theorem RowP.cell {w : World} {b : Nat} {t : TypeId} {n : Nat} {f : Nat → Value} (h : RowP w b t n f) {j : Nat} (hj : j < n) : w.cell? ⟨b, j, none⟩ = some (f j) := by
  obtain ⟨cs, h1, h2⟩ := h
  simp [World.cell?, h1, h2 j hj]
theorem RowP.frozen {w : World} {b : Nat} {t : TypeId} {n : Nat} {f : Nat → Value} (h : RowP w b t n f) (j : Nat) : w.frozen? ⟨b, j, none⟩ = false := by
  obtain ⟨cs, h1, h2⟩ := h
  simp [World.frozen?, h1]
theorem RowP.of_block {w w' : World} {b : Nat} {t : TypeId} {n : Nat} {f : Nat → Value} (h : RowP w b t n f) (hb : w'.heap[b]? = w.heap[b]?) : RowP w' b t n f := by
  obtain ⟨cs, h1, h2⟩ := h
  exact ⟨cs, by rw [hb]; exact h1, h2⟩
theorem RowP.congr {w : World} {b : Nat} {t : TypeId} {n : Nat} {f g : Nat → Value} (h : RowP w b t n f) (hg : ∀ j, j < n → g j = f j) : RowP w b t n g := by
  obtain ⟨cs, h1, h2⟩ := h
  exact ⟨cs, h1, fun j hj => by rw [h2 j hj, hg j hj]⟩
theorem RowP.set {w : World} {b : Nat} {t : TypeId} {n : Nat} {f : Nat → Value} (h : RowP w b t n f) (k : Nat) (v : Value) : RowP (w.setCell ⟨b, k, none⟩ v) b t n (fun j => if j = k then v else f j) := by
  obtain ⟨cs, h1, h2⟩ := h
  refine ⟨cs.setIfInBounds k v, ?_, fun j hj => ?_⟩
  · have hlt := lt_of_at h1
    simp only [setCell_eq, mapBlock]
    rw [Array.getElem?_modify, if_pos rfl, h1]
    rfl
  · rw [Array.getElem?_setIfInBounds]
    have hjs : j < cs.size := by
      rcases Nat.lt_or_ge j cs.size with h | h
      · exact h
      · have := h2 j hj; rw [Array.getElem?_eq_none h] at this; cases this
    by_cases e : j = k
    · subst e; rw [if_pos rfl, if_pos hjs]; simp
    · rw [if_neg (fun h => e h.symm)]; simp only [if_neg e]; exact h2 j hj

/-- an extent of the document's: its class, how many slots, what became of each, for which epochs they wait; where these lie -/
structure RX where
  cls : Int
  K : Nat
  st : Nat → Int
  ep : Nat → Nat
  sb : Nat
  eb : Nat
def cellRX (rx : Nat → RX) (j : Nat) : Value :=
  if j % 3 = 0 then .int .i64 (rx (j / 3)).cls else if (rx (j / 3)).K = 0 then .slice none 0 0 else
  if j % 3 = 1 then .slice (some ⟨(rx (j / 3)).sb, 0, none⟩) (rx (j / 3)).K (rx (j / 3)).K else .slice (some ⟨(rx (j / 3)).eb, 0, none⟩) (rx (j / 3)).K (rx (j / 3)).K
def svOf (b K : Nat) : Value := if K = 0 then .slice none 0 0 else .slice (some ⟨b, 0, none⟩) K K
theorem cellRX_0 (rx : Nat → RX) (i : Nat) : cellRX rx (i * 3) = .int .i64 (rx i).cls := by unfold cellRX; rw [if_pos (by omega), show i * 3 / 3 = i by omega]
theorem cellRX_1 (rx : Nat → RX) (i : Nat) : cellRX rx (i * 3 + 1) = svOf (rx i).sb (rx i).K := by unfold cellRX svOf; rw [if_neg (by omega), show (i * 3 + 1) / 3 = i by omega, if_pos (show (i * 3 + 1) % 3 = 1 by omega)]
theorem cellRX_2 (rx : Nat → RX) (i : Nat) : cellRX rx (i * 3 + 2) = svOf (rx i).eb (rx i).K := by unfold cellRX svOf; rw [if_neg (by omega), show (i * 3 + 2) / 3 = i by omega, if_neg (show ¬ (i * 3 + 2) % 3 = 1 by omega)]
/-- a block of the document's -/
def RBlk (br bL n : Nat) (rx : Nat → RX) (b : Nat) : Prop := b = br ∨ (b = bL ∧ n ≠ 0) ∨ ∃ i, i < n ∧ (rx i).K ≠ 0 ∧ (b = (rx i).sb ∨ b = (rx i).eb)
def rowRX (w : World) (r : RX) : Prop := r.K = 0 ∨ (w.rowIs r.sb 3 r.K (fun k => .int .i64 (r.st k)) ∧ w.rowIs r.eb 38 r.K (fun k => .int .u64 (r.ep k)))
def numRX (r : RX) : Prop := (-1 ≤ r.cls ∧ r.cls ≤ 5) ∧ ((r.cls = -1 ∧ r.K = 0) ∨ (0 ≤ r.cls ∧ (r.K : Int) = slotsC r.cls)) ∧ (∀ k, k < r.K → 0 ≤ r.st k ∧ r.st k ≤ 2) ∧ ∀ k, k < r.K → r.ep k < 2 ^ 64
structure RefAt (w : World) (br bL n cap : Nat) (pg : Int) (rx : Nat → RX) : Prop where
  page : w.cell? ⟨br, 0, none⟩ = some (.int .i64 pg)
  exts : w.cell? ⟨br, 1, none⟩ = some (.slice (if n = 0 then none else some ⟨bL, 0, none⟩) n cap)
  row : n ≠ 0 → RowP w bL 70 (n * 3) (cellRX rx)
  cells : ∀ i, i < n → rowRX w (rx i)
  num : ∀ i, i < n → numRX (rx i)
  own : ∀ i, i < n → (rx i).K ≠ 0 → ((rx i).sb ≠ br ∧ (rx i).sb ≠ bL) ∧ ((rx i).eb ≠ br ∧ (rx i).eb ≠ bL) ∧ (rx i).sb ≠ (rx i).eb
  dis : ∀ i j, i < n → j < n → i ≠ j → (rx i).K ≠ 0 → (rx j).K ≠ 0 → (rx i).sb ≠ (rx j).sb ∧ (rx i).sb ≠ (rx j).eb ∧ (rx i).eb ≠ (rx j).eb
  nbr : br ≠ bL
  few : n ≤ 32 ∧ n ≤ cap

variable {w w' : World} {br bL n cap : Nat} {pg : Int} {rx : Nat → RX}
theorem rowRX.kept {r : RX} (h : rowRX w r) (h1 : r.K ≠ 0 → w'.heap[r.sb]? = w.heap[r.sb]?) (h2 : r.K ≠ 0 → w'.heap[r.eb]? = w.heap[r.eb]?) : rowRX w' r := by
  rcases h with h | ⟨a, b⟩
  · exact .inl h
  · by_cases hk : r.K = 0
    · exact .inl hk
    · exact .inr ⟨a.of_block (h1 hk), b.of_block (h2 hk)⟩
theorem RefAt.lt (h : RefAt w br bL n cap pg rx) {b : Nat} (hb : RBlk br bL n rx b) : b < w.heap.size := by
  rcases hb with rfl | ⟨rfl, h0⟩ | ⟨i, hi, hk, e⟩
  · exact lt_of_cell h.page
  · exact (h.row h0).lt
  · rcases h.cells i hi with h0 | ⟨a, c⟩
    · exact absurd h0 hk
    · rcases e with rfl | rfl
      · exact a.lt
      · exact c.lt
theorem RefAt.turned (h : RefAt w br bL n cap pg rx) {S : List Nat} (t : Turned S w w') (hS : ∀ b, RBlk br bL n rx b → b ∉ S) : RefAt w' br bL n cap pg rx := by
  have hb : ∀ b, RBlk br bL n rx b → w'.heap[b]? = w.heap[b]? := fun b hb => t.block b (h.lt hb) (hS b hb)
  refine ⟨t.cell h.page (hS _ (.inl rfl)), t.cell h.exts (hS _ (.inl rfl)), fun h0 => (h.row h0).of_block (hb _ (.inr (.inl ⟨rfl, h0⟩))), fun i hi => (h.cells i hi).kept (fun hk => hb _ (.inr (.inr ⟨i, hi, hk, .inl rfl⟩))) (fun hk => hb _ (.inr (.inr ⟨i, hi, hk, .inr rfl⟩))), h.num, h.own, h.dis, h.nbr, h.few⟩
theorem RefAt.calm (h : RefAt w br bL n cap pg rx) (t : Turned [] w w') : RefAt w' br bL n cap pg rx := h.turned t (fun _ _ => by simp)
theorem RefAt.c0 (h : RefAt w br bL n cap pg rx) (i : Nat) (hi : i < n) : w.cell? ⟨bL, i * 3, none⟩ = some (.int .i64 (rx i).cls) := by rw [(h.row (by omega)).cell (by omega), cellRX_0]
theorem RefAt.c1 (h : RefAt w br bL n cap pg rx) (i : Nat) (hi : i < n) : w.cell? ⟨bL, i * 3 + 1, none⟩ = some (svOf (rx i).sb (rx i).K) := by rw [(h.row (by omega)).cell (by omega), cellRX_1]
theorem RefAt.c2 (h : RefAt w br bL n cap pg rx) (i : Nat) (hi : i < n) : w.cell? ⟨bL, i * 3 + 2, none⟩ = some (svOf (rx i).eb (rx i).K) := by rw [(h.row (by omega)).cell (by omega), cellRX_2]
theorem RefAt.ext1 (h : RefAt w br bL n cap pg rx) (hn : n ≠ 0) : w.cell? ⟨br, 1, none⟩ = some (.slice (some ⟨bL, 0, none⟩) n cap) := by have := h.exts; rw [if_neg hn] at this; exact this
theorem svOf_pos {b K : Nat} (h : K ≠ 0) : svOf b K = .slice (some ⟨b, 0, none⟩) K K := if_neg h
theorem svOf_zero (b : Nat) : svOf b 0 = .slice none 0 0 := if_pos rfl
theorem RefAt.s (h : RefAt w br bL n cap pg rx) (i : Nat) (hi : i < n) (k : Nat) (hk : k < (rx i).K) : w.cell? ⟨(rx i).sb, k, none⟩ = some (.int .i64 ((rx i).st k)) := by
  rcases h.cells i hi with h0 | ⟨a, _⟩
  · omega
  · exact a.cell hk
theorem RefAt.p (h : RefAt w br bL n cap pg rx) (i : Nat) (hi : i < n) (k : Nat) (hk : k < (rx i).K) : w.cell? ⟨(rx i).eb, k, none⟩ = some (.int .u64 ((rx i).ep k)) := by
  rcases h.cells i hi with h0 | ⟨_, a⟩
  · omega
  · exact a.cell hk

/-- of which class an extent is -/
def classR (n : Nat) (rx : Nat → RX) (i : Int) : Int := if i < 0 ∨ (n : Int) ≤ i then -1 else (rx i.toNat).cls
theorem rclass (i : Int) (w : World) (h : RefAt w br bL n cap pg rx) : Calls Tryd.prog 14 #[.pointer (some ⟨br, 0, none⟩), .int .i64 i] w fun e w' => e = .returned (.int .i64 (classR n rx i)) ∧ w = w' := by
  have hx := h.exts
  have hn := h.few
  generalize hg : (if n = 0 then none else some (⟨bL, 0, none⟩ : Addr)) = A at hx
  by_cases h0 : i < 0
  · rw [show classR n rx i = -1 from if_pos (.inl h0)]
    clear h hg
    go_enter Tryd.func14, Tryd.ntmps14
    go_wp2
    go_ret
    exact ⟨rfl, rfl⟩
  · by_cases h1 : (n : Int) ≤ i
    · rw [show classR n rx i = -1 from if_pos (.inr h1)]
      clear h hg
      go_enter Tryd.func14, Tryd.ntmps14
      go_wp2
      go_ret
      exact ⟨rfl, rfl⟩
    · obtain ⟨k, rfl⟩ : ∃ k : Nat, i = k := ⟨i.toNat, by omega⟩
      rw [show classR n rx k = (rx k).cls by unfold classR; rw [if_neg (by omega)]; simp]
      have hk : k < n := by omega
      rw [if_neg (by omega)] at hg
      subst hg
      have hc := h.c0 k hk
      generalize (rx k).cls = c at *
      clear h
      go_enter Tryd.func14, Tryd.ntmps14
      go_wp2
      go_ret
      exact ⟨rfl, rfl⟩

/-- is there such a slot? -/
def thereR (n : Nat) (rx : Nat → RX) (x : Slot) : Bool := decide (0 ≤ x.c) && decide (classR n rx x.e = x.c) && decide (0 ≤ x.i) && decide (x.i < slotsC x.c)
theorem RefAt.there (h : RefAt w br bL n cap pg rx) {x : Slot} (ht : thereR n rx x = true) : ∃ e i : Nat, x.e = e ∧ x.i = i ∧ e < n ∧ i < (rx e).K ∧ (rx e).cls = x.c ∧ (rx e).K ≤ 64 := by
  unfold thereR at ht
  simp only [Bool.and_eq_true, decide_eq_true_eq] at ht
  obtain ⟨⟨⟨t1, t2⟩, t3⟩, t4⟩ := ht
  unfold classR at t2
  have hr : ¬ (x.e < 0 ∨ (n : Int) ≤ x.e) := fun hc => by rw [if_pos hc] at t2; omega
  rw [if_neg hr] at t2
  have hs := slotsC_le x.c
  obtain ⟨_, hk, _⟩ := h.num x.e.toNat (by omega)
  rw [t2] at hk
  exact ⟨x.e.toNat, x.i.toNat, by omega, by omega, by omega, by omega, t2, by omega⟩

set_option maxRecDepth 100000 in
set_option maxHeartbeats 4000000 in
theorem rthere (x : Slot) (hx : I64 x.e ∧ I64 x.c ∧ I64 x.i) (w : World) (h : RefAt w br bL n cap pg rx) :
    Calls Tryd.prog 33 #[.pointer (some ⟨br, 0, none⟩), encS x] w fun e w' => e = .returned (.bool (thereR n rx x)) ∧ Below w.heap.size w w' := by
  have hth := fun ht => h.there (x := x) ht
  have C14 : Hid (∀ w', RefAt w' br bL n cap pg rx → Calls Tryd.prog 14 #[.pointer (some ⟨br, 0, none⟩), .int .i64 x.e] w' fun e w'' => e = .returned (.int .i64 (classR n rx x.e)) ∧ w'' = w') := fun w' h' => (rclass x.e w' h').mono fun e w'' ⟨a, b⟩ => ⟨a, b.symm⟩
  have hR1 := h.calm ((Turned.refl [] w).alloc (.cells #[.int .i64 x.e, .int .i64 x.c, .int .i64 x.i] 24))
  have HRs := Lib.hid (res_new w x)
  have HB : Hid (Below w.heap.size w (w.alloc (.cells #[.int .i64 x.e, .int .i64 x.c, .int .i64 x.i] 24))) := (Below.refl _ w).alloc (Nat.le_refl _) _
  have HR := Lib.hid hR1
  have hthere : thereR n rx x = (decide (0 ≤ x.c) && decide (classR n rx x.e = x.c) && decide (0 ≤ x.i) && decide (x.i < slotsC x.c)) := rfl
  have HTh := Lib.hid hth
  have hfew := h.few
  rw [hthere]
  have HEq := Lib.hid hthere
  clear hR1 hthere hth
  obtain ⟨xe, xc, xi⟩ := x
  unfold encS
  simp only at *
  have hsb := slotsC_le xc
  generalize hcx : classR n rx xe = cx at *
  have hbr : br < w.heap.size := lt_of_cell h.page
  clear h
  by_cases g0 : 0 ≤ xc
  · by_cases g1 : cx = xc
    · by_cases g2 : 0 ≤ xi
      · have hxe : ∃ e : Nat, xe = e ∧ e < n := by
          unfold classR at hcx
          by_cases hc : xe < 0 ∨ (n : Int) ≤ xe
          · rw [if_pos hc] at hcx; omega
          · exact ⟨xe.toNat, by omega, by omega⟩
        obtain ⟨e, rfl, hen⟩ := hxe
        have hK : ((rx e).K : Int) = slotsC xc ∧ (rx e).K ≠ 0 := by
          have := (HR.out.num e hen).2.1
          unfold classR at hcx
          rw [if_neg (by omega), Int.toNat_natCast] at hcx
          rw [hcx, g1] at this
          have h3 := HR.out.num e hen
          rcases this with h | h
          · omega
          · refine ⟨h.2, fun h0 => ?_⟩
            have := slotsC_pos xc ⟨by omega, by have := h3.1; rw [hcx, g1] at this; omega⟩
            omega
        have hc1 := HR.out.c1 e hen
        rw [svOf_pos hK.2] at hc1
        have hx1 := HR.out.ext1 (by omega)
        obtain ⟨K, hKe⟩ : ∃ K, (rx e).K = K := ⟨_, rfl⟩
        rw [hKe] at hc1 hK
        generalize (rx e).sb = sb at *
        rw [← hK.1]
        obtain ⟨D, hD⟩ : ∃ D, decide (xi < (K : Int)) = D := ⟨_, rfl⟩
        rw [hD]
        have hd1 : decide (0 ≤ xc) = true := by simpa using g0
        have hd2 : decide (0 ≤ xi) = true := by simpa using g2
        have hres : (decide (0 ≤ xc) && decide (cx = xc) && decide (0 ≤ xi) && D) = D := by rw [hd1, hd2, g1]; simp
        rw [hres]
        subst g1
        have r0 := HRs.out.c0
        have r1 := HRs.out.c1
        have r2 := HRs.out.c2
        simp only at r0 r1 r2
        have HC14 : Hid (∀ nn, Calls Tryd.prog 14 #[.pointer (some ⟨br, 0, none⟩), .int .i64 e] ((w.alloc (.cells #[.int .i64 e, .int .i64 cx, .int .i64 xi] 24)).drewN nn) fun ee w'' => ee = .returned (.int .i64 cx) ∧ w'' = (w.alloc (.cells #[.int .i64 e, .int .i64 cx, .int .i64 xi] 24)).drewN nn) := fun nn => C14.out _ (HR.out.calm ((Turned.refl [] _).drewN nn))
        have hen1 : (e : Int) < n := by omega
        have hen0 : (0 : Int) ≤ e := by omega
        clear hcx hK hKe hres g0 g2 C14
        go_enter Tryd.func33, Tryd.ntmps33
        go_upto_region 1 with fail
        generalize w.alloc (.cells #[.int .i64 e, .int .i64 cx, .int .i64 xi] 24) = w1 at *
        obtain ⟨B, hBe⟩ : ∃ B, w.heap.size = B := ⟨_, rfl⟩
        rw [hBe] at r0 r1 r2
        rw [hBe]
        have HBe := Lib.hid hBe
        clear hBe
        go_quiet ((go_at_call 14; exact Calls.quiet_of_same (HC14.out _)))
        go_wp2
        go_ret
        exact ⟨rfl, HBe.out ▸ (Turned.drewN (Turned.of_below HB.out) nq).below⟩
      · have hd2 : decide (0 ≤ xi) = false := by simpa using g2
        have hd1 : decide (0 ≤ xc) = true := by simpa using g0
        have hres : (decide (0 ≤ xc) && decide (cx = xc) && decide (0 ≤ xi) && decide (xi < slotsC xc)) = false := by rw [hd2]; simp
        rw [hres]
        subst g1
        clear g2 g0 hres
        have r0 := HRs.out.c0
        have r1 := HRs.out.c1
        have r2 := HRs.out.c2
        simp only at r0 r1 r2
        have HC14 : Hid (∀ nn, Calls Tryd.prog 14 #[.pointer (some ⟨br, 0, none⟩), .int .i64 xe] ((w.alloc (.cells #[.int .i64 xe, .int .i64 cx, .int .i64 xi] 24)).drewN nn) fun ee w'' => ee = .returned (.int .i64 cx) ∧ w'' = (w.alloc (.cells #[.int .i64 xe, .int .i64 cx, .int .i64 xi] 24)).drewN nn) := fun nn => C14.out _ (HR.out.calm ((Turned.refl [] _).drewN nn))
        clear hcx C14
        go_enter Tryd.func33, Tryd.ntmps33
        go_upto_region 1 with fail
        generalize w.alloc (.cells #[.int .i64 xe, .int .i64 cx, .int .i64 xi] 24) = w1 at *
        obtain ⟨B, hBe⟩ : ∃ B, w.heap.size = B := ⟨_, rfl⟩
        rw [hBe] at r0 r1 r2
        rw [hBe]
        have HBe := Lib.hid hBe
        clear hBe
        go_quiet ((go_at_call 14; exact Calls.quiet_of_same (HC14.out _)))
        go_wp2
        go_ret
        exact ⟨rfl, HBe.out ▸ (Turned.drewN (Turned.of_below HB.out) nq).below⟩
    · have hcb : (cx == xc) = false := by simpa using g1
      have hd1 : decide (0 ≤ xc) = true := by simpa using g0
      have hres : (decide (0 ≤ xc) && decide (cx = xc) && decide (0 ≤ xi) && decide (xi < slotsC xc)) = false := by rw [decide_eq_false g1]; simp
      rw [hres]
      clear g1 g0 hres
      have r0 := HRs.out.c0
      have r1 := HRs.out.c1
      have r2 := HRs.out.c2
      simp only at r0 r1 r2
      have HC14 : Hid (∀ nn, Calls Tryd.prog 14 #[.pointer (some ⟨br, 0, none⟩), .int .i64 xe] ((w.alloc (.cells #[.int .i64 xe, .int .i64 xc, .int .i64 xi] 24)).drewN nn) fun ee w'' => ee = .returned (.int .i64 cx) ∧ w'' = (w.alloc (.cells #[.int .i64 xe, .int .i64 xc, .int .i64 xi] 24)).drewN nn) := fun nn => C14.out _ (HR.out.calm ((Turned.refl [] _).drewN nn))
      clear hcx C14
      go_enter Tryd.func33, Tryd.ntmps33
      go_upto_region 1 with fail
      generalize w.alloc (.cells #[.int .i64 xe, .int .i64 xc, .int .i64 xi] 24) = w1 at *
      obtain ⟨B, hBe⟩ : ∃ B, w.heap.size = B := ⟨_, rfl⟩
      rw [hBe] at r0 r1 r2
      rw [hBe]
      have HBe := Lib.hid hBe
      clear hBe
      go_quiet ((go_at_call 14; exact Calls.quiet_of_same (HC14.out _)))
      go_wp2
      go_ret
      exact ⟨rfl, HBe.out ▸ (Turned.drewN (Turned.of_below HB.out) nq).below⟩
  · have hd1 : decide (0 ≤ xc) = false := by simpa using g0
    have hres : (decide (0 ≤ xc) && decide (cx = xc) && decide (0 ≤ xi) && decide (xi < slotsC xc)) = false := by rw [hd1]; simp
    rw [hres]
    clear g0 hres
    have r0 := HRs.out.c0
    have r1 := HRs.out.c1
    have r2 := HRs.out.c2
    simp only at r0 r1 r2
    have HC14 : Hid (∀ nn, Calls Tryd.prog 14 #[.pointer (some ⟨br, 0, none⟩), .int .i64 xe] ((w.alloc (.cells #[.int .i64 xe, .int .i64 xc, .int .i64 xi] 24)).drewN nn) fun ee w'' => ee = .returned (.int .i64 cx) ∧ w'' = (w.alloc (.cells #[.int .i64 xe, .int .i64 xc, .int .i64 xi] 24)).drewN nn) := fun nn => C14.out _ (HR.out.calm ((Turned.refl [] _).drewN nn))
    clear hcx C14
    go_enter Tryd.func33, Tryd.ntmps33
    go_upto_region 1 with fail
    generalize w.alloc (.cells #[.int .i64 xe, .int .i64 xc, .int .i64 xi] 24) = w1 at *
    obtain ⟨B, hBe⟩ : ∃ B, w.heap.size = B := ⟨_, rfl⟩
    rw [hBe] at r0 r1 r2
    rw [hBe]
    have HBe := Lib.hid hBe
    clear hBe
    go_quiet ((go_at_call 14; exact Calls.quiet_of_same (HC14.out _)))
    go_wp2
    go_ret
    exact ⟨rfl, HBe.out ▸ (Turned.drewN (Turned.of_below HB.out) nq).below⟩
end Go.Proofs.YtaikapgpkkpdjaaDoor.L
