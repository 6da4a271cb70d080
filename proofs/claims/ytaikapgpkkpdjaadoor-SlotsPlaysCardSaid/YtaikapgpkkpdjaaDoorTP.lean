/- Slots: the document's: an extent is laid anew; what comes due. -/
import Derived.Test.YtaikapgpkkpdjaaDoorTO
namespace Go.Proofs.YtaikapgpkkpdjaaDoor.L
open Go.ChangeShapes Go.WideShapes Go.ChangeAt Go.RowKit Go.Maps Go.Proofs.YtaikapgpkkpdjaaDoor.G Go.Sort Go.Shelf Go.Lib Go.Deep
set_option linter.unusedVariables false
set_option linter.unusedSimpArgs false

variable {w w' : World} {br bL n cap : Nat} {pg : Int} {rx : Nat → RX}
/-- the three cells of an extent -/
def setX (w : World) (bL e : Nat) (r : RX) : World := ((w.setCell ⟨bL, e * 3, none⟩ (.int .i64 r.cls)).setCell ⟨bL, e * 3 + 1, none⟩ (svOf r.sb r.K)).setCell ⟨bL, e * 3 + 2, none⟩ (svOf r.eb r.K)
theorem setX_turned (w : World) (bL e : Nat) (r : RX) : Turned [bL] w (setX w bL e r) := (((Turned.refl [bL] w).setCell (.inl (by simp)) _).setCell (.inl (by simp)) _).setCell (.inl (by simp)) _
theorem RefAt.setX (h : RefAt w br bL n cap pg rx) (e : Nat) (he : e < n) (r : RX) (hn : numRX r) (hr : rowRX w r)
    (ho : r.K ≠ 0 → (r.sb ≠ br ∧ r.sb ≠ bL) ∧ (r.eb ≠ br ∧ r.eb ≠ bL) ∧ r.sb ≠ r.eb)
    (hd : ∀ j, j < n → j ≠ e → r.K ≠ 0 → (rx j).K ≠ 0 → r.sb ≠ (rx j).sb ∧ r.sb ≠ (rx j).eb ∧ r.eb ≠ (rx j).eb ∧ r.eb ≠ (rx j).sb) :
    RefAt (setX w bL e r) br bL n cap pg (updR rx e r) := by
  have t := setX_turned w bL e r
  have hb := h.nbr
  refine ⟨t.cell h.page (by simpa using hb), t.cell h.exts (by simpa using hb), fun h0 => ((((h.row h0).set (e * 3) _).set (e * 3 + 1) _).set (e * 3 + 2) _).congr (fun j hj => ?_), fun i hi => ?_, fun i hi => ?_, fun i hi hk => ?_, fun i j hi hj hij h1 h2 => ?_, h.nbr, h.few⟩
  · by_cases hje : j / 3 = e
    · have h3 : j = e * 3 ∨ j = e * 3 + 1 ∨ j = e * 3 + 2 := by omega
      rcases h3 with rfl | rfl | rfl
      · rw [cellRX_0, updR_same, if_neg (by omega), if_neg (by omega), if_pos rfl]
      · rw [cellRX_1, updR_same, if_neg (by omega), if_pos rfl]
      · rw [cellRX_2, updR_same, if_pos rfl]
    · rw [if_neg (by omega), if_neg (by omega), if_neg (by omega)]
      unfold cellRX
      rw [updR_ne hje]
  · by_cases hie : i = e
    · subst hie
      rw [updR_same]
      exact hr.keptS t (fun hk => by have := (ho hk).1.2; simpa using this) (fun hk => by have := (ho hk).2.1.2; simpa using this)
    · rw [updR_ne hie]
      exact (h.cells i hi).keptS t (fun hk => by have := (h.own i hi hk).1.2; simpa using this) (fun hk => by have := (h.own i hi hk).2.1.2; simpa using this)
  · by_cases hie : i = e
    · subst hie; rw [updR_same]; exact hn
    · rw [updR_ne hie]; exact h.num i hi
  · by_cases hie : i = e
    · subst hie; rw [updR_same] at hk ⊢; exact ho hk
    · rw [updR_ne hie] at hk ⊢; exact h.own i hi hk
  · by_cases hie : i = e
    · subst hie
      rw [updR_same] at h1 ⊢
      rw [updR_ne (Ne.symm hij)] at h2 ⊢
      have := hd j hj (Ne.symm hij) h1 h2
      exact ⟨this.1, this.2.1, this.2.2.1⟩
    · rw [updR_ne hie] at h1 ⊢
      by_cases hje : j = e
      · subst hje
        rw [updR_same] at h2 ⊢
        have := hd i hi hie h2 h1
        exact ⟨fun e => this.1 e.symm, fun e => this.2.2.2 e.symm, fun e => this.2.2.1 e.symm⟩
      · rw [updR_ne hje] at h2 ⊢
        exact h.dis i j hi hj hij h1 h2

/-- does a slot come due? -/
def dueB (r : RX) (ep k : Nat) : Bool := decide (r.st k = 2) && decide (r.ep k ≤ ep)
def dueS (r : RX) (ep k : Nat) : RX := { r with st := fun j => if j < k ∧ dueB r ep j = true then 0 else r.st j }
def someS (r : RX) (ep k : Nat) : Bool := (List.range k).any fun j => !dueB r ep j && decide (r.st j ≠ 0)
def outS (r : RX) (ep i k : Nat) : List Slot := ((List.range k).filter fun j => dueB r ep j).map fun (j : Nat) => ⟨i, r.cls, j⟩
def dueX1 (r : RX) (ep : Nat) : RX := if someS r ep r.K then dueS r ep r.K else freeX
def dueRx (rx : Nat → RX) (ep ii : Nat) : Nat → RX := fun j => if j < ii then dueX1 (rx j) ep else rx j
def dueOut (rx : Nat → RX) (ep ii : Nat) : List Slot := (List.range ii).flatMap fun i => outS (rx i) ep i (rx i).K
theorem outS_succ (r : RX) (ep i k : Nat) : outS r ep i (k + 1) = outS r ep i k ++ if dueB r ep k then [⟨i, r.cls, k⟩] else [] := by
  unfold outS
  rw [List.range_succ, List.filter_append, List.map_append]
  cases h : dueB r ep k
  · rw [List.filter_cons_of_neg (by simpa using h)]; rfl
  · rw [List.filter_cons_of_pos h]; rfl
theorem dueOut_succ (rx : Nat → RX) (ep ii : Nat) : dueOut rx ep (ii + 1) = dueOut rx ep ii ++ outS (rx ii) ep ii (rx ii).K := by
  unfold dueOut
  rw [List.range_succ, List.flatMap_append]
  simp
theorem someS_succ (r : RX) (ep k : Nat) : someS r ep (k + 1) = (someS r ep k || (!dueB r ep k && decide (r.st k ≠ 0))) := by
  unfold someS
  rw [List.range_succ, List.any_append]
  simp
theorem dueS_zero (r : RX) (ep : Nat) : dueS r ep 0 = r := by
  unfold dueS
  have : (fun j => if j < 0 ∧ dueB r ep j = true then 0 else r.st j) = r.st := by funext j; rw [if_neg (by omega)]
  rw [this]
theorem dueS_no {r : RX} {ep k : Nat} (h : dueB r ep k = false) : dueS r ep (k + 1) = dueS r ep k := by
  unfold dueS
  have : (fun j => if j < k + 1 ∧ dueB r ep j = true then 0 else r.st j) = (fun j => if j < k ∧ dueB r ep j = true then 0 else r.st j) := by
    funext j
    by_cases hj : j = k
    · subst hj; rw [if_neg (by simp [h]), if_neg (by omega)]
    · by_cases hd : dueB r ep j = true
      · by_cases hl : j < k
        · rw [if_pos ⟨by omega, hd⟩, if_pos ⟨hl, hd⟩]
        · rw [if_neg (by omega), if_neg (by omega)]
      · rw [if_neg (by simp [hd]), if_neg (by simp [hd])]
  rw [this]
theorem dueS_yes {r : RX} {ep k : Nat} (h : dueB r ep k = true) : dueS r ep (k + 1) = { dueS r ep k with st := setF (dueS r ep k).st k 0 } := by
  unfold dueS setF
  have : (fun j => if j < k + 1 ∧ dueB r ep j = true then 0 else r.st j) = (fun j => if j = k then 0 else if j < k ∧ dueB r ep j = true then 0 else r.st j) := by
    funext j
    by_cases hj : j = k
    · subst hj; rw [if_pos ⟨by omega, h⟩, if_pos rfl]
    · rw [if_neg hj]
      by_cases hd : dueB r ep j = true
      · by_cases hl : j < k
        · rw [if_pos ⟨by omega, hd⟩, if_pos ⟨hl, hd⟩]
        · rw [if_neg (by omega), if_neg (by omega)]
      · rw [if_neg (by simp [hd]), if_neg (by simp [hd])]
  simp only [this]
theorem updR_updR (rx : Nat → RX) (e : Nat) (r r' : RX) : updR (updR rx e r) e r' = updR rx e r' := by
  funext j; unfold updR; split <;> rfl
theorem updR_self (rx : Nat → RX) (e : Nat) : updR rx e (rx e) = rx := by
  funext j; unfold updR; split
  · next h => rw [h]
  · rfl
theorem dueRx_ge (rx : Nat → RX) (ep : Nat) {ii j : Nat} (h : ii ≤ j) : dueRx rx ep ii j = rx j := if_neg (by omega)
theorem dueRx_succ (rx : Nat → RX) (ep ii : Nat) : dueRx rx ep (ii + 1) = updR (dueRx rx ep ii) ii (dueX1 (rx ii) ep) := by
  funext j
  unfold dueRx updR
  by_cases h : j = ii
  · subst h; rw [if_pos (by omega), if_pos rfl]
  · by_cases hl : j < ii
    · rw [if_pos (by omega), if_neg h]; exact (if_pos hl).symm
    · rw [if_neg (by omega), if_neg h]; exact (if_neg hl).symm
theorem outS_len (r : RX) (ep i k : Nat) : (outS r ep i k).length ≤ k := by
  unfold outS
  rw [List.length_map]
  exact Nat.le_trans (List.length_filter_le _ _) (by simp)
theorem dueOut_len (h : RefAt w br bL n cap pg rx) (ep : Nat) : ∀ ii, ii ≤ n → (dueOut rx ep ii).length ≤ ii * 64
  | 0, _ => by simp [dueOut]
  | ii + 1, hi => by
    rw [dueOut_succ, List.length_append]
    have h1 := dueOut_len h ep ii (by omega)
    have h2 := outS_len (rx ii) ep ii (rx ii).K
    have h3 := (h.num ii (by omega)).k64
    omega
/-- the blocks after a part of Due are blocks of before -/
theorem dueRx_blk {ep ii k : Nat} {b : Nat} (h : RBlk br bL n (updR (dueRx rx ep ii) ii (dueS (rx ii) ep k)) b) : RBlk br bL n rx b := by
  rcases h with h | h | ⟨i, hi, hK, e⟩
  · exact .inl h
  · exact .inr (.inl h)
  · refine .inr (.inr ⟨i, hi, ?_⟩)
    by_cases hii : i = ii
    · subst hii; rw [updR_same] at hK e; exact ⟨hK, e⟩
    · rw [updR_ne hii] at hK e
      unfold dueRx at hK e
      by_cases hl : i < ii
      · rw [if_pos hl] at hK e
        unfold dueX1 at hK e
        cases hs : someS (rx i) ep (rx i).K
        · rw [hs] at hK; exact absurd rfl hK
        · rw [hs] at hK e; exact ⟨hK, e⟩
      · rw [if_neg hl] at hK e; exact ⟨hK, e⟩

structure DueIn (w wr : World) (br bL n cap : Nat) (pg : Int) (rx0 rx : Nat → RX) (v : Value) (xs : List Slot) : Prop where
  ref : RefAt wr br bL n cap pg rx
  own : wr.ownsRow w.heap.size 24 3 v xs.length (flat xs)
  chg : OwnR br bL n rx0 w wr
  siz : w.heap.size ≤ wr.heap.size
end Go.Proofs.YtaikapgpkkpdjaaDoor.L
