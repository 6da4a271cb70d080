/- Slots: the document's: what comes due, the walk. -/
import Derived.Test.YtaikapgpkkpdjaaDoorTP
namespace Go.Proofs.YtaikapgpkkpdjaaDoor.L
open Go.ChangeShapes Go.WideShapes Go.ChangeAt Go.RowKit Go.Maps Go.Proofs.YtaikapgpkkpdjaaDoor.G Go.Sort Go.Shelf Go.Lib Go.Deep
set_option linter.unusedVariables false
set_option linter.unusedSimpArgs false

variable {w w' : World} {br bL n cap : Nat} {pg : Int} {rx : Nat → RX}
def rduePost (br bL n cap : Nat) (pg : Int) (rx : Nat → RX) (ep : Nat) (w : World) (e : Ending) (w' : World) : Prop :=
  ∃ v, e = .returned v ∧ DueIn w w' br bL n cap pg rx (dueRx rx ep n) v (dueOut rx ep n)
def dueIR (rx : Nat → RX) (ep i k : Nat) : Nat → RX := updR (dueRx rx ep i) i (dueS (rx i) ep k)
theorem dueIR_at (rx : Nat → RX) (ep i k : Nat) : dueIR rx ep i k i = dueS (rx i) ep k := updR_same _ _ _
theorem OwnR.step {rx0 : Nat → RX} {w w2 w3 : World} (h : OwnR br bL n rx0 w w2) {S : List Nat} (t : Turned S w2 w3) (hS : ∀ b ∈ S, w.heap.size ≤ b ∨ RBlk br bL n rx0 b) : OwnR br bL n rx0 w w3 := by
  obtain ⟨T, h1, h2⟩ := h
  refine ⟨T ++ S.filter (fun b => decide (b < w.heap.size)), ?_, fun b hb => ?_⟩
  · refine ⟨t.os.trans h1.os, t.tape.trans h1.tape, t.output.trans h1.output, Nat.le_trans h1.size t.size, fun i hi hn => ?_⟩
    rw [List.mem_append, not_or, List.mem_filter] at hn
    have h3 : i ∉ S := fun hm => hn.2 ⟨hm, by simpa using hi⟩
    exact (t.block i (Nat.lt_of_lt_of_le hi h1.size) h3).trans (h1.block i hi hn.1)
  · rw [List.mem_append, List.mem_filter] at hb
    rcases hb with hb | ⟨hb, hl⟩
    · exact h2 b hb
    · rcases hS b hb with h | h
      · simp at hl; omega
      · exact h
/-- a slot comes due: its state is laid, the row grows -/
theorem DueIn.yes {w wr w4 : World} {v v' : Value} {i k ep : Nat} (h : DueIn w wr br bL n cap pg rx (dueIR rx ep i k) v (dueOut rx ep i ++ outS (rx i) ep i k)) (h0 : ∀ b, RBlk br bL n rx b → b < w.heap.size)
    (hi : i < n) (hk : k < (rx i).K) (hd : dueB (rx i) ep k = true) (o : Obj)
    (hown : w4.ownsRow w.heap.size 24 3 v' ((dueOut rx ep i ++ outS (rx i) ep i k).length + 1) (flat (dueOut rx ep i ++ outS (rx i) ep i k) ++ encL ⟨i, (rx i).cls, k⟩))
    (hg : ((wr.setCell ⟨(rx i).sb, k, none⟩ (.int .i64 0)).alloc o).grownBy w4 v.ownBlock) : DueIn w w4 br bL n cap pg rx (dueIR rx ep i (k + 1)) v' (dueOut rx ep i ++ outS (rx i) ep i (k + 1)) := by
  have hs := h.ref.setS i hi k (by rw [dueIR_at]; exact hk) 0 (by omega)
  have e1 : rxS (dueIR rx ep i k) i k 0 = dueIR rx ep i (k + 1) := by
    unfold rxS dueIR
    rw [updR_same, updR_updR, dueS_yes hd]
  rw [e1, dueIR_at] at hs
  have hab : ∀ k', v.ownBlock = some k' → w.heap.size ≤ k' := own_above h.own
  have t1 : Turned [(rx i).sb] wr (wr.setCell ⟨(rx i).sb, k, none⟩ (.int .i64 0)) := (Turned.refl [(rx i).sb] wr).setCell (.inl (by simp)) _
  have t2 : Turned v.ownBlock.toList (wr.setCell ⟨(rx i).sb, k, none⟩ (.int .i64 0)) w4 := (((Turned.refl [] _).alloc o).nil_mono).grown hg (fun k hk'' => .inl (by rw [hk'']; simp))
  have ha : ∀ b ∈ v.ownBlock.toList, w.heap.size ≤ b := by
    intro b hm
    cases e' : v.ownBlock with
    | none => rw [e'] at hm; simp at hm
    | some k' => rw [e'] at hm; simp at hm; have := hab k' e'; omega
  have hRb : RBlk br bL n rx (rx i).sb := .inr (.inr ⟨i, hi, by omega, .inl rfl⟩)
  refine ⟨hs.turned t2 (fun b hb hm => ?_), ?_, (h.chg.step t1 (fun b hb => by simp at hb; subst hb; exact .inr hRb)).step t2 (fun b hb => .inl (ha b hb)), Nat.le_trans h.siz (Nat.le_trans t1.size t2.size)⟩
  · have h1 := h0 b (dueRx_blk hb)
    have h2 := ha b hm
    omega
  · rw [outS_succ, if_pos hd, ← List.append_assoc, flat_snoc, List.length_append, List.length_append]
    rw [List.length_append] at hown
    exact hown
theorem DueIn.no {w wr : World} {v : Value} {i k ep : Nat} (h : DueIn w wr br bL n cap pg rx (dueIR rx ep i k) v (dueOut rx ep i ++ outS (rx i) ep i k)) (hd : dueB (rx i) ep k = false) :
    DueIn w wr br bL n cap pg rx (dueIR rx ep i (k + 1)) v (dueOut rx ep i ++ outS (rx i) ep i (k + 1)) := by
  rw [outS_succ, hd, show dueIR rx ep i (k + 1) = dueIR rx ep i k by unfold dueIR; rw [dueS_no hd]]
  simpa using h
theorem DueIn.start {w wr : World} {v : Value} {i ep : Nat} (h : DueIn w wr br bL n cap pg rx (dueRx rx ep i) v (dueOut rx ep i)) :
    DueIn w wr br bL n cap pg rx (dueIR rx ep i 0) v (dueOut rx ep i ++ outS (rx i) ep i 0) := by
  have e : outS (rx i) ep i 0 = [] := rfl
  have e2 : dueIR rx ep i 0 = dueRx rx ep i := by
    unfold dueIR
    rw [dueS_zero]
    have := updR_self (dueRx rx ep i) i
    rw [dueRx_ge rx ep (Nat.le_refl i)] at this
    exact this
  rw [e, e2, List.append_nil]
  exact h
theorem DueIn.some_ {w wr : World} {v : Value} {i ep : Nat} (h : DueIn w wr br bL n cap pg rx (dueIR rx ep i (rx i).K) v (dueOut rx ep i ++ outS (rx i) ep i (rx i).K)) (hs : someS (rx i) ep (rx i).K = true) :
    DueIn w wr br bL n cap pg rx (dueRx rx ep (i + 1)) v (dueOut rx ep (i + 1)) := by
  rw [dueRx_succ, dueOut_succ]
  unfold dueX1
  rw [if_pos hs]
  exact h
theorem DueIn.none_ {w wr : World} {v : Value} {i ep : Nat} (h : DueIn w wr br bL n cap pg rx (dueIR rx ep i (rx i).K) v (dueOut rx ep i ++ outS (rx i) ep i (rx i).K)) (h0 : ∀ b, RBlk br bL n rx b → b < w.heap.size) (hi : i < n) (hs : someS (rx i) ep (rx i).K = false) :
    DueIn w (setX wr bL i freeX) br bL n cap pg rx (dueRx rx ep (i + 1)) v (dueOut rx ep (i + 1)) := by
  have hnum : numRX freeX := ⟨⟨by decide, by decide⟩, .inl ⟨rfl, rfl⟩, fun j hj => absurd hj (Nat.not_lt_zero _), fun j hj => absurd hj (Nat.not_lt_zero _)⟩
  have h1 := h.ref.setX i hi freeX hnum (.inl rfl) (fun h => absurd rfl h) (fun _ _ _ h => absurd rfl h)
  have t := setX_turned wr bL i freeX
  have hRb : RBlk br bL n rx bL := .inr (.inl ⟨rfl, by omega⟩)
  have hlt := h0 _ hRb
  rw [dueRx_succ, dueOut_succ]
  unfold dueX1
  rw [hs, if_neg (by simp)]
  unfold dueIR at h1
  rw [updR_updR] at h1
  exact ⟨h1, owns_turned h.own t (by simp; omega), h.chg.step t (fun b hb => by simp at hb; subst hb; exact .inr hRb), Nat.le_trans h.siz t.size⟩
end Go.Proofs.YtaikapgpkkpdjaaDoor.L
