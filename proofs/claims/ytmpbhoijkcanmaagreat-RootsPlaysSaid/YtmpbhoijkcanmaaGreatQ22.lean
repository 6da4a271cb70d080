/- Maps of pages, and versions of them: lemmas, part 22 of 23. -/
import Derived.Deep.CutBlock
import Derived.Test.YtmpbhoijkcanmaaGreatQ21

/- Versions of both kinds side by side: the law's walk. -/
namespace Go.Proofs.YtmpbhoijkcanmaaGreat.R
open Go.ChangeShapes Go.WideShapes Go.ChangeAt Go.RowKit Go.Maps Go.Proofs.YtmpbhoijkcanmaaGreat.G Go.Joins
set_option linter.unusedVariables false
set_option linter.unusedSimpArgs false
set_option linter.unnecessarySimpa false

variable {w ww w' : World} {rb xb mx last L T n : Nat} {R : Ro} {F : Fo} {Kx K : List (Nat × Obj)} {f mb : Nat} {mo : Obj} {blk : Nat → Nat} {E : List XE} {e : XE}
/-- between two rounds -/
def PlW (w wr : World) (rb xb i : Nat) : Prop := ∃ L R F T last E, XSt w wr rb L R F xb last E ∧ Rl R F L T last E ∧ L ≤ 200 * i ∧ T ≤ i ∧ last + esum E ≤ i
theorem PlW.next {wr : World} {i L T last : Nat} {E : List XE} (hL : L ≤ 200 * i) (hT : T ≤ i) (hs : last + esum E ≤ i) (h : doesIs w rb xb L T last E wr) : PlW w wr rb xb (i + 1) := by
  obtain ⟨L', R', F', T', last', E', h1, h2, h3, h4, h5⟩ := h
  exact ⟨L', R', F', T', last', E', h1, h2, by omega, by omega, by omega⟩
/-- what is read of both, wherever nothing changed -/
structure RdS (wv : World) (rb xb nw : Nat) (P : Nat → Prop) (C : Slot → Prop) : Prop where
  now : ∀ ww, Below wv.heap.size wv ww → Calls Tryz.prog 9 #[.pointer (some ⟨rb, 0, none⟩)] ww fun e w' => e = .returned (.int .u64 (nw : Nat)) ∧ ww = w'
  last : ∀ ww, Below wv.heap.size wv ww → ww.cell? ⟨xb, 1, none⟩ = some (.int .u64 (nw : Nat))
  rv : ∀ ww, Below wv.heap.size wv ww → Calls Tryz.prog 11 #[.pointer (some ⟨rb, 0, none⟩)] ww (numsPost P ww)
  xv : ∀ ww, Below wv.heap.size wv ww → Calls Tryz.prog 12 #[.pointer (some ⟨xb, 0, none⟩)] ww (numsPost P ww)
  rs : ∀ ww, Below wv.heap.size wv ww → Calls Tryz.prog 14 #[.pointer (some ⟨rb, 0, none⟩)] ww fun e w' => ∃ a len cap zs, e = .returned (.slice a len cap) ∧ SlotsIs C zs ∧ Sl3s w' a len zs ∧ len ≤ maxLen ∧ Below ww.heap.size ww w'
  xs : ∀ ww, Below wv.heap.size wv ww → Calls Tryz.prog 15 #[.pointer (some ⟨xb, 0, none⟩)] ww fun e w' => ∃ a len cap zs, e = .returned (.slice a len cap) ∧ SlotsIs C zs ∧ Sl3s w' a len zs ∧ len ≤ maxLen ∧ Below ww.heap.size ww w'
theorem numsPost.cong {P Q : Nat → Prop} {e : Ending} (h : numsPost P ww e w') (hc : ∀ m, P m ↔ Q m) : numsPost Q ww e w' := by
  obtain ⟨a, n, cap, zs, h1, h2, h3⟩ := h
  exact ⟨a, n, cap, zs, h1, ⟨fun m => (h2.mem m).trans (hc m), h2.rises⟩, h3⟩
theorem rds {wv : World} {i : Nat} (hi : i ≤ 40) (h : XSt w wv rb L R F xb last E) (hx : Rl R F L T last E) (hL : L ≤ 200 * i) (hs : last + esum E ≤ i) : RdS wv rb xb last (fun k => k ∈ keysV R.vs) (HasS F) := by
  obtain ⟨mx, K, h1, h2, h3⟩ := h
  have hlen := hx.len
  obtain ⟨hf1, hf2⟩ := hx.few
  have hvs : R.vs.length < 22 := by omega
  have hv1 : 1 ≤ R.vs.length := by
    have := hx.ok.now
    unfold keysV at this
    have h5 := List.length_pos_of_mem this
    rw [List.length_map] at h5
    omega
  have hO := hx.xok (by omega)
  refine ⟨fun ww b => ?_, fun ww b => (h2.calm b).c1, fun ww b => ?_, fun ww b => ?_, fun ww b => ?_, fun ww b => ?_⟩
  · obtain ⟨f, mb, mo, blk, h4⟩ := h1.calm b
    rw [hx.last]
    exact rnow_fn h4
  · obtain ⟨f, mb, mo, blk, h4⟩ := h1.calm b
    exact rvers_fn h4 hv1 hvs
  · refine (xvers_fn (h2.calm b) (by omega)).mono fun e w' h => h.cong fun m => ?_
    rw [List.mem_map]
    constructor
    · rintro ⟨e, he, rfl⟩
      obtain ⟨v, hv, _⟩ := hx.fw e he
      exact vget_key hv
    · intro hm
      obtain ⟨e, he, hn⟩ := hx.bk m hm
      exact ⟨e, he, hn⟩
  · obtain ⟨f, mb, mo, blk, h4⟩ := h1.calm b
    refine (rslots_fn h4 (by omega)).mono fun e w' ⟨v, zs, e1, e2, e3, e4⟩ => ?_
    have hle := owns_le2 e3
    obtain ⟨a, cap, rfl, h5, _⟩ := sl3s_of_owns e3
    exact ⟨a, _, cap, zs, e1, e2, h5, hle, e4⟩
  · refine (xslots_fn (h2.calm b) hO.len hO.l).mono fun e w' ⟨v, zs, e1, e2, e3, e4⟩ => ?_
    have hle := owns_le2 e3
    obtain ⟨a, cap, rfl, h5, _⟩ := sl3s_of_owns e3
    exact ⟨a, _, cap, zs, e1, ⟨fun s => (e2.mem s).trans (hx.slots s).symm, e2.nodup, e2.sorted⟩, h5, hle, e4⟩
theorem PlW.start {w1 w2 : World} {rb xb mx b0 : Nat} (h : RtM w w1 rb 0 ro0 fo0 []) (hX : XAt w.heap.size w2 xb mx 0 [⟨0, b0, .slice none 0 0, [], 0⟩]) (hb : Below w1.heap.size w1 w2) (ho : ∀ c, xown xb mx [⟨0, b0, .slice none 0 0, [], 0⟩] c → w1.heap.size ≤ c) : PlW w w2 rb xb 0 := by
  obtain ⟨K', h1, h2⟩ := h.xch (w' := w2) ((Turned.of_below hb).mono fun _ _ h => by cases h) (fun b hb => by cases hb) (P := xown xb mx [⟨0, b0, .slice none 0 0, [], 0⟩]) (fun b hb => hX.own_lt hb) fun b hb => .inr (ho b hb)
  refine ⟨0, ro0, fo0, 0, 0, _, ⟨mx, K', h1, hX, h2⟩, ⟨ro0_ok, fo0_ok, rfl, by simp, fun e he => ?_, fun n hn => ?_⟩, by omega, by omega, Nat.le_refl 0⟩
  · simp only [List.mem_singleton] at he
    subst he
    refine ⟨⟨0, 0⟩, rfl, ?_, rfl⟩
    have h3 : mapL fo0 0 = allL (fun _ => none) 4096 := by
      unfold mapL
      exact allL_congr 4096 fun q _ => getL_zero _ _ _
    have h4 : mapL fo0 0 = [] := by rw [h3, allL_none]
    exact h4.symm
  · simp [ro0, keysV] at hn
    exact ⟨_, List.mem_singleton.2 rfl, hn.symm⟩
end Go.Proofs.YtmpbhoijkcanmaaGreat.R
