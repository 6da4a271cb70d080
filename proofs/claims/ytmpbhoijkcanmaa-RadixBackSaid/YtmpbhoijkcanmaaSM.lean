/- Radix: a law's forest, with the pages and the map that it keeps. -/
import Derived.Test.YtmpbhoijkcanmaaSK
namespace Go.Proofs.Ytmpbhoijkcanmaa.R
open Go.ChangeShapes Go.WideShapes Go.ChangeAt Go.RowKit Go.Maps Go.Proofs.Ytmpbhoijkcanmaa.G
set_option linter.unusedVariables false
set_option linter.unusedSimpArgs false
set_option linter.unnecessarySimpa false

variable {F G : Fo} {w ww w' : World} {L f bm : Nat} {pv : Value} {ps : List Nat} {M : List (Int × Value)} {ex : List (Value × List Pr)}
/-- a block beside a forest is another one -/
theorem LK.put1 {K1 K3 : List (Nat × Obj)} {b : Nat} {o o' : Obj} (h : LK w ww f F L (K1 ++ [(b, o)] ++ K3)) (hb : w.heap.size ≤ b) (t : Turned [b] ww w') (ho : w'.heap[b]? = some o') : LK w w' f F L (K1 ++ [(b, o')] ++ K3) := by
  have hnd := h.2
  have hk : keysK (K1 ++ [(b, o')] ++ K3) = keysK (K1 ++ [(b, o)] ++ K3) := by simp [keysK]
  refine ⟨h.1.turn t (fun c hc => ?_) fun x hx => ?_, by rw [hk]; exact hnd⟩
  · simp only [List.mem_singleton] at hc; subst hc
    exact ⟨hb, by simp [keysK]⟩
  · by_cases e : x.1 = b
    · have : x = (b, o') := by
        have hx' := hx
        rw [List.append_assoc, List.mem_append] at hx
        unfold keysK at hnd
        rw [List.append_assoc, List.map_append, List.nodup_append] at hnd
        obtain ⟨n1, n2, d⟩ := hnd
        rcases hx with hx | hx
        · exact absurd rfl (d x.1 (List.mem_map_of_mem hx) b (by simp) |> fun h => by rw [e] at h; exact h)
        · rcases List.mem_cons.1 hx with hx | hx
          · exact hx
          · simp only [List.cons_append, List.nil_append, List.map_cons, List.nodup_cons] at n2
            have hx3 : x ∈ K3 := hx
            exact absurd (e ▸ (List.mem_map_of_mem (f := fun y : Nat × Obj => y.1) hx3)) n2.1
      rw [this]
      exact ⟨ho, .inr (by simp [keysK])⟩
    · have hx0 : x ∈ K1 ++ [(b, o)] ++ K3 := by
        rcases List.mem_append.1 hx with hx | hx
        · rcases List.mem_append.1 hx with hx | hx
          · simp [hx]
          · simp only [List.mem_singleton] at hx; exact absurd (by rw [hx]) e
        · simp [hx]
      exact ⟨t.at (h.1.at hx0) (by simpa using e), .inr (mem_keysK.2 ⟨x.2, hx0⟩)⟩
/-- the pages, the map, and rows of entries, in memory -/
def StO (w ww : World) (f L : Nat) (F : Fo) (pv : Value) (ps : List Nat) (bm : Nat) (M : List (Int × Value)) (ex : List (Value × List Pr)) : Prop :=
  ∃ K1 o K3, LK w ww f F L (K1 ++ [(bm, o)] ++ K3) ∧ RowO K1 w.heap.size 3 1 pv ps.length (ps.map encR) ∧ w.heap.size ≤ bm ∧ MapIs Try.prog 3 encI ww bm M ∧ ∀ x ∈ ex, RowK K3 w.heap.size 43 5 x.1 x.2.length (flatP x.2)
theorem at_some {w : World} {b : Nat} (h : b < w.heap.size) : ∃ o, w.heap[b]? = some o := ⟨_, Array.getElem?_eq_getElem h⟩
theorem LK.far {K : List (Nat × Obj)} {b : Nat} {o : Obj} (h : LK w ww f F L K) (hb : (b, o) ∈ K) : ww.heap[b]? = some o := h.1.at hb
theorem StO.calm (h : StO w ww f L F pv ps bm M ex) (b : Below ww.heap.size ww w') : StO w w' f L F pv ps bm M ex := by
  obtain ⟨K1, o, K3, h1, h2, h3, h4, h5⟩ := h
  exact ⟨K1, o, K3, h1.calm b, h2, h3, h4.turned (Turned.of_below b) (by simp), h5⟩
theorem StO.alloc (h : StO w ww f L F pv ps bm M ex) (o : Obj) : StO w (ww.alloc o) f L F pv ps bm M ex := h.calm ((Turned.refl [] ww).alloc o).below
theorem StO.drewN (h : StO w ww f L F pv ps bm M ex) (n : Nat) : StO w (ww.drewN n) f L F pv ps bm M ex := h.calm ((Turned.refl [] ww).drewN n).below
theorem StO.drew (h : StO w ww f L F pv ps bm M ex) : StO w ww.drew f L F pv ps bm M ex := h.calm (Turned.refl [] ww).drew.below
theorem StO.lv (h : StO w ww f L F pv ps bm M ex) : ∃ K, LV w ww f F L K := by
  obtain ⟨K1, o, K3, h1, _⟩ := h
  exact ⟨_, h1.1⟩
theorem StO.bel (h : StO w ww f L F pv ps bm M ex) : Below w.heap.size w ww := by
  obtain ⟨K, h1⟩ := h.lv
  exact h1.bel
theorem StO.base (h : StO w ww f L F pv ps bm M ex) : w.heap.size ≤ bm := by
  obtain ⟨K1, o, K3, h1, h2, h3, h4, h5⟩ := h
  exact h3
theorem StO.ok (h : StO w ww f L F pv ps bm M ex) : Ok F L := by
  obtain ⟨K, h1⟩ := h.lv
  exact h1.ok
theorem StO.map (h : StO w ww f L F pv ps bm M ex) : MapIs Try.prog 3 encI ww bm M := by
  obtain ⟨K1, o, K3, h1, h2, h3, h4, h5⟩ := h
  exact h4
theorem StO.start (h : LV w ww f fo0 0 []) : StO w (ww.alloc (.map #[] 0)) f 0 fo0 (.slice none 0 0) [] ww.heap.size [] [] :=
  ⟨[], .map #[] 0, [], ⟨by simpa using h.put (.map #[] 0), by simp [keysK]⟩, RowO.nil _ _ _, h.bel.size, MapIs.made ww, by simp⟩
theorem StO.row (h : StO w ww f L F pv ps bm M ex) : ww.ownsRow w.heap.size 3 1 pv ps.length (ps.map encR) := by
  obtain ⟨K1, o, K3, h1, h2, h3, h4, h5⟩ := h
  exact (h2.row.mono (K' := K1 ++ [(bm, o)] ++ K3) fun x hx => by simp [hx]).at h1.1
theorem StO.rowX (h : StO w ww f L F pv ps bm M ex) {v : Value} {c : List Pr} (hx : (v, c) ∈ ex) : ww.ownsRow w.heap.size 43 5 v c.length (flatP c) := by
  obtain ⟨K1, o, K3, h1, h2, h3, h4, h5⟩ := h
  exact ((h5 _ hx).mono (K' := K1 ++ [(bm, o)] ++ K3) fun x hx => by simp [hx]).at h1.1
theorem StO.less {ex' : List (Value × List Pr)} (h : StO w ww f L F pv ps bm M ex) (hs : ∀ x, x ∈ ex' → x ∈ ex) : StO w ww f L F pv ps bm M ex' := by
  obtain ⟨K1, o, K3, h1, h2, h3, h4, h5⟩ := h
  exact ⟨K1, o, K3, h1, h2, h3, h4, fun x hx => h5 x (hs x hx)⟩
theorem StO.of_lv (h : StO w ww f L F pv ps bm M ex) {G : Fo} {L' : Nat} (hs : ∀ K, LV w ww f F L K → LV w w' f G L' K) : StO w w' f L' G pv ps bm M ex := by
  obtain ⟨K1, o, K3, h1, h2, h3, h4, h5⟩ := h
  have h' := hs _ h1.1
  have e1 := h1.1.at (x := (bm, o)) (by simp)
  have e2 := h'.at (x := (bm, o)) (by simp)
  exact ⟨K1, o, K3, ⟨h', h1.2⟩, h2, h3, h4.kept (by rw [e1, e2]), h5⟩
theorem StO.set (h : StO w ww f L F pv ps bm M ex) (hL : L ≤ 2 ^ 34) {r pg : Nat} (hr : isB F (r : Int) = true) (hpg : pg < 4096) (x : Ent) (hx : x.ok) :
    Calls Try.prog 12 #[.pointer (some ⟨f, 0, none⟩), .int .i64 (r : Nat), .int .i64 (pg : Nat), encE x] ww fun e w' => e = .returned (.tuple #[.int .i64 ((setF F r pg (.set 0 x)).2 : Nat), .int .i64 0]) ∧ StO w w' f (L + 3) (setF F r pg (.set 0 x)).1 pv ps bm M ex := by
  obtain ⟨K1, o, K3, h1, h2, h3, h4, h5⟩ := id h
  refine (set_lv h1.1 hL hr hpg x hx).mono fun e w' ⟨e1, e2⟩ => ⟨e1, K1, o, K3, ⟨e2, h1.2⟩, h2, h3, h4.kept ?_, h5⟩
  rw [h1.1.at (x := (bm, o)) (by simp), e2.at (x := (bm, o)) (by simp)]
theorem StO.clear (h : StO w ww f L F pv ps bm M ex) (hL : L ≤ 2 ^ 34) {r pg : Nat} (hr : isB F (r : Int) = true) (hpg : pg < 4096) :
    Calls Try.prog 16 #[.pointer (some ⟨f, 0, none⟩), .int .i64 (r : Nat), .int .i64 (pg : Nat)] ww fun e w' => e = .returned (.tuple #[.int .i64 ((clearF F r pg).2 : Nat), .int .i64 0]) ∧ StO w w' f (L + 3) (clearF F r pg).1 pv ps bm M ex := by
  obtain ⟨K1, o, K3, h1, h2, h3, h4, h5⟩ := id h
  refine (clear_lv h1.1 hL hr hpg).mono fun e w' ⟨e1, e2⟩ => ⟨e1, K1, o, K3, ⟨e2, h1.2⟩, h2, h3, h4.kept ?_, h5⟩
  rw [h1.1.at (x := (bm, o)) (by simp), e2.at (x := (bm, o)) (by simp)]
theorem StO.all (h : StO w ww f L F pv ps bm M ex) (hL : L ≤ 2 ^ 34) {r : Nat} (hr : isB F (r : Int) = true) :
    Calls Try.prog 13 #[.pointer (some ⟨f, 0, none⟩), .int .i64 (r : Nat)] ww fun e w' => ∃ v, e = .returned v ∧ w'.ownsRow ww.heap.size 43 5 v (mapL F r).length (flatP (mapL F r)) ∧ Below ww.heap.size ww w' ∧ StO w w' f L F pv ps bm M ((v, mapL F r) :: ex) := by
  obtain ⟨K1, o, K3, h1, h2, h3, h4, h5⟩ := h
  refine (all_lv h1.1 hL hr).mono fun e w' ⟨v, e1, e2, e3⟩ => ?_
  have e2 : w'.ownsRow ww.heap.size 43 5 v (mapL F r).length (flatP (mapL F r)) := e2
  refine ⟨v, e1, e2, e3, ?_⟩
  generalize mapL F r = c at *
  obtain ⟨K4, k1, k2⟩ := h1.row e3 e2
  refine ⟨K1, o, K4 ++ K3, k1.perm ?_, h2, h3, h4.turned (Turned.of_below e3) (by simp), ?_⟩
  · have := (List.perm_append_comm (l₁ := K4) (l₂ := K1 ++ [(bm, o)])).append_right K3
    simpa only [List.append_assoc] using this
  · intro x hx
    rcases List.mem_cons.1 hx with e | hx
    · rw [e]; exact k2.row.mono fun y hy => List.mem_append.2 (.inl hy)
    · exact (h5 x hx).mono fun y hy => List.mem_append.2 (.inr hy)
theorem StO.app (h : StO w ww f L F pv ps bm M ex) {o : Obj} {v' : Value} {r : Nat} (ho : w'.ownsRow w.heap.size 3 1 v' (ps.length + 1) (ps.map encR ++ [encR r])) (hg : (ww.alloc o).grownBy w' pv.ownBlock) (hb : v'.ownBlock = pv.ownBlock ∨ v'.ownBlock = some (ww.heap.size + 1)) : StO w w' f L F v' (ps ++ [r]) bm M ex := by
  obtain ⟨K1, o', K3, h1, h2, h3, h4, h5⟩ := h
  have h1' : LK w ww f F L ([] ++ K1 ++ ([(bm, o')] ++ K3)) := by simpa using h1
  obtain ⟨K1', k1, k2⟩ := h1'.grow h2 hg ho (by rw [World.size_alloc]; exact hb)
  have k1 : LK w w' f F L (K1' ++ [(bm, o')] ++ K3) := by simpa using k1
  refine ⟨K1', o', K3, k1, by simpa using k2, h3, h4.kept ?_, h5⟩
  rw [h1.1.at (x := (bm, o')) (by simp), k1.1.at (x := (bm, o')) (by simp)]
theorem StO.put (h : StO w ww f L F pv ps bm M ex) {M' : List (Int × Value)} (t : Turned [bm] ww w') (hm : MapIs Try.prog 3 encI w' bm M') : StO w w' f L F pv ps bm M' ex := by
  obtain ⟨K1, o, K3, h1, h2, h3, h4, h5⟩ := h
  obtain ⟨o', ho'⟩ := at_some hm.lt
  exact ⟨K1, o', K3, h1.put1 h3 t ho', h2, h3, hm, h5⟩
/-- other pages -/
theorem StO.fresh (h : StO w ww f L F pv ps bm M ex) (b : Below ww.heap.size ww w') {v' : Value} {ps' : List Nat} (ho : w'.ownsRow ww.heap.size 3 1 v' ps'.length (ps'.map encR)) : StO w w' f L F v' ps' bm M ex := by
  obtain ⟨K1, o, K3, h1, h2, h3, h4, h5⟩ := h
  obtain ⟨K4, k1, k2⟩ := h1.row b ho
  have hm := h4.turned (Turned.of_below b) (by simp)
  have k3 : LK w w' f F L (K1 ++ (K4 ++ [(bm, o)] ++ K3)) := k1.perm (by
    have := (List.perm_append_comm (l₁ := K4) (l₂ := K1)).append_right ([(bm, o)] ++ K3)
    simpa only [List.append_assoc] using this)
  refine ⟨K4, o, K3, ⟨k3.1.sub fun x hx => List.mem_append.2 (.inr hx), ?_⟩, k2, h3, hm, h5⟩
  have := k3.2
  unfold keysK at this ⊢
  rw [List.map_append, List.nodup_append] at this
  exact this.2.1
end Go.Proofs.Ytmpbhoijkcanmaa.R
