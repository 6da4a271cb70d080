/- Radix: a forest of the law's own beside other blocks: each call's contract; alive. -/
import Derived.Test.YtmpbhoijkcanmaaSA
import Derived.Deep.RegionHeld3
namespace Go.Proofs.Ytmpbhoijkcanmaa.R
open Go.ChangeShapes Go.WideShapes Go.ChangeAt Go.RowKit Go.Maps Go.Proofs.Ytmpbhoijkcanmaa.G
set_option linter.unusedVariables false
set_option linter.unusedSimpArgs false
set_option linter.unnecessarySimpa false

variable {F G : Fo} {w ww w' : World} {p : Pf} {L f : Nat} {K : List (Nat × Obj)}
/-- a forest that was made since a world; blocks beside it that it has no part in -/
def LV (w ww : World) (f : Nat) (F : Fo) (L : Nat) (K : List (Nat × Obj)) : Prop := ∃ p : Pf, p.f = f ∧ LW w ww p F L ∧ ∀ x ∈ K, ww.heap[x.1]? = some x.2 ∧ ¬ p.own F x.1
theorem LV.bel (h : LV w ww f F L K) : Below w.heap.size w ww := let ⟨_, _, h, _⟩ := h; h.bel
theorem LV.ok (h : LV w ww f F L K) : Ok F L := let ⟨_, _, h, _⟩ := h; h.ok
theorem LV.at (h : LV w ww f F L K) {x : Nat × Obj} (hx : x ∈ K) : ww.heap[x.1]? = some x.2 := let ⟨_, _, _, h⟩ := h; (h x hx).1
theorem LV.calm (h : LV w ww f F L K) (b : Below ww.heap.size ww w') : LV w w' f F L K := by
  obtain ⟨p, e, h1, h2⟩ := h
  exact ⟨p, e, h1.calm b, fun x hx => ⟨(Turned.of_below b).at (h2 x hx).1 (by simp), (h2 x hx).2⟩⟩
theorem LV.drew (h : LV w ww f F L K) (n : Nat) : LV w (ww.drewN n) f F L K := h.calm ((Turned.refl [] ww).drewN n).below
theorem LV.put (h : LV w ww f F L K) (o : Obj) : LV w (ww.alloc o) f F L ((ww.heap.size, o) :: K) := by
  obtain ⟨p, e, h1, h2⟩ := h
  refine ⟨p, e, h1.alloc o, fun x hx => ?_⟩
  rcases List.mem_cons.1 hx with rfl | hx
  · exact ⟨World.alloc_heap_new ww o, fun ho => by have := h1.fo.lt ho; omega⟩
  · exact ⟨((Turned.refl [] ww).alloc o).at (h2 x hx).1 (by simp), (h2 x hx).2⟩
theorem LV.step (h : LW w ww p F L) (hK : ∀ x ∈ K, ww.heap[x.1]? = some x.2 ∧ ¬ p.own F x.1) {p' : Pf} {L' : Nat} (o : FoOwn p F ww w') (hF : FoAt w' p' G) (m : Moved p p' F G ww) (k : Ok G L') : LV w w' p.f G L' K := by
  refine ⟨p', m.f, h.step o hF m k, fun x hx => ?_⟩
  obtain ⟨a, b⟩ := hK x hx
  obtain ⟨S, t, hS⟩ := o
  exact ⟨t.at a (fun hm => b (hS _ hm)), fun ho => by
    rcases m.own ho with h' | h'
    · exact b h'
    · have := lt_of_at a; omega⟩
theorem moved_same (hi : ∀ i, i ∈ G.ids → i ∈ F.ids) : Moved p p F G ww := ⟨rfl, rfl, rfl, rfl, fun _ _ => rfl, fun i h => .inl (hi i h)⟩
theorem set_lv (h : LV w ww f F L K) (hL : L ≤ 2 ^ 34) {r pg : Nat} (hr : isB F (r : Int) = true) (hpg : pg < 4096) (x : Ent) (hx : x.ok) :
    Calls Try.prog 12 #[.pointer (some ⟨f, 0, none⟩), .int .i64 (r : Nat), .int .i64 (pg : Nat), encE x] ww fun e w' => e = .returned (.tuple #[.int .i64 ((setF F r pg (.set 0 x)).2 : Nat), .int .i64 0]) ∧ LV w w' f (setF F r pg (.set 0 x)).1 (L + 3) K := by
  obtain ⟨p, rfl, h1, h2⟩ := h
  refine (set_fn h1.ok (by omega) hr hpg x hx ww h1.fo).mono fun e w' ⟨e1, ⟨p', e2, e3⟩, e4⟩ => ?_
  rw [setF_blk] at e1 e2 e3
  exact ⟨e1, LV.step h1 h2 e4 e2 e3 (setF_is h1.ok (by omega) (h1.ok.inv.root hr) hpg (.set 0 x) hx).ok⟩
theorem clear_lv (h : LV w ww f F L K) (hL : L ≤ 2 ^ 34) {r pg : Nat} (hr : isB F (r : Int) = true) (hpg : pg < 4096) :
    Calls Try.prog 16 #[.pointer (some ⟨f, 0, none⟩), .int .i64 (r : Nat), .int .i64 (pg : Nat)] ww fun e w' => e = .returned (.tuple #[.int .i64 ((clearF F r pg).2 : Nat), .int .i64 0]) ∧ LV w w' f (clearF F r pg).1 (L + 3) K := by
  obtain ⟨p, rfl, h1, h2⟩ := h
  exact (clear_fn h1.ok (by omega) hr hpg ww h1.fo).mono fun e w' ⟨e1, ⟨p', e2, e3⟩, e4⟩ => ⟨e1, LV.step h1 h2 e4 e2 e3 (clearF_is h1.ok (by omega) (h1.ok.inv.root hr) hpg).1⟩
theorem hold_lv (h : LV w ww f F L K) (hL : L ≤ 2 ^ 34) {r : Nat} (hr : isB F (r : Int) = true) :
    Calls Try.prog 20 #[.pointer (some ⟨f, 0, none⟩), .int .i64 (r : Nat)] ww fun e w' => e = .returned (.int .i64 0) ∧ LV w w' f (madeF F r) (L + 1) K := by
  obtain ⟨p, rfl, h1, h2⟩ := h
  exact (hold_fn h1.ok (by omega) hr ww h1.fo).mono fun e w' ⟨e1, e2, e3⟩ =>
    ⟨e1, LV.step h1 h2 e3 e2 (moved_same fun i hi => by rw [madeF_ids] at hi; exact hi) ⟨h1.ok.inv.made (h1.ok.inv.root hr) (.inl rfl), by rw [madeF_last]; have := h1.ok.last; omega, fun i => by rw [madeF_held]; have := h1.ok.held i; split <;> omega⟩⟩
theorem drop_lv (h : LV w ww f F L K) (hL : L ≤ 2 ^ 34) {r : Nat} (hr : isB F (r : Int) = true) :
    Calls Try.prog 18 #[.pointer (some ⟨f, 0, none⟩), .int .i64 (r : Nat)] ww fun e w' => ∃ (v : Value) (G : Fo) (ys : List Slot), e = .returned (.tuple #[v, .int .i64 0]) ∧ DropIs F L r G ys ∧ w'.ownsRow ww.heap.size 31 3 v ys.length (flat ys) ∧ LV w w' f G L K := by
  obtain ⟨p, rfl, h1, h2⟩ := h
  exact (drop_fn h1.ok (by omega) hr ww h1.fo).mono fun e w' ⟨v, G, ys, e1, e2, e3, e4, e5⟩ => ⟨v, G, ys, e1, e2, e3, LV.step h1 h2 e5 e4 (moved_same fun i hi => e2.ext.mem i hi) e2.ok⟩
theorem get_lv (h : LV w ww f F L K) (hL : L ≤ 2 ^ 34) {r pg : Nat} (hr : isB F (r : Int) = true) (hpg : pg < 4096) :
    Calls Try.prog 17 #[.pointer (some ⟨f, 0, none⟩), .int .i64 (r : Nat), .int .i64 (pg : Nat)] ww (getPost (getL 2 F r pg) ww) := by
  obtain ⟨p, rfl, h1, h2⟩ := h
  exact get_lw h1 hL hr hpg
theorem all_lv (h : LV w ww f F L K) (hL : L ≤ 2 ^ 34) {r : Nat} (hr : isB F (r : Int) = true) :
    Calls Try.prog 13 #[.pointer (some ⟨f, 0, none⟩), .int .i64 (r : Nat)] ww (allPost (getL 2 F r) ww) := by
  obtain ⟨p, rfl, h1, h2⟩ := h
  exact all_lw h1 hL hr
theorem slots_lv (h : LV w ww f F L K) (hL : L ≤ 2 ^ 34) : Calls Try.prog 19 #[.pointer (some ⟨f, 0, none⟩)] ww (slotsPost (HasS F) ww) := by
  obtain ⟨p, rfl, h1, h2⟩ := h
  exact slots_lw h1 hL
theorem nodes_lv (h : LV w ww f F L K) : Calls Try.prog 15 #[.pointer (some ⟨f, 0, none⟩)] ww fun e w' => e = .returned (.int .i64 (F.ids.length : Nat)) ∧ ww = w' := by
  obtain ⟨p, rfl, h1, h2⟩ := h
  exact nodes_lw h1
theorem new_lv (hb : Below w.heap.size w ww) : Calls Try.prog 11 #[] ww fun e w' => ∃ f, e = .returned (.pointer (some ⟨f, 0, none⟩)) ∧ LV w w' f fo0 0 [] :=
  (new_lw w ww hb).mono fun e w' ⟨p, e1, e2, e3, e4⟩ => ⟨p.f, e1, p, rfl, e4, by simp⟩
theorem slice_of_owns {base : Nat} {t : TypeId} {size : Nat} {v : Value} {n : Nat} {xs : List Value} (h : w.ownsRow base t size v n xs) : ∃ a cap, v = .slice a n cap := by
  rcases h.2 with ⟨rfl, rfl⟩ | ⟨g, cap, cur, rfl, _⟩
  · exact ⟨_, _, rfl⟩
  · exact ⟨_, _, rfl⟩
set_option maxRecDepth 100000 in
theorem entry_fn (n : Int) (w : World) : Calls Try.prog 36 #[.int .i64 n] w fun e w' => e = .returned (.agg #[.int .i64 n, .int .i64 0, .int .i64 0, .int .i64 n]) ∧ Below w.heap.size w w' := by
  have hn := ent_new w 33 ⟨⟨n, 0, 0⟩, n⟩
  have g0 := hn.c0
  have g1 := hn.c1
  have g2 := hn.c2
  have g3 := hn.c3
  simp only at g0 g1 g2 g3
  have HB : Hid (Below w.heap.size w (w.alloc (.cells #[.int .i64 n, .int .i64 0, .int .i64 0, .int .i64 n] 33))) := ((Turned.refl [] w).alloc _).below
  clear hn
  go_enter Try.func36, Try.ntmps36
  go_wp2
  exact bodyPost_ret (v := .agg #[.int .i64 n, .int .i64 0, .int .i64 0, .int .i64 n]) (by simp [results, Try.results36, go_sem, g0, g1, g2, g3]) rfl ⟨rfl, HB.out⟩
end Go.Proofs.Ytmpbhoijkcanmaa.R
