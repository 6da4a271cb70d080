/- Radix: a forest of the law's own: each call's contract. -/
import Derived.Test.YtmpbhoijkcanmaaRY
namespace Go.Proofs.Ytmpbhoijkcanmaa.R
open Go.ChangeShapes Go.WideShapes Go.ChangeAt Go.RowKit Go.Maps Go.Proofs.Ytmpbhoijkcanmaa.G
set_option linter.unusedVariables false
set_option linter.unusedSimpArgs false
set_option linter.unnecessarySimpa false

variable {F G : Fo} {w ww w' : World} {p : Pf} {L : Nat}
/-- a forest that was made since a world; nothing that was there was changed -/
structure LW (w ww : World) (p : Pf) (F : Fo) (L : Nat) : Prop where
  fo : FoAt ww p F
  ok : Ok F L
  new : ∀ b, p.own F b → w.heap.size ≤ b
  bel : Below w.heap.size w ww
theorem LW.calm (h : LW w ww p F L) (b : Below ww.heap.size ww w') : LW w w' p F L := ⟨h.fo.calm (Turned.of_below b), h.ok, h.new, h.bel.trans (b.mono h.bel.size)⟩
theorem LW.alloc (h : LW w ww p F L) (o : Obj) : LW w (ww.alloc o) p F L := h.calm ((Below.refl _ ww).alloc (Nat.le_refl _) o)
theorem LW.more (h : LW w ww p F L) {L' : Nat} (hl : L ≤ L') : LW w ww p F L' := ⟨h.fo, ⟨h.ok.inv, Nat.le_trans h.ok.last hl, fun r => Nat.le_trans (h.ok.held r) hl⟩, h.new, h.bel⟩
theorem LW.below (h : LW w ww p F L) (o : FoOwn p F ww w') : Below w.heap.size w w' := by
  obtain ⟨S, t, hS⟩ := o
  exact Turned.below_of h.bel t (fun b hb => h.new b (hS b hb))
theorem LW.step (h : LW w ww p F L) {p' : Pf} {L' : Nat} (o : FoOwn p F ww w') (hF : FoAt w' p' G) (m : Moved p p' F G ww) (k : Ok G L') : LW w w' p' G L' :=
  ⟨hF, k, fun b hb => by
    rcases m.own hb with h' | h'
    · exact h.new b h'
    · exact Nat.le_trans h.bel.size h', h.below o⟩
theorem LW.cell (h : LW w ww p F L) (o : FoOwn p F ww w') {a : Addr} {v : Value} (ha : ww.cell? a = some v) (hn : ¬ p.own F a.block) : w'.cell? a = some v := o.cell ha hn
/-- the block of a change makes no difference -/
theorem copF_cong {x y : Node} (h : x = y) (F : Fo) (l : Nat) : copF F x l = copF F y l := by rw [h]
theorem alongF_blk (be : Nat) (x : Ent) : ∀ (m : Nat) (F : Fo) (n pg : Nat), alongF m F n pg (.set be x) = alongF m F n pg (.set 0 x)
  | 0, F, n, pg => rfl
  | m + 1, F, n, pg => by
    show copF (alongF m F _ pg (.set be x)).1 _ _ = copF (alongF m F _ pg (.set 0 x)).1 _ _
    rw [alongF_blk be x m]
theorem setF_blk (be : Nat) (x : Ent) (F : Fo) (r pg : Nat) : setF F r pg (.set be x) = setF F r pg (.set 0 x) := by
  unfold setF; rw [alongF_blk]
/-- what is kept when a forest moves -/
theorem set_lw (h : LW w ww p F L) (hL : L ≤ 2 ^ 34) {r pg : Nat} (hr : isB F (r : Int) = true) (hpg : pg < 4096) (x : Ent) (hx : x.ok) :
    Calls Try.prog 12 #[.pointer (some ⟨p.f, 0, none⟩), .int .i64 (r : Nat), .int .i64 (pg : Nat), encE x] ww fun e w' => e = .returned (.tuple #[.int .i64 ((setF F r pg (.set 0 x)).2 : Nat), .int .i64 0]) ∧ FoOwn p F ww w' ∧ ∃ p', p'.f = p.f ∧ LW w w' p' (setF F r pg (.set 0 x)).1 (L + 3) :=
  (set_fn h.ok (by omega) hr hpg x hx ww h.fo).mono fun e w' ⟨e1, ⟨p', e2, e3⟩, e4⟩ => by
    rw [setF_blk] at e1 e2 e3
    exact ⟨e1, e4, p', e3.f, h.step e4 e2 e3 (setF_is h.ok (by omega) (h.ok.inv.root hr) hpg (.set 0 x) hx).ok⟩
theorem clear_lw (h : LW w ww p F L) (hL : L ≤ 2 ^ 34) {r pg : Nat} (hr : isB F (r : Int) = true) (hpg : pg < 4096) :
    Calls Try.prog 16 #[.pointer (some ⟨p.f, 0, none⟩), .int .i64 (r : Nat), .int .i64 (pg : Nat)] ww fun e w' => e = .returned (.tuple #[.int .i64 ((clearF F r pg).2 : Nat), .int .i64 0]) ∧ FoOwn p F ww w' ∧ ∃ p', p'.f = p.f ∧ LW w w' p' (clearF F r pg).1 (L + 3) :=
  (clear_fn h.ok (by omega) hr hpg ww h.fo).mono fun e w' ⟨e1, ⟨p', e2, e3⟩, e4⟩ =>
    ⟨e1, e4, p', e3.f, h.step e4 e2 e3 (clearF_is h.ok (by omega) (h.ok.inv.root hr) hpg).1⟩
theorem hold_lw (h : LW w ww p F L) (hL : L ≤ 2 ^ 34) {r : Nat} (hr : isB F (r : Int) = true) :
    Calls Try.prog 20 #[.pointer (some ⟨p.f, 0, none⟩), .int .i64 (r : Nat)] ww fun e w' => e = .returned (.int .i64 0) ∧ FoOwn p F ww w' ∧ LW w w' p (madeF F r) (L + 1) :=
  (hold_fn h.ok (by omega) hr ww h.fo).mono fun e w' ⟨e1, e2, e3⟩ =>
    ⟨e1, e3, h.step e3 e2 ⟨rfl, rfl, rfl, rfl, fun _ _ => rfl, fun i hi => .inl (by rw [madeF_ids] at hi; exact hi)⟩ ⟨h.ok.inv.made (h.ok.inv.root hr) (.inl rfl), by rw [madeF_last]; have := h.ok.last; omega, fun i => by rw [madeF_held]; have := h.ok.held i; split <;> omega⟩⟩
theorem drop_lw (h : LW w ww p F L) (hL : L ≤ 2 ^ 34) {r : Nat} (hr : isB F (r : Int) = true) :
    Calls Try.prog 18 #[.pointer (some ⟨p.f, 0, none⟩), .int .i64 (r : Nat)] ww fun e w' => ∃ (v : Value) (G : Fo) (ys : List Slot), e = .returned (.tuple #[v, .int .i64 0]) ∧ DropIs F L r G ys ∧ w'.ownsRow ww.heap.size 31 3 v ys.length (flat ys) ∧ FoOwn p F ww w' ∧ LW w w' p G L :=
  (drop_fn h.ok (by omega) hr ww h.fo).mono fun e w' ⟨v, G, ys, e1, e2, e3, e4, e5⟩ =>
    ⟨v, G, ys, e1, e2, e3, e5, h.step e5 e4 ⟨rfl, rfl, rfl, rfl, fun _ _ => rfl, fun i hi => .inl (e2.ext.mem i hi)⟩ e2.ok⟩
theorem get_lw (h : LW w ww p F L) (hL : L ≤ 2 ^ 34) {r pg : Nat} (hr : isB F (r : Int) = true) (hpg : pg < 4096) :
    Calls Try.prog 17 #[.pointer (some ⟨p.f, 0, none⟩), .int .i64 (r : Nat), .int .i64 (pg : Nat)] ww (getPost (getL 2 F r pg) ww) := get_in h.ok (by omega) hr hpg ww h.fo
theorem all_lw (h : LW w ww p F L) (hL : L ≤ 2 ^ 34) {r : Nat} (hr : isB F (r : Int) = true) :
    Calls Try.prog 13 #[.pointer (some ⟨p.f, 0, none⟩), .int .i64 (r : Nat)] ww (allPost (getL 2 F r) ww) :=
  all_fn _ _ _ _ fun q hq w' hb => get_in h.ok (by omega) hr hq w' (h.fo.calm (Turned.of_below hb))
theorem slots_lw (h : LW w ww p F L) (hL : L ≤ 2 ^ 34) : Calls Try.prog 19 #[.pointer (some ⟨p.f, 0, none⟩)] ww (slotsPost (HasS F) ww) := slots_fn h.ok hL ww h.fo
theorem nodes_lw (h : LW w ww p F L) : Calls Try.prog 15 #[.pointer (some ⟨p.f, 0, none⟩)] ww fun e w' => e = .returned (.int .i64 (F.ids.length : Nat)) ∧ ww = w' := nodes_fn ww h.fo
theorem new_lw (w ww : World) (hb : Below w.heap.size w ww) : Calls Try.prog 11 #[] ww fun e w' => ∃ p, e = .returned (.pointer (some ⟨p.f, 0, none⟩)) ∧ ww.heap.size ≤ p.f ∧ Below ww.heap.size ww w' ∧ LW w w' p fo0 0 :=
  (new_fn ww).mono fun e w' ⟨e1, e2, e3⟩ => ⟨newP ww.heap.size, e1, Nat.le_add_right _ _, e3, e2, fo0_ok, fun b hb' => by
    have := hb.size
    have h' : b = ww.heap.size + 3 ∨ b = ww.heap.size ∨ b = ww.heap.size + 1 ∨ b = ww.heap.size + 2 ∨ ∃ i, i ∈ fo0.ids ∧ b = 0 := hb'
    rcases h' with h | h | h | h | ⟨i, hi, _⟩
    · omega
    · omega
    · omega
    · omega
    · exact absurd hi (by show i ∉ ([] : List Nat); simp), hb.trans (e3.mono hb.size)⟩
/-! ### nothing is garbage -/
theorem Ok.reach (h : Ok F L) {i : Nat} (hi : i ∈ F.ids) : 0 < cnt F.held (i : Int) ∨ ∃ m, m ∈ F.ids ∧ ∃ q, q < 16 ∧ (F.nd m).kids q = i := by
  have h1 := h.inv.refs i hi
  have hp := (h.inv.pos i hi).1
  rcases h.inv.live i hi with h2 | h2
  · by_cases h0 : 0 < cnt F.held (i : Int)
    · exact .inl h0
    · exact .inr (refc_some (by omega))
  · omega
theorem Ok.kid (h : Ok F L) {m q : Nat} (hm : m ∈ F.ids) (hq : q < 16) (h0 : (F.nd m).kids q ≠ 0) : (F.nd m).kids q ∈ F.ids := (((h.inv.ok m hm).kid q hq).resolve_left h0).1
theorem Ok.root (h : Ok F L) {i : Nat} (hc : 0 < cnt F.held (i : Int)) : i ∈ F.ids := by
  obtain ⟨n, e, hn, _⟩ := h.inv.held _ hc
  obtain rfl : i = n := by omega
  exact hn
/-- what is left of a map is what it was -/
theorem getL_sub {G : Fo} (h : Ok G L) (e : Ext G F) {r : Nat} (hr : r = 0 ∨ r ∈ G.ids) (q : Nat) : getL 2 F r q = getL 2 G r q := getL_ext h.inv e 2 r q hr
end Go.Proofs.Ytmpbhoijkcanmaa.R
