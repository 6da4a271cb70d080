/- Radix: a map is made of another one: the walk. -/
import Derived.Test.YtmpbhoijkcanmaaRH
namespace Go.Proofs.Ytmpbhoijkcanmaa.R
open Go.ChangeShapes Go.WideShapes Go.ChangeAt Go.RowKit Go.Maps Go.Proofs.Ytmpbhoijkcanmaa.G
set_option linter.unusedVariables false
set_option linter.unusedSimpArgs false
set_option linter.unnecessarySimpa false

variable {w w' : World} {p p' : Pf} {F G : Fo}
/-- nodes that were lie where they lay; the others are new -/
structure Moved (p p' : Pf) (F G : Fo) (w : World) : Prop where
  f : p'.f = p.f
  m : p'.m = p.m
  h : p'.h = p.h
  s : p'.s = p.s
  old : ∀ i, i ∈ F.ids → p'.blk i = p.blk i
  new : ∀ i, i ∈ G.ids → i ∈ F.ids ∨ w.heap.size ≤ p'.blk i
theorem Moved.refl (p : Pf) (F : Fo) (w : World) : Moved p p F F w := ⟨rfl, rfl, rfl, rfl, fun _ _ => rfl, fun _ h => .inl h⟩
theorem Moved.own (h : Moved p p' F G w) {b : Nat} (hb : p'.own G b) : p.own F b ∨ w.heap.size ≤ b := by
  rcases hb with rfl | rfl | rfl | rfl | ⟨i, hi, rfl⟩
  · exact .inl (.inl h.f)
  · exact .inl (.inr (.inl h.m))
  · exact .inl (.inr (.inr (.inl h.h)))
  · exact .inl (.inr (.inr (.inr (.inl h.s))))
  · rcases h.new i hi with hf | hb
    · exact .inl (.inr (.inr (.inr (.inr ⟨i, hf, h.old i hf⟩))))
    · exact .inr hb
theorem Moved.trans {p'' : Pf} {H : Fo} {w2 : World} (h : Moved p p' F G w) (k : Moved p' p'' G H w2) (hm : ∀ i, i ∈ F.ids → i ∈ G.ids) (hs : w.heap.size ≤ w2.heap.size) : Moved p p'' F H w :=
  ⟨k.f.trans h.f, k.m.trans h.m, k.h.trans h.h, k.s.trans h.s, fun i hi => (k.old i (hm i hi)).trans (h.old i hi), fun i hi => by
    rcases k.new i hi with hg | hb
    · rcases h.new i hg with hf | hb
      · exact .inl hf
      · exact .inr (by rw [k.old i hg]; exact hb)
    · exact .inr (Nat.le_trans hs hb)⟩
theorem FoOwn.trans {w2 w3 : World} (h : FoOwn p F w w2) (k : FoOwn p' G w2 w3) (hm : Moved p p' F G w) : FoOwn p F w w3 := by
  obtain ⟨S, t, hS⟩ := k
  exact h.step t (fun b hb => (hm.own (hS b hb)).symm)
/-- what is answered: a root; the forest that came of it -/
def rootPost (p : Pf) (F : Fo) (R : Fo × Nat) (w : World) (e : Ending) (w' : World) : Prop := e = .returned (.int .i64 (R.2 : Nat)) ∧ (∃ p', FoAt w' p' R.1 ∧ Moved p p' F R.1 w) ∧ FoOwn p F w w'
theorem copPost.root {x : Node} {l : Nat} {e : Ending} (hf : F.last + 1 ∉ F.ids) (h : copPost p F x l w e w') : rootPost p F (copF F x l) w e w' := by
  unfold copPost at h
  unfold rootPost copF
  by_cases hE : emptyB x = true
  · rw [if_pos hE] at h ⊢
    exact ⟨h.1, ⟨p, h.2.1, Moved.refl p F w⟩, h.2.2⟩
  · rw [if_neg hE] at h ⊢
    obtain ⟨h1, ⟨b, hb, h2⟩, h3⟩ := h
    refine ⟨h1, ⟨_, h2, ⟨rfl, rfl, rfl, rfl, fun i hi => ?_, fun i hi => ?_⟩⟩, h3⟩
    · show (if i = F.last + 1 then b else p.blk i) = _
      by_cases e : i = F.last + 1
      · exact absurd (e ▸ hi) hf
      · rw [if_neg e]
    · rcases addN_mem.1 hi with hi | rfl
      · exact .inl hi
      · right
        show w.heap.size ≤ if F.last + 1 = F.last + 1 then b else _
        rw [if_pos rfl]; exact hb

variable {pend : Nat → Nat} {pendS : Slot → Nat}
/-- the two variables of along: the change, the place -/
theorem boxes_new (w : World) (c : Chg) (i : Nat) :
    ((w.alloc (.cells #[c.val] 99)).alloc (.cells #[.int .i64 (i : Nat)] 3)).cell? ⟨w.heap.size, 0, none⟩ = some c.val ∧ ((w.alloc (.cells #[c.val] 99)).alloc (.cells #[.int .i64 (i : Nat)] 3)).cell? ⟨w.heap.size + 1, 0, none⟩ = some (.int .i64 (i : Nat)) := by
  have h1 := cell_new0 w c.val 99 w.heap.size rfl
  have h2 := cell_new0 (w.alloc (.cells #[c.val] 99)) (.int .i64 (i : Nat)) 3 (w.heap.size + 1) (by simp)
  exact ⟨((Turned.refl [] _).alloc _).cell h1 (by simp), h2⟩
theorem Chg.val_one (c : Chg) : c.val.oneCell' = true := by cases c <;> rfl
/-- what along answers, at a level -/
def AlongC (m : Nat) : Prop := ∀ (p : Pf) (F : Fo) (pend : Nat → Nat) (pendS : Slot → Nat) (n pg : Nat) (c : Chg) (w : World), Inv F pend pendS 0 → Small F pend pendS → F.last + m ≤ 2 ^ 39 → (∀ i, F.last < i → pend i = 0) → (n = 0 ∨ (n ∈ F.ids ∧ F.lev n = 2 - m)) → c.ok → pg < 4096 → FoAt w p F → c.At w →
  Calls Try.prog 41 #[.pointer (some ⟨p.f, 0, none⟩), .int .i64 (n : Nat), .int .i64 (pg : Nat), .int .i64 ((2 - m : Nat) : Int), c.val] w (rootPost p F (alongF m F n pg c) w)
set_option maxRecDepth 100000 in
set_option maxHeartbeats 4000000 in
theorem along0 : AlongC 0 := by
  intro p F pend pendS n pg c w h hs hl hp hn hc hpg hF hcw
  obtain ⟨i, hi⟩ : ∃ i, partN pg 2 = i := ⟨_, rfl⟩
  have hi16 : i < 16 := hi ▸ partN_lt _ _
  have hsrc := copSrc_ok h hn
  have hx := app_ok (i := i) hsrc hc hi16
  have hok := h.copOk hs hx
  have CP : Hid (∀ w, Calls Try.prog 44 #[.int .i64 (pg : Nat), .int .i64 2] w fun e w' => e = .returned (.int .i64 (partN pg 2)) ∧ w = w') := fun w => part_fn pg 2 hpg (by omega) w
  have t1 := (Turned.refl [] w).alloc (.cells #[c.val] 99)
  have t2 := t1.alloc (.cells #[.int .i64 (i : Nat)] 3)
  obtain ⟨b0, b1⟩ := boxes_new w c i
  have hAt : (Fn.leaf w.heap.size (w.heap.size + 1) i c).At ((w.alloc (.cells #[c.val] 99)).alloc (.cells #[.int .i64 (i : Nat)] 3)) := ⟨hcw.above t2 (by simp), b0, b1, hi16⟩
  have CC := copied_fn (p := p) n (hn.imp id (fun h => h.1)) (.leaf w.heap.size (w.heap.size + 1) i c) (c.app (copSrc F n) i) rfl hsrc.bits.1 hok 2 _ (hF.calm t2) hAt
  have hfr := hok.fresh
  have HR : Hid (∀ e w', copPost p F (c.app (copSrc F n) i) 2 ((w.alloc (.cells #[c.val] 99)).alloc (.cells #[.int .i64 (i : Nat)] 3)) e w' → rootPost p F (alongF 0 F n pg c) w e w') := by
    intro e w' hcp
    obtain ⟨r1, ⟨p', r2, r3⟩, r4⟩ := hcp.root hfr
    have er : alongF 0 F n pg c = copF F (c.app (copSrc F n) i) 2 := by show copF F (c.app (copSrc F n) (partN pg 2)) 2 = _; rw [hi]
    rw [er]
    exact ⟨r1, ⟨p', r2, ⟨r3.f, r3.m, r3.h, r3.s, r3.old, fun j hj => (r3.new j hj).imp id (fun hb => Nat.le_trans t2.size hb)⟩⟩, (FoOwn.of t2).trans r4 (Moved.refl p F w)⟩
  have CC := Lib.hid CC
  unfold Fn.val at CC
  obtain ⟨fv, hfv⟩ : ∃ fv, c.val = fv := ⟨_, rfl⟩
  have h1 := c.val_one
  rw [hfv] at CC HR h1
  rw [hfv]
  obtain ⟨R, hR⟩ : ∃ R, alongF 0 F n pg c = R := ⟨_, rfl⟩
  rw [hR] at HR
  rw [hR]
  rw [hi] at CP
  clear h hs hl hp hn hc hpg hF hcw hsrc hx hok t1 t2 b0 b1 hAt hfr hR hi hfv
  go_enter Try.func41, Try.ntmps41
  go_wp2_with (first
    | (go_at_call 44; ((with_reducible refine (CP.out _).mono ?_); rintro e ww ⟨rfl, rfl⟩))
    | (go_at_call 53; ((with_reducible refine CC.out.mono ?_); intro e ww hcp; obtain ⟨rfl, hr⟩ := HR.out e ww hcp; have HE := Lib.hid hr; clear hcp hr)))
  go_ret
  exact ⟨rfl, HE.out⟩

/-- the variables of along, and the forest -/
structure AlA (w wc : World) (p : Pf) (F : Fo) (c : Chg) (fv : Value) (B B1 B2 i k : Nat) : Prop where
  fo : FoAt wc p F
  chg : c.At wc
  b0 : wc.cell? ⟨B, 0, none⟩ = some fv
  b1 : wc.cell? ⟨B1, 0, none⟩ = some (.int .i64 (i : Nat))
  b2 : wc.cell? ⟨B2, 0, none⟩ = some (.int .i64 (k : Nat))
  f2 : wc.frozen? ⟨B2, 0, none⟩ = false
  bel : Below w.heap.size w wc
theorem AlA.setK {wc : World} {c : Chg} {fv : Value} {i k : Nat} (hF : FoAt w p F) (hc : c.At w) (h : AlA w wc p F c fv w.heap.size (w.heap.size + 1) (w.heap.size + 1 + 1) i k) (k' : Nat) : AlA w (wc.drew.setCell ⟨w.heap.size + 1 + 1, 0, none⟩ (.int .i64 (k' : Nat))) p F c fv w.heap.size (w.heap.size + 1) (w.heap.size + 1 + 1) i k' := by
  have t : Turned [w.heap.size + 1 + 1] wc (wc.drew.setCell ⟨w.heap.size + 1 + 1, 0, none⟩ (.int .i64 (k' : Nat))) := ((Turned.refl [w.heap.size + 1 + 1] wc).drew).setCell (p := ⟨w.heap.size + 1 + 1, 0, none⟩) (.inl (by simp)) _
  have hb : Below w.heap.size w (wc.drew.setCell ⟨w.heap.size + 1 + 1, 0, none⟩ (.int .i64 (k' : Nat))) := Turned.below_of h.bel t (fun i hi => by simp at hi; omega)
  refine ⟨h.fo.turned t (fun b hb hm => by have := hF.lt hb; simp at hm; omega), hc.above (Turned.of_below hb) (by simp), t.cell h.b0 (by simp only [List.mem_singleton]; omega), t.cell h.b1 (by simp only [List.mem_singleton]; omega), ?_, ?_, hb⟩
  · exact World.cell?_setCell_same (w := wc.drew) _ _ h.b2
  · rw [World.frozen?_setCell]; exact h.f2
theorem alA_new (h : FoAt w p F) (c : Chg) (hc : c.At w) (i : Nat) : AlA w (((w.alloc (.cells #[c.val] 99)).alloc (.cells #[.int .i64 (i : Nat)] 3)).alloc (.cells #[.int .i64 0] 3)) p F c c.val w.heap.size (w.heap.size + 1) (w.heap.size + 1 + 1) i 0 := by
  obtain ⟨b0, b1⟩ := boxes_new w c i
  have t := (((Turned.refl [] w).alloc (.cells #[c.val] 99)).alloc (.cells #[.int .i64 (i : Nat)] 3)).alloc (.cells #[.int .i64 0] 3)
  have t3 := (Turned.refl [] ((w.alloc (.cells #[c.val] 99)).alloc (.cells #[.int .i64 (i : Nat)] 3))).alloc (.cells #[.int .i64 0] 3)
  have hsz : ((w.alloc (.cells #[c.val] 99)).alloc (.cells #[.int .i64 (i : Nat)] 3)).heap.size = w.heap.size + 1 + 1 := by simp
  have b2 := cell_new0 ((w.alloc (.cells #[c.val] 99)).alloc (.cells #[.int .i64 (i : Nat)] 3)) (.int .i64 0) 3 (w.heap.size + 1 + 1) hsz
  refine ⟨h.calm t, hc.above t (by simp), t3.cell b0 (by simp), t3.cell b1 (by simp), b2, ?_, t.below⟩
  have := (MapKept.heap_alloc ((w.alloc (.cells #[c.val] 99)).alloc (.cells #[.int .i64 (i : Nat)] 3)) (.cells #[.int .i64 0] 3)).1
  rw [hsz] at this
  unfold World.frozen?
  simp only []
  rw [this]
  rfl
set_option maxRecDepth 100000 in
set_option maxHeartbeats 4000000 in
theorem alongS (m : Nat) (hm : m ≤ 1) (ih : AlongC m) : AlongC (m + 1) := by
  intro p F pend pendS n pg c w h hs hl hp hn hc hpg hF hcw
  obtain ⟨lv, hlv⟩ : ∃ lv, 2 - (m + 1) = lv := ⟨_, rfl⟩
  obtain ⟨i, hi⟩ : ∃ i, partN pg lv = i := ⟨_, rfl⟩
  have hi16 : i < 16 := hi ▸ partN_lt _ _
  have hlv1 : lv ≤ 1 := by omega
  have hm2 : 2 - m = lv + 1 := by omega
  have h1m : 1 - m = lv := by omega
  rw [hlv] at hn ⊢
  have hk : kidOf F n i = 0 ∨ (kidOf F n i ∈ F.ids ∧ F.lev (kidOf F n i) = 2 - m) := by
    unfold kidOf
    rcases hn with rfl | ⟨hn, hlv⟩
    · exact .inl rfl
    · rw [if_neg (by have := (h.pos n hn).1; omega)]
      rcases (h.ok n hn).kid i hi16 with h' | ⟨h1, h2, h3⟩
      · exact .inl h'
      · exact .inr ⟨h1, by omega⟩
  have his := along_is m (by omega) F pend pendS (kidOf F n i) pg c h hs (by omega) hp hk hc
  have hih := fun wc hfo hcw => ih p F pend pendS (kidOf F n i) pg c wc h hs (by omega) hp hk hc hpg hfo hcw
  obtain ⟨R1, hR1⟩ : ∃ R1, alongF m F (kidOf F n i) pg c = R1 := ⟨_, rfl⟩
  rw [hR1] at his
  have hn1 : n = 0 ∨ (n ∈ R1.1.ids ∧ R1.1.lev n = lv) := hn.imp id (fun ⟨a, b⟩ => ⟨his.ext.mem n a, by rw [his.ext.lev n a]; exact b⟩)
  have hx := step_ok (i := i) his.inv hn1 (by omega) (his.root.imp id (fun ⟨a, b⟩ => ⟨a, by omega⟩))
  have hs1 := hs.more (by have := his.last.2; omega) his.held
  have hok := his.inv.copOk hs1 hx
  obtain ⟨x, hxx⟩ : ∃ x, setKid (copSrc R1.1 n) i R1.2 = x := ⟨_, rfl⟩
  rw [hxx] at hok hx
  have er : alongF (m + 1) F n pg c = copF R1.1 x lv := by
    show copF (alongF m F (kidOf F n (partN pg (1 - m))) pg c).1 _ _ = _
    rw [h1m, hi, hR1, hxx]
  obtain ⟨R, hR⟩ : ∃ R, alongF (m + 1) F n pg c = R := ⟨_, rfl⟩
  rw [hR] at er
  obtain ⟨B, hB⟩ : ∃ B, w.heap.size = B := ⟨_, rfl⟩
  obtain ⟨g, cap, hfv⟩ : ∃ g cap, c.val = Value.func g #[] cap := by cases c <;> exact ⟨_, _, rfl⟩
  rw [hfv, hR]
  have CP : Hid (∀ w, Calls Try.prog 44 #[.int .i64 (pg : Nat), .int .i64 (lv : Nat)] w fun e w' => e = .returned (.int .i64 (i : Nat)) ∧ w = w') := fun w => by
    have := part_fn pg lv hpg (by omega) w
    rw [hi] at this
    exact this
  have A0 : Hid (AlA w (((w.alloc (.cells #[.func g #[] cap] 99)).alloc (.cells #[.int .i64 (i : Nat)] 3)).alloc (.cells #[.int .i64 0] 3)) p F c (.func g #[] cap) B (B + 1) (B + 1 + 1) i 0) := by
    have := alA_new hF c hcw i
    rw [hfv, hB] at this
    exact this
  have CA : Hid (∀ wc, AlA w wc p F c (.func g #[] cap) B (B + 1) (B + 1 + 1) i (kidOf F n i) → Calls Try.prog 41 #[.pointer (some ⟨p.f, 0, none⟩), .int .i64 (kidOf F n i : Nat), .int .i64 (pg : Nat), .int .i64 ((lv : Int) + 1), .func g #[] cap] wc fun e w5 => e = .returned (.int .i64 (R1.2 : Nat)) ∧
      w5.cell? ⟨B + 1 + 1, 0, none⟩ = some (.int .i64 (kidOf F n i : Nat)) ∧ w5.frozen? ⟨B + 1 + 1, 0, none⟩ = false ∧ w5.cell? ⟨B + 1, 0, none⟩ = some (.int .i64 (i : Nat)) ∧
      Calls Try.prog 53 #[.pointer (some ⟨p.f, 0, none⟩), .int .i64 (n : Nat), .func (.func 55) #[] #[.pointer (some ⟨B + 1 + 1, 0, none⟩), .pointer (some ⟨B + 1, 0, none⟩)]] (w5.setCell ⟨B + 1 + 1, 0, none⟩ (.int .i64 (R1.2 : Nat))) (rootPost p F R w)) := by
    intro wc hA
    have := hih wc hA.fo hA.chg
    rw [hR1, hm2, hfv, show ((lv + 1 : Nat) : Int) = (lv : Int) + 1 by omega] at this
    refine this.mono fun e w5 ⟨e1, ⟨p1, e2, e3⟩, e4⟩ => ?_
    have hown : ∀ j, ¬ p.own F (B + j) := fun j hb => by have := hF.lt hb; omega
    have hsz : B + 1 + 1 < wc.heap.size := lt_of_cell hA.b2
    have hBo : ∀ j, B + j < wc.heap.size → ¬ p1.own R1.1 (B + j) := fun j hj hb => by
      rcases e3.own hb with h' | h'
      · exact hown j h'
      · omega
    have c2 := e4.cell hA.b2 ((show ¬ p.own F (B + 1 + 1) from hown 2))
    have c1 := e4.cell hA.b1 (hown 1)
    have f2 : w5.frozen? ⟨B + 1 + 1, 0, none⟩ = false := by
      obtain ⟨S, t, hS⟩ := e4
      rw [t.frozen (a := ⟨B + 1 + 1, 0, none⟩) hsz (fun hm => (show ¬ p.own F (B + 1 + 1) from hown 2) (hS _ hm))]; exact hA.f2
    have t6 : Turned [B + 1 + 1] w5 (w5.setCell ⟨B + 1 + 1, 0, none⟩ (.int .i64 (R1.2 : Nat))) := (Turned.refl [B + 1 + 1] w5).setCell (.inl (by simp)) _
    refine ⟨e1, c2, f2, c1, ?_⟩
    have hF6 := e2.turned t6 (fun b hb hm => by simp at hm; subst hm; exact (show ¬ p1.own R1.1 (B + 1 + 1) from hBo 2 hsz) hb)
    have hAt : (Fn.kid (B + 1 + 1) (B + 1) i R1.2).At (w5.setCell ⟨B + 1 + 1, 0, none⟩ (.int .i64 (R1.2 : Nat))) := ⟨World.cell?_setCell_same _ _ _ c2, t6.cell c1 (by simp), hi16⟩
    have C := copied_fn (p := p1) n (hn1.imp id (fun h => h.1)) (.kid (B + 1 + 1) (B + 1) i R1.2) x hxx (copSrc_ok his.inv hn1).bits.1 hok lv _ hF6 hAt
    rw [e3.f] at C
    refine C.mono fun e w7 hcp => ?_
    obtain ⟨r1, ⟨p2, r2, r3⟩, r4⟩ := hcp.root hok.fresh
    rw [← er] at r1 r2 r3
    have hw5 : w.heap.size ≤ w5.heap.size := Nat.le_trans hA.bel.size e4.size
    have m1 : Moved p p1 F R1.1 w := ⟨e3.f, e3.m, e3.h, e3.s, e3.old, fun j hj => (e3.new j hj).imp id (fun hb => Nat.le_trans hA.bel.size hb)⟩
    have o1 : FoOwn p F w (w5.setCell ⟨B + 1 + 1, 0, none⟩ (.int .i64 (R1.2 : Nat))) := ((FoOwn.of (Turned.of_below hA.bel)).trans e4 (Moved.refl p F w)).step t6 (fun b hb => by simp at hb; subst hb; exact .inl (by omega))
    exact ⟨r1, ⟨p2, r2, m1.trans r3 his.ext.mem o1.size⟩, o1.trans r4 m1⟩
  have HAl : Hid (∀ wc k k', AlA w wc p F c (.func g #[] cap) B (B + 1) (B + 1 + 1) i k → AlA w (wc.drew.setCell ⟨B + 1 + 1, 0, none⟩ (.int .i64 (k' : Nat))) p F c (.func g #[] cap) B (B + 1) (B + 1 + 1) i k') := fun wc k k' hA => by
    subst hB
    exact hA.setK hF hcw k'
  have HIn : Hid (∀ wc k, AlA w wc p F c (.func g #[] cap) B (B + 1) (B + 1 + 1) i k → n ≠ 0 → wc.cell? ⟨p.f, 0, none⟩ = some (.map (some p.m)) ∧ (Instr.lookup 86 (.map (some p.m)) (.int .i64 (n : Nat)) false).run Try.prog wc = .ok (.pointer (some ⟨p.blk n, 0, none⟩)) wc ∧ wc.cell? ⟨p.blk n, i, none⟩ = some (.int .i64 (kidOf F n i : Nat))) := fun wc k hA h0 => by
    have hni := (hn.resolve_left h0).1
    have := (hA.fo.nd n hni).kid i hi16
    have e : (F.nd n).kids i = kidOf F n i := by unfold kidOf; rw [if_neg h0]
    rw [e] at this
    exact ⟨hA.fo.c0, hA.fo.look_node n (by have := (h.pos n hni).2; have := hs.last; omega) hni, this⟩
  have hk0 : n = 0 → kidOf F n i = 0 := fun e => if_pos e
  have HK0 := Lib.hid hk0
  clear h hs hl hp hn hc hpg hF hcw hk his hih hR1 hn1 hx hs1 hok hxx er hR hi hfv h1m hm2 hlv hk0 ih
  obtain ⟨k0, hk0⟩ : ∃ k0, kidOf F n i = k0 := ⟨_, rfl⟩
  rw [hk0] at CA HK0 HIn
  have hlb : ((lv : Int) == 2) = false := by simp; omega
  have hi0 : (0 : Int) ≤ (i : Int) := by omega
  have hi1 : (i : Int) < 16 := by omega
  clear hk0
  go_enter Try.func41, Try.ntmps41
  go_upto_if 23 with (go_at_call 44; ((with_reducible refine (CP.out _).mono ?_); rintro e ww ⟨rfl, rfl⟩))
  generalize ((w.alloc (.cells #[.func g #[] cap] 99)).alloc (.cells #[.int .i64 (i : Nat)] 3)).alloc (.cells #[.int .i64 0] 3) = wa at *
  generalize B + 1 = B1 at *
  generalize B1 + 1 = B2 at *
  go_cut [] (fun wc => AlA w wc p F c (.func g #[] cap) B B1 B2 i k0)
  case first =>
    by_cases h0 : n = 0
    · subst h0
      have hk := HK0.out rfl
      subst hk
      go_wp2
      go_meet
      exact A0.out
    · have hb : ((n : Int) != 0) = true := by simpa using h0
      obtain ⟨i0, i1, i2⟩ := HIn.out _ _ A0.out h0
      have b1 := A0.out.b1
      have HE := Lib.hid (HAl.out _ _ k0 A0.out)
      have HD := Lib.hid A0.out
      have hAd : AlA w wa.drew p F c (.func g #[] cap) B B1 B2 i 0 := ⟨A0.out.fo.calm (Turned.refl [] wa).drew, A0.out.chg.above (Turned.refl [] wa).drew (by simp), A0.out.b0, A0.out.b1, A0.out.b2, A0.out.f2, A0.out.bel.trans ((Turned.refl [] wa).drew.below.mono A0.out.bel.size)⟩
      obtain ⟨j0, j1, j2⟩ := HIn.out _ _ hAd h0
      have d2 : wa.drew.cell? ⟨B2, 0, none⟩ = some (.int .i64 0) := A0.out.b2
      have e2 : wa.drew.frozen? ⟨B2, 0, none⟩ = false := A0.out.f2
      have e1 := hAd.b1
      have hE := HE.out
      have K9 := Lib.hid (And.intro (HIn.out _ _ hE h0).1 (And.intro (HIn.out _ _ hE h0).2.1 (And.intro (HIn.out _ _ hE h0).2.2 hE.b1)))
      have K8 := Lib.hid (And.intro j0 (And.intro j1 (And.intro j2 e1)))
      clear h0 A0 hAd i0 i1 i2 b1 hE
      go_wp2
      go_region_held3 (fun w' => w'.cell? ⟨p.f, 0, none⟩ = some (.map (some p.m)) ∧ (Instr.lookup 86 (.map (some p.m)) (.int .i64 (n : Nat)) false).run Try.prog w' = .ok (.pointer (some ⟨p.blk n, 0, none⟩)) w' ∧ w'.cell? ⟨p.blk n, i, none⟩ = some (.int .i64 (k0 : Nat)) ∧ w'.cell? ⟨B1, 0, none⟩ = some (.int .i64 (i : Nat))) (first | exact K8.out | exact K9.out | go_keep) (fail)
      all_goals
        go_wp2
        go_meet
        exact HE.out
  case rest =>
    have hA := Lib.hid hcut
    have b0 := hcut.b0
    have b1 := hcut.b1
    have b2 := hcut.b2
    have CA1 := Lib.hid (CA.out wc hcut)
    clear hcut A0
    go_wp2_with (first
      | (go_at_call 41; ((with_reducible refine CA1.out.mono ?_); rintro e w5 ⟨rfl, c2, f2, c1, hcc⟩; have CC := Lib.hid hcc; clear hcc b0 b1 b2))
      | (go_at_call 53; ((with_reducible refine CC.out.mono ?_); intro e ww hr; obtain ⟨rfl, hr2⟩ := hr; have HE := Lib.hid hr2; clear hr2)))
    go_ret
    exact ⟨rfl, HE.out⟩
end Go.Proofs.Ytmpbhoijkcanmaa.R
