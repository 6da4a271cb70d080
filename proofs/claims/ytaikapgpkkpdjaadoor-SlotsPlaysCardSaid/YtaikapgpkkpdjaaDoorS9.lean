/- Slots: a slot is taken: no room; room. -/
import Derived.Test.YtaikapgpkkpdjaaDoorS8
namespace Go.Proofs.YtaikapgpkkpdjaaDoor.L
open Go.ChangeShapes Go.WideShapes Go.ChangeAt Go.RowKit Go.Maps Go.Proofs.YtaikapgpkkpdjaaDoor.G
set_option linter.unusedVariables false
set_option linter.unusedSimpArgs false

structure TakeIn (w ww : World) (bs be bm n : Nat) (pg : Int) (ex : Exts) (l : States) (c : Int) (B : Nat) : Prop where
  slots : SlotsAt ww bs be bm n pg ex l
  res : ResAt ww (B + 1) zeroS
  box : ww.cell? ⟨B, 0, none⟩ = some (.int .i64 c)
  turned : Turned [] w ww
  old : bs < B ∧ be < B ∧ bm < B
  hB : B = w.heap.size
theorem TakeIn.next {w ww w3 : World} {bs be bm n : Nat} {pg : Int} {ex : Exts} {l : States} {c : Int} {B : Nat} (h : TakeIn w ww bs be bm n pg ex l c B) (hb : Below ww.heap.size ww w3) : TakeIn w w3 bs be bm n pg ex l c B :=
  ⟨h.slots.calm (Turned.of_below hb), h.res.turned (Turned.of_below hb) (by simp), (Turned.of_below hb).cell h.box (by simp), h.turned.trans (Turned.of_below hb), h.old, h.hB⟩
theorem takeIn_new {w : World} {bs be bm n : Nat} {pg : Int} {ex : Exts} {l : States} (c : Int) (h : SlotsAt w bs be bm n pg ex l) :
    TakeIn w ((w.alloc (.cells #[.int .i64 c] 3)).alloc (.cells #[.int .i64 0, .int .i64 0, .int .i64 0] 24)) bs be bm n pg ex l c w.heap.size := by
  have t := ((Turned.refl [] w).alloc (.cells #[.int .i64 c] 3)).alloc (.cells #[.int .i64 0, .int .i64 0, .int .i64 0] 24)
  refine ⟨h.calm t, by have := res_new (w.alloc (.cells #[.int .i64 c] 3)) zeroS; simpa [zeroS] using this, ?_, t, ⟨lt_of_cell h.states, h.rows.row.lt, h.map.lt⟩, rfl⟩
  exact ((Turned.refl [] (w.alloc (.cells #[.int .i64 c] 3))).alloc _).cell (cell_new0 w _ 3 _ rfl) (by simp)

set_option maxRecDepth 100000 in
theorem take_full (bs be bm n : Nat) (pg : Int) (ex : Exts) (l : States) (c : Int) (hc : 0 ≤ c ∧ c ≤ 5) (w : World) (h : SlotsAt w bs be bm n pg ex l)
    (h1 : firstI n (fun i => openX c (ex i)) = -1) (h2 : firstI n (fun i => ((ex i).1 == 0)) = -1) :
    Calls Tryd.prog 22 #[.pointer (some ⟨bs, 0, none⟩), .int .i64 c] w fun e w' => e = .returned (.tuple #[.agg #[.int .i64 0, .int .i64 0, .int .i64 0], .int .i64 4]) ∧ Below w.heap.size w w' := by
  obtain ⟨u, hu, hu0⟩ : ∃ u, unitsC c = u ∧ (u == 0) = false := ⟨_, rfl, by rcases unitsC_of c with h | h | h | h | h | h | h <;> simp <;> omega⟩
  have cU := units c
  rw [hu] at cU
  have CU := Lib.hid cU
  have hcm := h.states
  have hbs : bs < w.heap.size := lt_of_cell h.states
  have qT : ∀ (w : World) (r : Option Nat), (binOp .eql 64 (.map r) (.map none)).run Tryd.prog w = .ok (.bool r.isNone) w := fun w r => run_eql_map_nil w 64 24 80 r Tryd.underlying64
  obtain ⟨W, hW⟩ : ∃ W, (w.alloc (.cells #[.int .i64 c] 3)).alloc (.cells #[.int .i64 0, .int .i64 0, .int .i64 0] 24) = W := ⟨_, rfl⟩
  have T0 : Hid (TakeIn w W bs be bm n pg ex l c w.heap.size) := hW ▸ takeIn_new c h
  have C1 : Hid (∀ ww, TakeIn w ww bs be bm n pg ex l c w.heap.size → Calls Tryd.prog 39 #[.slice (some ⟨be, 0, none⟩) n n, .func (.func 40) #[] #[.pointer (some ⟨w.heap.size, 0, none⟩)]] ww fun e w' => e = .returned (.int .i64 (-1)) ∧ Below ww.heap.size ww w') :=
    fun ww t => h1 ▸ index40 c hc be n ex _ ww t.slots.rows t.slots.tab t.box
  have C2 : Hid (∀ ww, TakeIn w ww bs be bm n pg ex l c w.heap.size → Calls Tryd.prog 39 #[.slice (some ⟨be, 0, none⟩) n n, .func (.func 42) #[] #[]] ww fun e w' => e = .returned (.int .i64 (-1)) ∧ Below ww.heap.size ww w') :=
    fun ww t => h2 ▸ index42 be n ex ww t.slots.rows
  have HW := Lib.hid hW
  clear cU hu h hc hW h1 h2
  go_enter Tryd.func22, Tryd.ntmps22
  go_wp2_with (first
    | (go_at_call 38; ((with_reducible refine (CU.out _).mono ?_); rintro e ww ⟨rfl, hb⟩; rw [HW.out] at hb; have T1 := Lib.hid (T0.out.next hb); clear hb T0; have hx1 := T1.out.slots.exts; have hx2 := T1.out.box))
    | (go_at_call 39; ((with_reducible refine (C1.out _ T1.out).mono ?_); rintro e w2 ⟨rfl, hb⟩; have T2 := Lib.hid (T1.out.next hb); clear hb; have hy1 := T2.out.slots.exts))
    | (go_at_call 39; ((with_reducible refine (C2.out _ T2.out).mono ?_); rintro e w3 ⟨rfl, hb⟩; have T3 := Lib.hid (T2.out.next hb); clear hb; have h0 := T3.out.res.c0; have h1 := T3.out.res.c1; have h2 := T3.out.res.c2; have f0 := T3.out.res.f 0; have f1 := T3.out.res.f 1; have f2 := T3.out.res.f 2; simp only [zeroS] at h0 h1 h2)))
  obtain ⟨hr, ht⟩ := T3.out.res.set zeroS
  have g0 := hr.c0
  have g1 := hr.c1
  have g2 := hr.c2
  have hbel := (Turned.below_of (a := w) T3.out.turned.below ht (by intro i hi; simp only [List.mem_singleton] at hi; omega))
  simp only [zeroS] at g0 g1 g2 hbel
  refine bodyPost_ret (v := .tuple #[.agg #[.int .i64 0, .int .i64 0, .int .i64 0], .int .i64 4]) (by simp [results, Tryd.results22, go_sem, g0, g1, g2]) rfl ⟨rfl, hbel⟩
end Go.Proofs.YtaikapgpkkpdjaaDoor.L
