/- Slots: a slot is taken. -/
import Derived.Test.YtaikapgpkkpdjaaDoorS7
import Derived.WalkSpells
import Derived.StillTailTactics
namespace Go.Proofs.YtaikapgpkkpdjaaDoor.L
open Go.ChangeShapes Go.WideShapes Go.ChangeAt Go.RowKit Go.Maps Go.Proofs.YtaikapgpkkpdjaaDoor.G
set_option linter.unusedVariables false
set_option linter.unusedSimpArgs false

/-- the variable of a slot that is handed back -/
def cellS (x : Slot) (j : Nat) : Value := if j = 0 then .int .i64 x.e else if j = 1 then .int .i64 x.c else .int .i64 x.i
def ResAt (w : World) (b : Nat) (x : Slot) : Prop := w.rowIs b 24 3 (cellS x)
theorem ResAt.c0 {w : World} {b : Nat} {x : Slot} (h : ResAt w b x) : w.cell? ⟨b, 0, none⟩ = some (.int .i64 x.e) := World.rowIs.cell h (i := 0) (by omega)
theorem ResAt.c1 {w : World} {b : Nat} {x : Slot} (h : ResAt w b x) : w.cell? ⟨b, 1, none⟩ = some (.int .i64 x.c) := World.rowIs.cell h (i := 1) (by omega)
theorem ResAt.c2 {w : World} {b : Nat} {x : Slot} (h : ResAt w b x) : w.cell? ⟨b, 2, none⟩ = some (.int .i64 x.i) := World.rowIs.cell h (i := 2) (by omega)
theorem ResAt.f {w : World} {b : Nat} {x : Slot} (h : ResAt w b x) (i : Nat) : w.frozen? ⟨b, i, none⟩ = false := World.rowIs.frozen h i
theorem ResAt.turned {w w' : World} {b : Nat} {x : Slot} (h : ResAt w b x) {S : List Nat} (t : Turned S w w') (h0 : b ∉ S) : ResAt w' b x :=
  World.rowIs.of_block h (t.block b (World.rowIs.lt h) h0)
theorem res_new (w : World) (x : Slot) : ResAt (w.alloc (.cells #[.int .i64 x.e, .int .i64 x.c, .int .i64 x.i] 24)) w.heap.size x := by
  refine World.rowIs_alloc _ _ _ _ ?_
  intro i hi
  simp only [List.size_toArray, List.length_cons, List.length_nil] at hi
  have : i = 0 ∨ i = 1 ∨ i = 2 := by omega
  rcases this with rfl | rfl | rfl <;> rfl
/-- a slot is laid into it -/
theorem ResAt.set {w : World} {b : Nat} {x : Slot} (h : ResAt w b x) (y : Slot) : ResAt (((w.setCell ⟨b, 0, none⟩ (.int .i64 y.e)).setCell ⟨b, 1, none⟩ (.int .i64 y.c)).setCell ⟨b, 2, none⟩ (.int .i64 y.i)) b y ∧
    Turned [b] w (((w.setCell ⟨b, 0, none⟩ (.int .i64 y.e)).setCell ⟨b, 1, none⟩ (.int .i64 y.c)).setCell ⟨b, 2, none⟩ (.int .i64 y.i)) := by
  refine ⟨((((World.rowIs.set h 0 _).set 1 _).set 2 _).congr fun i hi => ?_), (((Turned.refl [b] w).setCell (.inl (by simp)) _).setCell (.inl (by simp)) _).setCell (.inl (by simp)) _⟩
  have : i = 0 ∨ i = 1 ∨ i = 2 := by omega
  rcases this with rfl | rfl | rfl <;> rfl
def zeroS : Slot := ⟨0, 0, 0⟩

theorem take_bad (bs be bm n : Nat) (pg : Int) (ex : Exts) (l : States) (c : Int) (hc : c < 0 ∨ 6 ≤ c) (w : World) (h : SlotsAt w bs be bm n pg ex l) :
    Calls Tryd.prog 22 #[.pointer (some ⟨bs, 0, none⟩), .int .i64 c] w fun e w' => e = .returned (.tuple #[.agg #[.int .i64 0, .int .i64 0, .int .i64 0], .int .i64 2]) ∧ Below w.heap.size w w' := by
  have hu : unitsC c = 0 := by rcases unitsC_of c with h | h | h | h | h | h | h <;> omega
  have cU := units c
  rw [hu] at cU
  have CU := Lib.hid cU
  have hcm := h.states
  have hbs : bs < w.heap.size := lt_of_cell h.states
  have qT : ∀ (w : World) (r : Option Nat), (binOp .eql 64 (.map r) (.map none)).run Tryd.prog w = .ok (.bool r.isNone) w := fun w r => run_eql_map_nil w 64 24 80 r Tryd.underlying64
  obtain ⟨W, hW⟩ : ∃ W, (w.alloc (.cells #[.int .i64 c] 3)).alloc (.cells #[.int .i64 0, .int .i64 0, .int .i64 0] 24) = W := ⟨_, rfl⟩
  have HR : Hid (∀ ww, Below W.heap.size W ww → ResAt ww (w.heap.size + 1) zeroS ∧ Turned [] w ww) := by
    intro ww hb
    subst hW
    refine ⟨?_, (((Turned.refl [] w).alloc _).alloc _).trans (Turned.of_below hb)⟩
    have := (res_new (w.alloc (.cells #[.int .i64 c] 3)) zeroS).turned (Turned.of_below hb) (by simp)
    simpa using this
  have HW := Lib.hid hW
  clear cU hu h hc hW
  go_enter Tryd.func22, Tryd.ntmps22
  go_wp2_with (first | (go_at_call 38; ((with_reducible refine (CU.out _).mono ?_); rintro e ww ⟨rfl, hb⟩; rw [HW.out] at hb; obtain ⟨hres, hT⟩ := HR.out _ hb; have HT := Lib.hid hT; have HRes := Lib.hid hres; have h0 := hres.c0; have h1 := hres.c1; have h2 := hres.c2; have f0 := hres.f 0; have f1 := hres.f 1; have f2 := hres.f 2; clear hb hT hres; simp only [zeroS] at h0 h1 h2)))
  obtain ⟨hr, ht⟩ := HRes.out.set zeroS
  have g0 := hr.c0
  have g1 := hr.c1
  have g2 := hr.c2
  have hbel := (Turned.below_of (a := w) HT.out.below ht (by intro i hi; simp only [List.mem_singleton] at hi; omega))
  simp only [zeroS] at g0 g1 g2 hbel
  refine bodyPost_ret (v := .tuple #[.agg #[.int .i64 0, .int .i64 0, .int .i64 0], .int .i64 2]) (by simp [results, Tryd.results22, go_sem, g0, g1, g2]) rfl ⟨rfl, hbel⟩
end Go.Proofs.YtaikapgpkkpdjaaDoor.L
