/- Slots: two of them beside each other: each call's contract. -/
import Derived.Test.YtaikapgpkkpdjaaDoorTC
namespace Go.Proofs.YtaikapgpkkpdjaaDoor.L
open Go.ChangeShapes Go.WideShapes Go.ChangeAt Go.RowKit Go.Maps Go.Proofs.YtaikapgpkkpdjaaDoor.G Go.Sort Go.Shelf Go.Lib Go.Deep
set_option linter.unusedVariables false
set_option linter.unusedSimpArgs false

/-- where slots lie: themselves, their extents, their map -/
structure Pl where
  s : Nat
  e : Nat
  m : Nat
abbrev StP (w : World) (p : Pl) (ex : Exts) (l : States) : Prop := St w p.s p.e p.m 3 1024 ex l
/-- two of them, made by the call, one behind the other -/
structure Two (w ww : World) (p q : Pl) (ex : Exts) (l : States) (ex' : Exts) (l' : States) : Prop where
  a : StP ww p ex l
  b : StP ww q ex' l'
  ea : EpB l
  eb : EpB l'
  newa : w.heap.size ≤ p.s ∧ w.heap.size ≤ p.e ∧ w.heap.size ≤ p.m
  sep : ∃ M, (p.s < M ∧ p.e < M ∧ p.m < M) ∧ (M ≤ q.s ∧ M ≤ q.e ∧ M ≤ q.m)
  bel : Below w.heap.size w ww

variable {w ww w3 : World} {p q : Pl} {ex ex' ex2 : Exts} {l l' l2 : States}
theorem Two.calm (h : Two w ww p q ex l ex' l') (t : Turned [] ww w3) : Two w w3 p q ex l ex' l' :=
  ⟨h.a.calm t, h.b.calm t, h.ea, h.eb, h.newa, h.sep, h.bel.trans (t.below.mono h.bel.size)⟩
theorem Two.stepA (h : Two w ww p q ex l ex' l') (hs : StP w3 p ex2 l2) (he : EpB l2) {S : List Nat} (t : Turned S ww w3) (hS : ∀ i ∈ S, i = p.e ∨ i = p.m) : Two w w3 p q ex2 l2 ex' l' := by
  obtain ⟨M, h1, h2⟩ := h.sep
  have hn := h.newa
  have hlow : ∀ i ∈ S, i < M ∧ w.heap.size ≤ i := fun i hi => by rcases hS i hi with e | e <;> omega
  have hz : 0 ∉ S := fun hm => by have := (hlow 0 hm).2; have := h.bel.size; have := h.a.at_.z1; have := h.a.at_.z2; rcases hS 0 hm with e | e <;> omega
  exact ⟨hs, h.b.turned t hz (fun hm => by have := hlow _ hm; omega) (fun hm => by have := hlow _ hm; omega) (fun hm => by have := hlow _ hm; omega), he, h.eb, h.newa, h.sep, Turned.below_of h.bel t (fun i hi => (hlow i hi).2)⟩
theorem Two.stepB (h : Two w ww p q ex l ex' l') (hs : StP w3 q ex2 l2) (he : EpB l2) {S : List Nat} (t : Turned S ww w3) (hS : ∀ i ∈ S, i = q.e ∨ i = q.m) : Two w w3 p q ex l ex2 l2 := by
  obtain ⟨M, h1, h2⟩ := h.sep
  have hn := h.newa
  have hlow : ∀ i ∈ S, M ≤ i ∧ w.heap.size ≤ i := fun i hi => by rcases hS i hi with e | e <;> omega
  have hz : 0 ∉ S := fun hm => by have := h.b.at_.z1; have := h.b.at_.z2; rcases hS 0 hm with e | e <;> omega
  exact ⟨h.a.turned t hz (fun hm => by have := hlow _ hm; omega) (fun hm => by have := hlow _ hm; omega) (fun hm => by have := hlow _ hm; omega), hs, h.ea, he, h.newa, h.sep, Turned.below_of h.bel t (fun i hi => (hlow i hi).2)⟩

theorem Two.takeA (h : Two w ww p q ex l ex' l') (c : Int) (R : Res) (hR : takeR 3 ex l c = R) :
    Calls Tryd.prog 22 #[.pointer (some ⟨p.s, 0, none⟩), .int .i64 c] ww fun e w' => e = .returned (.tuple #[.agg #[.int .i64 R.x.e, .int .i64 R.x.c, .int .i64 R.x.i], .int .i64 R.err]) ∧ Two w w' p q R.ex R.l ex' l' ∧ Turned [p.e, p.m] ww w' := by
  have he := h.ea.take 3 ex c
  refine (take_any p.s p.e p.m 3 1024 ex l c ww h.a).mono fun e w' ⟨h1, h2, h3⟩ => ?_
  rw [hR] at h1 h2 he
  exact ⟨h1, h.stepA h2 he h3 (by intro i hi; simpa using hi), h3⟩
theorem Two.takeB (h : Two w ww p q ex l ex' l') (c : Int) (R : Res) (hR : takeR 3 ex' l' c = R) :
    Calls Tryd.prog 22 #[.pointer (some ⟨q.s, 0, none⟩), .int .i64 c] ww fun e w' => e = .returned (.tuple #[.agg #[.int .i64 R.x.e, .int .i64 R.x.c, .int .i64 R.x.i], .int .i64 R.err]) ∧ Two w w' p q ex l R.ex R.l ∧ Turned [q.e, q.m] ww w' := by
  have he := h.eb.take 3 ex' c
  refine (take_any q.s q.e q.m 3 1024 ex' l' c ww h.b).mono fun e w' ⟨h1, h2, h3⟩ => ?_
  rw [hR] at h1 h2 he
  exact ⟨h1, h.stepB h2 he h3 (by intro i hi; simpa using hi), h3⟩
theorem Two.dropA (h : Two w ww p q ex l ex' l') (x : Slot) (hx : I64 x.e ∧ I64 x.c ∧ I64 x.i) (ep : Nat) (hep : ep < 2 ^ 64) (R : Int × States) (hR : dropR l x ep = R) :
    Calls Tryd.prog 24 #[.pointer (some ⟨p.s, 0, none⟩), .agg #[.int .i64 x.e, .int .i64 x.c, .int .i64 x.i], .int .u64 ep] ww fun e w' => e = .returned (.int .i64 R.1) ∧ Two w w' p q ex R.2 ex' l' ∧ Turned [p.m] ww w' := by
  have he := h.ea.drop x ep hep
  refine (drop_any p.s p.e p.m 3 1024 ex l x ep hx ww h.a).mono fun e w' ⟨h1, h2, h3⟩ => ?_
  rw [hR] at h1 h2 he
  exact ⟨h1, h.stepA h2 he h3 (by intro i hi; right; simpa using hi), h3⟩
theorem Two.dropB (h : Two w ww p q ex l ex' l') (x : Slot) (hx : I64 x.e ∧ I64 x.c ∧ I64 x.i) (ep : Nat) (hep : ep < 2 ^ 64) (R : Int × States) (hR : dropR l' x ep = R) :
    Calls Tryd.prog 24 #[.pointer (some ⟨q.s, 0, none⟩), .agg #[.int .i64 x.e, .int .i64 x.c, .int .i64 x.i], .int .u64 ep] ww fun e w' => e = .returned (.int .i64 R.1) ∧ Two w w' p q ex l ex' R.2 ∧ Turned [q.m] ww w' := by
  have he := h.eb.drop x ep hep
  refine (drop_any q.s q.e q.m 3 1024 ex' l' x ep hx ww h.b).mono fun e w' ⟨h1, h2, h3⟩ => ?_
  rw [hR] at h1 h2 he
  exact ⟨h1, h.stepB h2 he h3 (by intro i hi; right; simpa using hi), h3⟩
/-- a row that is answered -/
def RowIs (w : World) (a : Option Addr) (n : Nat) (ys : List Slot) (base : Nat) : Prop := Sl3 w a n ys ∧ n ≤ 1048576 ∧ ∀ x, a = some x → base ≤ x.block
theorem RowIs.turned {w w' : World} {a : Option Addr} {n : Nat} {ys : List Slot} {base : Nat} (h : RowIs w a n ys base) {S : List Nat} (t : Turned S w w') (hS : ∀ i ∈ S, i < base) : RowIs w' a n ys base :=
  ⟨h.1.turned t (fun x hx hm => by have := h.2.2 x hx; have := hS _ hm; omega), h.2.1, h.2.2⟩
theorem rowIs_of {ys : List Slot} {w0 w' : World} {v : Value} (hl : ys.length ≤ 1048576) (h2 : w'.ownsRow w0.heap.size 24 3 v ys.length (flat ys)) : ∃ a cap, v = .slice a ys.length cap ∧ RowIs w' a ys.length ys w0.heap.size := by
  obtain ⟨a, cap, rfl, hs, hb⟩ := sl3_of_owns h2
  exact ⟨a, cap, rfl, hs, hl, fun x hx => (hb x hx).1⟩
theorem Two.dueA (h : Two w ww p q ex l ex' l') (d : Nat) (ys : List Slot) (hy : canon (dueV d) 3 ex l = ys) :
    Calls Tryd.prog 23 #[.pointer (some ⟨p.s, 0, none⟩), .int .u64 d] ww fun e w' => ∃ a cap, e = .returned (.slice a ys.length cap) ∧ RowIs w' a ys.length ys ww.heap.size ∧ Two w w' p q (exD ex ys) (lD l ys) ex' l' ∧ Turned [p.e, p.m] ww w' := by
  have hf := canon_few (so := dueV d) h.a.inv (by omega)
  have he := h.ea.due h.a.inv (canonNd (dueV d) 3 ex l) (fun x hx => by obtain ⟨v, hv, _⟩ := (mem_canonJ h.a.inv).1 hx; rw [hv]; rfl)
  refine (due_any p.s p.e p.m 3 1024 ex l d ww h.a).mono fun e w' ⟨v, h1, h2, h3, h4⟩ => ?_
  rw [hy] at h2 h3 hf he
  obtain ⟨a, cap, rfl, hr⟩ := rowIs_of hf h2
  exact ⟨a, cap, h1, hr, h.stepA h3 he h4 (by intro i hi; simpa using hi), h4⟩
theorem Two.dueB (h : Two w ww p q ex l ex' l') (d : Nat) (ys : List Slot) (hy : canon (dueV d) 3 ex' l' = ys) :
    Calls Tryd.prog 23 #[.pointer (some ⟨q.s, 0, none⟩), .int .u64 d] ww fun e w' => ∃ a cap, e = .returned (.slice a ys.length cap) ∧ RowIs w' a ys.length ys ww.heap.size ∧ Two w w' p q ex l (exD ex' ys) (lD l' ys) ∧ Turned [q.e, q.m] ww w' := by
  have hf := canon_few (so := dueV d) h.b.inv (by omega)
  have he := h.eb.due h.b.inv (canonNd (dueV d) 3 ex' l') (fun x hx => by obtain ⟨v, hv, _⟩ := (mem_canonJ h.b.inv).1 hx; rw [hv]; rfl)
  refine (due_any q.s q.e q.m 3 1024 ex' l' d ww h.b).mono fun e w' ⟨v, h1, h2, h3, h4⟩ => ?_
  rw [hy] at h2 h3 hf he
  obtain ⟨a, cap, rfl, hr⟩ := rowIs_of hf h2
  exact ⟨a, cap, h1, hr, h.stepB h3 he h4 (by intro i hi; simpa using hi), h4⟩
theorem Two.liveA (h : Two w ww p q ex l ex' l') (ys : List Slot) (hy : canon liveV 3 ex l = ys) :
    Calls Tryd.prog 18 #[.pointer (some ⟨p.s, 0, none⟩)] ww fun e w' => ∃ a cap, e = .returned (.slice a ys.length cap) ∧ RowIs w' a ys.length ys ww.heap.size ∧ Two w w' p q ex l ex' l' ∧ Turned [] ww w' := by
  have hf := canon_few (so := liveV) h.a.inv (by omega)
  refine (live_any p.s p.e p.m 3 1024 ex l ww h.a).mono fun e w' ⟨v, h1, h2, h3⟩ => ?_
  rw [hy] at h2 hf
  obtain ⟨a, cap, rfl, hr⟩ := rowIs_of hf h2
  exact ⟨a, cap, by rw [h1], hr, h.calm (Turned.of_below h3), Turned.of_below h3⟩
theorem Two.liveB (h : Two w ww p q ex l ex' l') (ys : List Slot) (hy : canon liveV 3 ex' l' = ys) :
    Calls Tryd.prog 18 #[.pointer (some ⟨q.s, 0, none⟩)] ww fun e w' => ∃ a cap, e = .returned (.slice a ys.length cap) ∧ RowIs w' a ys.length ys ww.heap.size ∧ Two w w' p q ex l ex' l' ∧ Turned [] ww w' := by
  have hf := canon_few (so := liveV) h.b.inv (by omega)
  refine (live_any q.s q.e q.m 3 1024 ex' l' ww h.b).mono fun e w' ⟨v, h1, h2, h3⟩ => ?_
  rw [hy] at h2 hf
  obtain ⟨a, cap, rfl, hr⟩ := rowIs_of hf h2
  exact ⟨a, cap, by rw [h1], hr, h.calm (Turned.of_below h3), Turned.of_below h3⟩
theorem Two.waitA (h : Two w ww p q ex l ex' l') (ys : List Slot) (hy : canon waitV 3 ex l = ys) :
    Calls Tryd.prog 20 #[.pointer (some ⟨p.s, 0, none⟩)] ww fun e w' => ∃ a cap, e = .returned (.slice a ys.length cap) ∧ RowIs w' a ys.length ys ww.heap.size ∧ Two w w' p q ex l ex' l' ∧ Turned [] ww w' := by
  have hf := canon_few (so := waitV) h.a.inv (by omega)
  refine (waiting_any p.s p.e p.m 3 1024 ex l ww h.a).mono fun e w' ⟨v, h1, h2, h3⟩ => ?_
  rw [hy] at h2 hf
  obtain ⟨a, cap, rfl, hr⟩ := rowIs_of hf h2
  exact ⟨a, cap, by rw [h1], hr, h.calm (Turned.of_below h3), Turned.of_below h3⟩
theorem Two.waitB (h : Two w ww p q ex l ex' l') (ys : List Slot) (hy : canon waitV 3 ex' l' = ys) :
    Calls Tryd.prog 20 #[.pointer (some ⟨q.s, 0, none⟩)] ww fun e w' => ∃ a cap, e = .returned (.slice a ys.length cap) ∧ RowIs w' a ys.length ys ww.heap.size ∧ Two w w' p q ex l ex' l' ∧ Turned [] ww w' := by
  have hf := canon_few (so := waitV) h.b.inv (by omega)
  refine (waiting_any q.s q.e q.m 3 1024 ex' l' ww h.b).mono fun e w' ⟨v, h1, h2, h3⟩ => ?_
  rw [hy] at h2 hf
  obtain ⟨a, cap, rfl, hr⟩ := rowIs_of hf h2
  exact ⟨a, cap, by rw [h1], hr, h.calm (Turned.of_below h3), Turned.of_below h3⟩
/-- picked among a row's -/
theorem picked_any (ys : List Slot) (c : CallD) (hc : c.ok) (a : Option Addr) (n cap : Nat) (base : Nat) (w : World) (h : RowIs w a n ys base) (x : Slot) (hx : pickS ys c = x) :
    Calls Tryd.prog 25 #[.slice a n cap, encC c] w fun e w' => e = .returned (.agg #[.int .i64 x.e, .int .i64 x.c, .int .i64 x.i]) ∧ Below w.heap.size w w' := by
  by_cases hp : c.odd = true ∨ ys = []
  · have : x = c.x := by rw [← hx]; unfold pickS; rw [if_pos hp]
    rw [this]
    exact picked_x ys c hp a n cap w h.1 h.2.1
  · simp only [not_or, Bool.not_eq_true] at hp
    have : x = ys.getD (c.which % ys.length).toNat zeroS := by rw [← hx]; unfold pickS; rw [if_neg (by simp [hp])]
    rw [this]
    exact picked_i ys c hc hp.1 hp.2 a n cap w h.1 h.2.1
theorem pick_i64 {so : Value → Bool} {n : Nat} {ex : Exts} {l : States} (hI : SInv n ex l) (hn : n ≤ 16384) (c : CallD) (hc : c.ok) : I64 (pickS (canon so n ex l) c).e ∧ I64 (pickS (canon so n ex l) c).c ∧ I64 (pickS (canon so n ex l) c).i := by
  unfold pickS
  split
  · exact hc.2.2.2.1
  · rename_i h
    simp only [not_or, Bool.not_eq_true] at h
    have hpos := List.length_pos_iff.2 h.2
    have hw := hc.2.2.1
    have hm := Int.emod_nonneg c.which (show ((canon so n ex l).length : Int) ≠ 0 by omega)
    have hm2 := Int.emod_lt_of_pos c.which (show 0 < ((canon so n ex l).length : Int) by omega)
    rw [List.getD_eq_getElem?_getD, List.getElem?_eq_getElem (by omega), Option.getD_some]
    exact canon_i64 hI hn (List.getElem_mem _)

/-- a call's own variable -/
theorem callCells_new (w : World) (c : CallD) : CallCells (w.alloc (.cells #[.int .u8 c.doo, .int .i64 c.cls, .int .u16 c.which, .bool c.odd, .int .i64 c.x.e, .int .i64 c.x.c, .int .i64 c.x.i, .int .u64 c.ep] 40)) w.heap.size 0 c := by
  have h := fun j u hu => cells_new w [.int .u8 c.doo, .int .i64 c.cls, .int .u16 c.which, .bool c.odd, .int .i64 c.x.e, .int .i64 c.x.c, .int .i64 c.x.i, .int .u64 c.ep] 40 j u hu
  have h' : ∀ j u, [Value.int .u8 c.doo, .int .i64 c.cls, .int .u16 c.which, .bool c.odd, .int .i64 c.x.e, .int .i64 c.x.c, .int .i64 c.x.i, .int .u64 c.ep][j]? = some u → (w.alloc (.cells #[.int .u8 c.doo, .int .i64 c.cls, .int .u16 c.which, .bool c.odd, .int .i64 c.x.e, .int .i64 c.x.c, .int .i64 c.x.i, .int .u64 c.ep] 40)).cell? ⟨w.heap.size, 0 + j, none⟩ = some u := by
    intro j u hu
    have := h j u hu
    rw [add_none] at this
    exact this
  exact ⟨h' 0 _ rfl, h' 1 _ rfl, h' 2 _ rfl, h' 3 _ rfl, h' 4 _ rfl, h' 5 _ rfl, h' 6 _ rfl, h' 7 _ rfl⟩

/-- two of them, a call's variable, variables that hold slots -/
structure Rd (w ww : World) (p q : Pl) (ex : Exts) (l : States) (ex' : Exts) (l' : States) (B : Nat) (c : CallD) (V : List (Nat × Slot)) : Prop where
  two : Two w ww p q ex l ex' l'
  cc : CallCells ww B 0 c
  far : p.e < B ∧ p.m < B ∧ q.e < B ∧ q.m < B ∧ p.s < B ∧ q.s < B ∧ w.heap.size ≤ B
  vars : ∀ v ∈ V, ResAt ww v.1 v.2 ∧ B < v.1
variable {B : Nat} {c : CallD} {V : List (Nat × Slot)} {ex2' : Exts} {l2' : States}
theorem Rd.step (h : Rd w ww p q ex l ex' l' B c V) (h2 : Two w w3 p q ex2 l2 ex2' l2') {S : List Nat} (t : Turned S ww w3) (hS : ∀ i ∈ S, i = p.e ∨ i = p.m ∨ i = q.e ∨ i = q.m) : Rd w w3 p q ex2 l2 ex2' l2' B c V := by
  have hf := h.far
  have hlow : ∀ i ∈ S, i < B := fun i hi => by rcases hS i hi with e | e | e | e <;> omega
  exact ⟨h2, h.cc.turned t (fun hm => by have := hlow _ hm; omega), h.far, fun v hv => ⟨(h.vars v hv).1.turned t (fun hm => by have := hlow _ hm; have := (h.vars v hv).2; omega), (h.vars v hv).2⟩⟩
theorem Rd.calm (h : Rd w ww p q ex l ex' l' B c V) (t : Turned [] ww w3) : Rd w w3 p q ex l ex' l' B c V := h.step (h.two.calm t) t (by simp)
theorem Rd.lt (h : Rd w ww p q ex l ex' l' B c V) : B < ww.heap.size := lt_of_cell h.cc.c0
theorem Rd.var (h : Rd w ww p q ex l ex' l' B c V) (x : Slot) : Rd w (ww.alloc (.cells #[.int .i64 x.e, .int .i64 x.c, .int .i64 x.i] 24)) p q ex l ex' l' B c ((ww.heap.size, x) :: V) := by
  have h1 := h.calm ((Turned.refl [] ww).alloc (.cells #[.int .i64 x.e, .int .i64 x.c, .int .i64 x.i] 24))
  refine ⟨h1.two, h1.cc, h1.far, fun v hv => ?_⟩
  rcases List.mem_cons.1 hv with rfl | hv
  · exact ⟨res_new ww x, h.lt⟩
  · exact h1.vars v hv
theorem Two.own (h : Two w ww p q ex l ex' l') {S : List Nat} (t : Turned S ww w3) (hS : ∀ i ∈ S, w.heap.size ≤ i ∧ (i ≠ 0 ∧ i ≠ p.s ∧ i ≠ p.e ∧ i ≠ p.m) ∧ (i ≠ q.s ∧ i ≠ q.e ∧ i ≠ q.m)) : Two w w3 p q ex l ex' l' :=
  ⟨h.a.turned t (fun hm => (hS _ hm).2.1.1 rfl) (fun hm => (hS _ hm).2.1.2.1 rfl) (fun hm => (hS _ hm).2.1.2.2.1 rfl) (fun hm => (hS _ hm).2.1.2.2.2 rfl),
    h.b.turned t (fun hm => (hS _ hm).2.1.1 rfl) (fun hm => (hS _ hm).2.2.1 rfl) (fun hm => (hS _ hm).2.2.2.1 rfl) (fun hm => (hS _ hm).2.2.2.2 rfl), h.ea, h.eb, h.newa, h.sep, Turned.below_of h.bel t (fun i hi => (hS i hi).1)⟩
theorem Rd.setv {b : Nat} {y : Slot} (h : Rd w ww p q ex l ex' l' B c [(b, y)]) (x : Slot) : Rd w (((ww.setCell ⟨b, 0, none⟩ (.int .i64 x.e)).setCell ⟨b, 1, none⟩ (.int .i64 x.c)).setCell ⟨b, 2, none⟩ (.int .i64 x.i)) p q ex l ex' l' B c [(b, x)] := by
  obtain ⟨hv, hb⟩ := h.vars (b, y) (by simp)
  obtain ⟨hr, ht⟩ := hv.set x
  have hf := h.far
  simp only at hb ht
  exact ⟨h.two.own ht (fun i hi => by simp only [List.mem_singleton] at hi; omega), h.cc.turned ht (by simp; omega), h.far, fun v hv => by simp only [List.mem_singleton] at hv; subst hv; exact ⟨hr, hb⟩⟩
theorem Two.rd (h : Two w ww p q ex l ex' l') (c : CallD) : Rd w (ww.alloc (.cells #[.int .u8 c.doo, .int .i64 c.cls, .int .u16 c.which, .bool c.odd, .int .i64 c.x.e, .int .i64 c.x.c, .int .i64 c.x.i, .int .u64 c.ep] 40)) p q ex l ex' l' ww.heap.size c [] :=
  ⟨h.calm ((Turned.refl [] ww).alloc _), callCells_new ww c, ⟨h.a.lt.2.1, h.a.lt.2.2, h.b.lt.2.1, h.b.lt.2.2, h.a.lt.1, h.b.lt.1, h.bel.size⟩, by simp⟩

theorem Rd.takeA (h : Rd w ww p q ex l ex' l' B c V) (k : Int) (R : Res) (hR : takeR 3 ex l k = R) :
    Calls Tryd.prog 22 #[.pointer (some ⟨p.s, 0, none⟩), .int .i64 k] ww fun e w' => e = .returned (.tuple #[.agg #[.int .i64 R.x.e, .int .i64 R.x.c, .int .i64 R.x.i], .int .i64 R.err]) ∧ Rd w w' p q R.ex R.l ex' l' B c V :=
  (h.two.takeA k R hR).mono fun e w' ⟨h1, h2, h3⟩ => ⟨h1, h.step h2 h3 (by intro i hi; simp at hi; omega)⟩
theorem Rd.takeB (h : Rd w ww p q ex l ex' l' B c V) (k : Int) (R : Res) (hR : takeR 3 ex' l' k = R) :
    Calls Tryd.prog 22 #[.pointer (some ⟨q.s, 0, none⟩), .int .i64 k] ww fun e w' => e = .returned (.tuple #[.agg #[.int .i64 R.x.e, .int .i64 R.x.c, .int .i64 R.x.i], .int .i64 R.err]) ∧ Rd w w' p q ex l R.ex R.l B c V :=
  (h.two.takeB k R hR).mono fun e w' ⟨h1, h2, h3⟩ => ⟨h1, h.step h2 h3 (by intro i hi; simp at hi; omega)⟩
theorem Rd.dropA (h : Rd w ww p q ex l ex' l' B c V) (x : Slot) (hx : I64 x.e ∧ I64 x.c ∧ I64 x.i) (ep : Nat) (hep : ep < 2 ^ 64) (R : Int × States) (hR : dropR l x ep = R) :
    Calls Tryd.prog 24 #[.pointer (some ⟨p.s, 0, none⟩), .agg #[.int .i64 x.e, .int .i64 x.c, .int .i64 x.i], .int .u64 ep] ww fun e w' => e = .returned (.int .i64 R.1) ∧ Rd w w' p q ex R.2 ex' l' B c V :=
  (h.two.dropA x hx ep hep R hR).mono fun e w' ⟨h1, h2, h3⟩ => ⟨h1, h.step h2 h3 (by intro i hi; simp at hi; omega)⟩
theorem Rd.dropB (h : Rd w ww p q ex l ex' l' B c V) (x : Slot) (hx : I64 x.e ∧ I64 x.c ∧ I64 x.i) (ep : Nat) (hep : ep < 2 ^ 64) (R : Int × States) (hR : dropR l' x ep = R) :
    Calls Tryd.prog 24 #[.pointer (some ⟨q.s, 0, none⟩), .agg #[.int .i64 x.e, .int .i64 x.c, .int .i64 x.i], .int .u64 ep] ww fun e w' => e = .returned (.int .i64 R.1) ∧ Rd w w' p q ex l ex' R.2 B c V :=
  (h.two.dropB x hx ep hep R hR).mono fun e w' ⟨h1, h2, h3⟩ => ⟨h1, h.step h2 h3 (by intro i hi; simp at hi; omega)⟩
theorem Rd.dueA (h : Rd w ww p q ex l ex' l' B c V) (d : Nat) (ys : List Slot) (hy : canon (dueV d) 3 ex l = ys) :
    Calls Tryd.prog 23 #[.pointer (some ⟨p.s, 0, none⟩), .int .u64 d] ww fun e w' => ∃ a cap, e = .returned (.slice a ys.length cap) ∧ RowIs w' a ys.length ys B ∧ Rd w w' p q (exD ex ys) (lD l ys) ex' l' B c V :=
  (h.two.dueA d ys hy).mono fun e w' ⟨a, cap, h1, h2, h3, h4⟩ => ⟨a, cap, h1, ⟨h2.1, h2.2.1, fun x hx => by have := h2.2.2 x hx; have := h.lt; omega⟩, h.step h3 h4 (by intro i hi; simp at hi; omega)⟩
theorem Rd.dueB (h : Rd w ww p q ex l ex' l' B c V) (d : Nat) (ys : List Slot) (hy : canon (dueV d) 3 ex' l' = ys) (a0 : Option Addr) (ys0 : List Slot) (n0 : Nat) (h0 : RowIs ww a0 n0 ys0 B) :
    Calls Tryd.prog 23 #[.pointer (some ⟨q.s, 0, none⟩), .int .u64 d] ww fun e w' => ∃ a cap, e = .returned (.slice a ys.length cap) ∧ RowIs w' a ys.length ys B ∧ RowIs w' a0 n0 ys0 B ∧ Rd w w' p q ex l (exD ex' ys) (lD l' ys) B c V :=
  (h.two.dueB d ys hy).mono fun e w' ⟨a, cap, h1, h2, h3, h4⟩ => ⟨a, cap, h1, ⟨h2.1, h2.2.1, fun x hx => by have := h2.2.2 x hx; have := h.lt; omega⟩, h0.turned h4 (by have := h.far; simp; omega), h.step h3 h4 (by intro i hi; simp at hi; omega)⟩
theorem Rd.liveB (h : Rd w ww p q ex l ex' l' B c V) (ys : List Slot) (hy : canon liveV 3 ex' l' = ys) :
    Calls Tryd.prog 18 #[.pointer (some ⟨q.s, 0, none⟩)] ww fun e w' => ∃ a cap, e = .returned (.slice a ys.length cap) ∧ RowIs w' a ys.length ys B ∧ Rd w w' p q ex l ex' l' B c V :=
  (h.two.liveB ys hy).mono fun e w' ⟨a, cap, h1, h2, h3, h4⟩ => ⟨a, cap, h1, ⟨h2.1, h2.2.1, fun x hx => by have := h2.2.2 x hx; have := h.lt; omega⟩, h.step h3 h4 (by simp)⟩
end Go.Proofs.YtaikapgpkkpdjaaDoor.L
