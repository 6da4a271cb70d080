/- Slots: the program's and the document's beside each other: each call's contract. -/
import Derived.Test.YtaikapgpkkpdjaaDoorTT
import Derived.Test.YtaikapgpkkpdjaaDoorTE
namespace Go.Proofs.YtaikapgpkkpdjaaDoor.L
open Go.ChangeShapes Go.WideShapes Go.ChangeAt Go.RowKit Go.Maps Go.Proofs.YtaikapgpkkpdjaaDoor.G Go.Sort Go.Shelf Go.Lib Go.Deep
set_option linter.unusedVariables false
set_option linter.unusedSimpArgs false

/-- where the document's lie, of which page, how many extents -/
structure Rl where
  n : Nat
  pg : Int
  br : Nat
  bL : Nat
  cap : Nat
abbrev Rl.blk (r : Rl) (rx : Nat → RX) (b : Nat) : Prop := RBlk r.br r.bL r.n rx b
/-- the program's and the document's, made by the call, one behind the other -/
structure Duo (w ww : World) (p : Pl) (r : Rl) (ex : Exts) (l : States) (rx : Nat → RX) : Prop where
  a : St ww p.s p.e p.m r.n r.pg ex l
  b : RefAt ww r.br r.bL r.n r.cap r.pg rx
  newa : w.heap.size ≤ p.s ∧ w.heap.size ≤ p.e ∧ w.heap.size ≤ p.m
  sep : ∃ M, (p.s < M ∧ p.e < M ∧ p.m < M) ∧ ∀ b, r.blk rx b → M ≤ b
  bel : Below w.heap.size w ww

variable {w ww w3 : World} {p : Pl} {r : Rl} {ex ex2 : Exts} {l l2 : States} {rx rx2 : Nat → RX}
theorem Duo.calm (h : Duo w ww p r ex l rx) (t : Turned [] ww w3) : Duo w w3 p r ex l rx :=
  ⟨h.a.calm t, h.b.calm t, h.newa, h.sep, h.bel.trans (t.below.mono h.bel.size)⟩
theorem Duo.few (h : Duo w ww p r ex l rx) : r.n ≤ 32 := h.b.few.1
theorem Duo.stepA (h : Duo w ww p r ex l rx) (hs : St w3 p.s p.e p.m r.n r.pg ex2 l2) {S : List Nat} (t : Turned S ww w3) (hS : ∀ i ∈ S, i = p.e ∨ i = p.m) : Duo w w3 p r ex2 l2 rx := by
  obtain ⟨M, h1, h2⟩ := h.sep
  have hn := h.newa
  have hlow : ∀ i ∈ S, i < M ∧ w.heap.size ≤ i := fun i hi => by rcases hS i hi with e | e <;> omega
  exact ⟨hs, h.b.turned t (fun b hb hm => by have := hlow b hm; have := h2 b hb; omega), h.newa, h.sep, Turned.below_of h.bel t (fun i hi => (hlow i hi).2)⟩
theorem Duo.stepB (h : Duo w ww p r ex l rx) (hs : RefAt w3 r.br r.bL r.n r.cap r.pg rx2) (o : OwnR r.br r.bL r.n rx ww w3) (hb : ∀ b, r.blk rx2 b → r.blk rx b ∨ ww.heap.size ≤ b) : Duo w w3 p r ex l rx2 := by
  obtain ⟨M, h1, h2⟩ := h.sep
  have hn := h.newa
  have hM : M ≤ ww.heap.size := by have := h2 _ (.inl rfl); have := h.b.lt (.inl rfl); omega
  obtain ⟨S, t, hS⟩ := o
  have hlow : ∀ i ∈ S, M ≤ i := fun i hi => h2 i (hS i hi)
  exact ⟨h.a.turned t (fun hm => by have := hlow _ hm; omega) (fun hm => by have := hlow _ hm; omega) (fun hm => by have := hlow _ hm; omega) (fun hm => by have := hlow _ hm; omega), hs, h.newa,
    ⟨M, h1, fun b hbb => (hb b hbb).elim (h2 b) (fun h => Nat.le_trans hM h)⟩, Turned.below_of h.bel t (fun i hi => by have := hlow i hi; omega)⟩

/-- .. and a call's variable, variables that hold slots -/
structure Rq (w ww : World) (p : Pl) (r : Rl) (ex : Exts) (l : States) (rx : Nat → RX) (B : Nat) (c : CallD) (V : List (Nat × Slot)) : Prop where
  duo : Duo w ww p r ex l rx
  cc : CallCells ww B 0 c
  far : p.e < B ∧ p.m < B ∧ p.s < B ∧ w.heap.size ≤ B
  vars : ∀ v ∈ V, ResAt ww v.1 v.2 ∧ B < v.1
variable {B : Nat} {c : CallD} {V : List (Nat × Slot)}
theorem Rq.lt (h : Rq w ww p r ex l rx B c V) : B < ww.heap.size := lt_of_cell h.cc.c0
theorem Rq.stepA (h : Rq w ww p r ex l rx B c V) (h2 : Duo w w3 p r ex2 l2 rx) {S : List Nat} (t : Turned S ww w3) (hS : ∀ i ∈ S, i = p.e ∨ i = p.m) : Rq w w3 p r ex2 l2 rx B c V := by
  have hf := h.far
  have hlow : ∀ i ∈ S, i < B := fun i hi => by rcases hS i hi with e | e <;> omega
  exact ⟨h2, h.cc.turned t (fun hm => by have := hlow _ hm; omega), h.far, fun v hv => ⟨(h.vars v hv).1.turned t (fun hm => by have := hlow _ hm; have := (h.vars v hv).2; omega), (h.vars v hv).2⟩⟩
theorem Rq.stepB (h : Rq w ww p r ex l rx B c V) (hB : ∀ b, r.blk rx b → b < B) (h2 : Duo w w3 p r ex l rx2) (o : OwnR r.br r.bL r.n rx ww w3) : Rq w w3 p r ex l rx2 B c V := by
  obtain ⟨S, t, hS⟩ := o
  have hlow : ∀ i ∈ S, i < B := fun i hi => hB i (hS i hi)
  exact ⟨h2, h.cc.turned t (fun hm => by have := hlow _ hm; omega), h.far, fun v hv => ⟨(h.vars v hv).1.turned t (fun hm => by have := hlow _ hm; have := (h.vars v hv).2; omega), (h.vars v hv).2⟩⟩
theorem Rq.calm (h : Rq w ww p r ex l rx B c V) (t : Turned [] ww w3) : Rq w w3 p r ex l rx B c V := h.stepA (h.duo.calm t) t (by simp)
theorem Rq.var (h : Rq w ww p r ex l rx B c V) (x : Slot) : Rq w (ww.alloc (.cells #[.int .i64 x.e, .int .i64 x.c, .int .i64 x.i] 24)) p r ex l rx B c ((ww.heap.size, x) :: V) := by
  have h1 := h.calm ((Turned.refl [] ww).alloc (.cells #[.int .i64 x.e, .int .i64 x.c, .int .i64 x.i] 24))
  refine ⟨h1.duo, h1.cc, h1.far, fun v hv => ?_⟩
  rcases List.mem_cons.1 hv with rfl | hv
  · exact ⟨res_new ww x, h.lt⟩
  · exact h1.vars v hv
theorem Rq.setv {b : Nat} {y : Slot} (h : Rq w ww p r ex l rx B c [(b, y)]) (hB : ∀ b, r.blk rx b → b < B) (x : Slot) : Rq w (((ww.setCell ⟨b, 0, none⟩ (.int .i64 x.e)).setCell ⟨b, 1, none⟩ (.int .i64 x.c)).setCell ⟨b, 2, none⟩ (.int .i64 x.i)) p r ex l rx B c [(b, x)] := by
  obtain ⟨hv, hb⟩ := h.vars (b, y) (by simp)
  obtain ⟨hr, ht⟩ := hv.set x
  have hf := h.far
  simp only at hb ht
  refine ⟨⟨h.duo.a.turned ht (by simp; omega) (by simp; omega) (by simp; omega) (by simp; omega), h.duo.b.turned ht (fun b' hb' hm => by have := hB b' hb'; simp at hm; omega), h.duo.newa, h.duo.sep, Turned.below_of h.duo.bel ht (fun i hi => by simp at hi; omega)⟩, h.cc.turned ht (by simp; omega), h.far, fun v hv => by simp only [List.mem_singleton] at hv; subst hv; exact ⟨hr, hb⟩⟩
theorem Duo.rq (h : Duo w ww p r ex l rx) (c : CallD) : Rq w (ww.alloc (.cells #[.int .u8 c.doo, .int .i64 c.cls, .int .u16 c.which, .bool c.odd, .int .i64 c.x.e, .int .i64 c.x.c, .int .i64 c.x.i, .int .u64 c.ep] 40)) p r ex l rx ww.heap.size c [] :=
  ⟨h.calm ((Turned.refl [] ww).alloc _), callCells_new ww c, ⟨h.a.lt.2.1, h.a.lt.2.2, h.a.lt.1, h.bel.size⟩, by simp⟩

/-! ### calls of the program's -/
theorem Rq.takeA (h : Rq w ww p r ex l rx B c V) (k : Int) (R : Res) (hR : takeR r.n ex l k = R) :
    Calls Tryd.prog 22 #[.pointer (some ⟨p.s, 0, none⟩), .int .i64 k] ww fun e w' => e = .returned (.tuple #[.agg #[.int .i64 R.x.e, .int .i64 R.x.c, .int .i64 R.x.i], .int .i64 R.err]) ∧ Rq w w' p r R.ex R.l rx B c V := by
  refine (take_any p.s p.e p.m r.n r.pg ex l k ww h.duo.a).mono fun e w' ⟨h1, h2, h3⟩ => ?_
  rw [hR] at h1 h2
  exact ⟨h1, h.stepA (h.duo.stepA h2 h3 (by intro i hi; simpa using hi)) h3 (by intro i hi; simpa using hi)⟩
theorem Rq.dropA (h : Rq w ww p r ex l rx B c V) (x : Slot) (hx : I64 x.e ∧ I64 x.c ∧ I64 x.i) (ep : Nat) (R : Int × States) (hR : dropR l x ep = R) :
    Calls Tryd.prog 24 #[.pointer (some ⟨p.s, 0, none⟩), .agg #[.int .i64 x.e, .int .i64 x.c, .int .i64 x.i], .int .u64 ep] ww fun e w' => e = .returned (.int .i64 R.1) ∧ Rq w w' p r ex R.2 rx B c V := by
  refine (drop_any p.s p.e p.m r.n r.pg ex l x ep hx ww h.duo.a).mono fun e w' ⟨h1, h2, h3⟩ => ?_
  rw [hR] at h1 h2
  exact ⟨h1, h.stepA (h.duo.stepA h2 h3 (by intro i hi; right; simpa using hi)) h3 (by intro i hi; right; simpa using hi)⟩
theorem Rq.dueA (h : Rq w ww p r ex l rx B c V) (d : Nat) (ys : List Slot) (hy : canon (dueV d) r.n ex l = ys) :
    Calls Tryd.prog 23 #[.pointer (some ⟨p.s, 0, none⟩), .int .u64 d] ww fun e w' => ∃ a cap, e = .returned (.slice a ys.length cap) ∧ RowIs w' a ys.length ys B ∧ Rq w w' p r (exD ex ys) (lD l ys) rx B c V := by
  have hf := canon_few (so := dueV d) h.duo.a.inv (by have := h.duo.few; omega)
  have hlt := h.lt
  refine (due_any p.s p.e p.m r.n r.pg ex l d ww h.duo.a).mono fun e w' ⟨v, h1, h2, h3, h4⟩ => ?_
  rw [hy] at h2 h3 hf
  obtain ⟨a, cap, rfl, hr⟩ := rowIs_of hf h2
  exact ⟨a, cap, h1, ⟨hr.1, hr.2.1, fun x hx => by have := hr.2.2 x hx; omega⟩, h.stepA (h.duo.stepA h3 h4 (by intro i hi; simpa using hi)) h4 (by intro i hi; simpa using hi)⟩
theorem Duo.liveA (h : Duo w ww p r ex l rx) (ys : List Slot) (hy : canon liveV r.n ex l = ys) :
    Calls Tryd.prog 18 #[.pointer (some ⟨p.s, 0, none⟩)] ww fun e w' => ∃ a cap, e = .returned (.slice a ys.length cap) ∧ RowIs w' a ys.length ys ww.heap.size ∧ Duo w w' p r ex l rx ∧ Turned [] ww w' := by
  have hf := canon_few (so := liveV) h.a.inv (by have := h.few; omega)
  refine (live_any p.s p.e p.m r.n r.pg ex l ww h.a).mono fun e w' ⟨v, h1, h2, h3⟩ => ?_
  rw [hy] at h2 hf
  obtain ⟨a, cap, rfl, hr⟩ := rowIs_of hf h2
  exact ⟨a, cap, by rw [h1], hr, h.calm (Turned.of_below h3), Turned.of_below h3⟩
theorem Duo.waitA (h : Duo w ww p r ex l rx) (ys : List Slot) (hy : canon waitV r.n ex l = ys) :
    Calls Tryd.prog 20 #[.pointer (some ⟨p.s, 0, none⟩)] ww fun e w' => ∃ a cap, e = .returned (.slice a ys.length cap) ∧ RowIs w' a ys.length ys ww.heap.size ∧ Duo w w' p r ex l rx ∧ Turned [] ww w' := by
  have hf := canon_few (so := waitV) h.a.inv (by have := h.few; omega)
  refine (waiting_any p.s p.e p.m r.n r.pg ex l ww h.a).mono fun e w' ⟨v, h1, h2, h3⟩ => ?_
  rw [hy] at h2 hf
  obtain ⟨a, cap, rfl, hr⟩ := rowIs_of hf h2
  exact ⟨a, cap, by rw [h1], hr, h.calm (Turned.of_below h3), Turned.of_below h3⟩

/-! ### calls of the document's -/
theorem TakeIs.blk {n br bL : Nat} {rx rx' : Nat → RX} {c : Int} {lo : Nat} {x : Slot} {err : Int} (h : TakeIs n rx c lo x err rx') {b : Nat} (hb : RBlk br bL n rx' b) : RBlk br bL n rx b ∨ lo ≤ b := by
  cases h with
  | bad _ => exact .inl hb
  | found i k hc hi hcl hk h0 hb' hkb => exact .inl (rxS_blk hb)
  | fresh i sb eb hc hi hcl ha hb' hs he =>
    rcases rxNew_blk (rxS_blk hb) with h | rfl | rfl
    · exact .inl h
    · exact .inr hs
    · exact .inr he
  | full _ _ _ => exact .inl hb
theorem Rq.takeB {ex0' : Exts} {l0 : States} (h : Rq w ww p r ex l rx B c V) (hB : ∀ b, r.blk rx b → b < B) (hI : SInv r.n ex0' l0) (hRel : Rel r.n ex0' l0 rx) (k : Int) (R : Res) (hR : takeR r.n ex0' l0 k = R) :
    Calls Tryd.prog 29 #[.pointer (some ⟨r.br, 0, none⟩), .int .i64 k] ww fun e w' => e = .returned (.tuple #[.agg #[.int .i64 R.x.e, .int .i64 R.x.c, .int .i64 R.x.i], .int .i64 R.err]) ∧ ∃ rx', Rq w w' p r ex l rx' B c V ∧ Rel r.n R.ex R.l rx' := by
  refine (rtake k ww h.duo.b).mono fun e w' ⟨x, err, rx', h1, h2, h3, h4⟩ => ?_
  obtain ⟨e1, e2, e3⟩ := hRel.take hI h2 h3.num
  rw [hR] at e1 e2 e3
  refine ⟨by rw [h1, e1, e2]; rfl, rx', h.stepB hB (h.duo.stepB h3 h4 (fun b hb => h2.blk hb)) h4, e3⟩
theorem dropRx_blk {n br bL : Nat} {rx : Nat → RX} {e i ep : Nat} {b : Nat} (h : RBlk br bL n (dropRx rx e i ep) b) : RBlk br bL n rx b := by
  unfold dropRx at h
  rcases h with rfl | hb | ⟨j, hj, hK, e'⟩
  · exact .inl rfl
  · exact .inr (.inl hb)
  · refine rxS_blk (e := e) (k := i) (v := 2) (.inr (.inr ⟨j, hj, ?_⟩))
    unfold rxE at hK e'
    by_cases hji : j = e
    · subst hji; rw [updR_same] at hK e'; exact ⟨hK, e'⟩
    · rw [updR_ne hji] at hK e'; exact ⟨hK, e'⟩
theorem Rq.dropB {ex0' : Exts} {l0 : States} (h : Rq w ww p r ex l rx B c V) (hB : ∀ b, r.blk rx b → b < B) (hI : SInv r.n ex0' l0) (hRel : Rel r.n ex0' l0 rx) (x : Slot) (hx : I64 x.e ∧ I64 x.c ∧ I64 x.i) (ep : Nat) (hep : ep < 2 ^ 64) (R : Int × States) (hR : dropR l0 x ep = R) :
    Calls Tryd.prog 31 #[.pointer (some ⟨r.br, 0, none⟩), .agg #[.int .i64 x.e, .int .i64 x.c, .int .i64 x.i], .int .u64 ep] ww fun e w' => e = .returned (.int .i64 R.1) ∧ ∃ rx', Rq w w' p r ex l rx' B c V ∧ Rel r.n ex0' R.2 rx' := by
  refine (rdrop x hx ep hep ww h.duo.b).mono fun e w' hp => ?_
  obtain ⟨s1, s2⟩ := hRel.state hI x
  unfold rdropPost at hp
  rw [dropR_eq] at hR
  by_cases hs : stateR r.n rx x = 1
  · rw [if_pos hs] at hp
    rw [if_pos (s1.1 hs)] at hR
    subst hR
    obtain ⟨p1, p2, p3⟩ := hp
    obtain ⟨e', k, hxx, he, hk⟩ := s2 hs
    have h1 : x.e.toNat = e' := by rw [hxx]; simp
    have h2 : x.i.toNat = k := by rw [hxx]; simp
    rw [h1, h2] at p2
    exact ⟨p1, _, h.stepB hB (h.duo.stepB p2 p3 (fun b hb => .inl (dropRx_blk hb))) p3, hRel.drop1 x ep hxx he hk hep p2.num⟩
  · rw [if_neg hs] at hp
    rw [if_neg (fun h => hs (s1.2 h))] at hR
    subst hR
    obtain ⟨p1, p2, p3⟩ := hp
    exact ⟨p1, _, h.stepB hB (h.duo.stepB p2 p3 (fun b hb => .inl hb)) p3, hRel⟩
theorem dueRx_blk' {n br bL : Nat} {rx : Nat → RX} {ep : Nat} {b : Nat} (h : RBlk br bL n (dueRx rx ep n) b) : RBlk br bL n rx b := by
  rcases h with h | h | ⟨i, hi, hK, e⟩
  · exact .inl h
  · exact .inr (.inl h)
  · refine .inr (.inr ⟨i, hi, ?_⟩)
    unfold dueRx at hK e
    rw [if_pos hi] at hK e
    unfold dueX1 at hK e
    by_cases hs : someS (rx i) ep (rx i).K = true
    · rw [if_pos hs] at hK e; exact ⟨hK, e⟩
    · rw [if_neg hs] at hK; exact absurd rfl hK
theorem Rq.dueB {ex0' : Exts} {l0 : States} (h : Rq w ww p r ex l rx B c V) (hB : ∀ b, r.blk rx b → b < B) (hI : SInv r.n ex0' l0) (hRel : Rel r.n ex0' l0 rx) (d : Nat) (hd : d < 2 ^ 64) (ys : List Slot) (hy : canon (dueV d) r.n ex0' l0 = ys) (a0 : Option Addr) (ys0 : List Slot) (n0 : Nat) (h0 : RowIs ww a0 n0 ys0 B) :
    Calls Tryd.prog 30 #[.pointer (some ⟨r.br, 0, none⟩), .int .u64 d] ww fun e w' => ∃ a cap, e = .returned (.slice a ys.length cap) ∧ RowIs w' a ys.length ys B ∧ RowIs w' a0 n0 ys0 B ∧ ∃ rx', Rq w w' p r ex l rx' B c V ∧ Rel r.n (exD ex0' ys) (lD l0 ys) rx' := by
  have hf := canon_few (so := dueV d) hI (by have := h.duo.few; omega)
  have hlt := h.lt
  refine (rdue d hd ww h.duo.b).mono fun e w' ⟨v, h1, h2⟩ => ?_
  have e1 : dueOut rx d r.n = ys := (hRel.due hI d).trans hy
  have hown := h2.own
  rw [e1] at hown
  rw [hy] at hf
  obtain ⟨a, cap, rfl, hr⟩ := rowIs_of hf hown
  have hrel := hRel.dues hI d h2.ref.num
  rw [hy] at hrel
  refine ⟨a, cap, h1, ⟨hr.1, hr.2.1, fun x hx => by have := hr.2.2 x hx; omega⟩, ?_, _, h.stepB hB (h.duo.stepB h2.ref h2.chg (fun b hb => .inl (dueRx_blk' hb))) h2.chg, hrel⟩
  obtain ⟨S, t, hS⟩ := h2.chg
  exact h0.turned t (fun i hi => hB i (hS i hi))
theorem Duo.allB (h : Duo w ww p r ex l rx) (what : Int) (hw : 0 ≤ what ∧ what ≤ 2) (ys : List Slot) (hy : allR rx what r.n = ys) (hl : ys.length ≤ 1048576) :
    Calls Tryd.prog 19 #[.pointer (some ⟨r.br, 0, none⟩), .int .i64 what] ww fun e w' => ∃ a cap, e = .returned (.slice a ys.length cap) ∧ RowIs w' a ys.length ys ww.heap.size ∧ Duo w w' p r ex l rx ∧ Turned [] ww w' := by
  refine (rall what hw ww h.b).mono fun e w' ⟨v, h1, h2, h3⟩ => ?_
  rw [hy] at h2
  obtain ⟨a, cap, rfl, hr⟩ := rowIs_of hl h2
  exact ⟨a, cap, by rw [h1], hr, h.calm (Turned.of_below h3), Turned.of_below h3⟩
theorem Rq.allB (h : Rq w ww p r ex l rx B c V) (what : Int) (hw : 0 ≤ what ∧ what ≤ 2) (ys : List Slot) (hy : allR rx what r.n = ys) (hl : ys.length ≤ 1048576) :
    Calls Tryd.prog 19 #[.pointer (some ⟨r.br, 0, none⟩), .int .i64 what] ww fun e w' => ∃ a cap, e = .returned (.slice a ys.length cap) ∧ RowIs w' a ys.length ys B ∧ Rq w w' p r ex l rx B c V :=
  (h.duo.allB what hw ys hy hl).mono fun e w' ⟨a, cap, h1, h2, h3, h4⟩ => ⟨a, cap, h1, ⟨h2.1, h2.2.1, fun x hx => by have := h2.2.2 x hx; have := h.lt; omega⟩, h.stepA h3 h4 (by simp)⟩
end Go.Proofs.YtaikapgpkkpdjaaDoor.L
