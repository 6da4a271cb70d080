/- Radix: a way to a node is taken away: the plain law. -/
import Derived.Test.YtmpbhoijkcanmaaRL
namespace Go.Proofs.Ytmpbhoijkcanmaa.R
open Go.ChangeShapes Go.WideShapes Go.ChangeAt Go.RowKit Go.Maps Go.Proofs.Ytmpbhoijkcanmaa.G
set_option linter.unusedVariables false
set_option linter.unusedSimpArgs false
set_option linter.unnecessarySimpa false

variable {F G H : Fo} {pend : Nat → Nat} {pendS : Slot → Nat} {exc : Nat} {w w' : World} {p : Pf}
/-- what is left of a forest -/
structure Sub (F G : Fo) : Prop where
  ext : Ext G F
  refs : ∀ i, i ∈ G.ids → (G.nd i).refs ≤ (F.nd i).refs
  held : G.held = F.held
  last : G.last = F.last
  sl : ∀ s, cnt G.sl s ≤ cnt F.sl s
theorem Sub.refl (F : Fo) : Sub F F := ⟨Ext.refl F, fun _ _ => Nat.le_refl _, rfl, rfl, fun _ => Nat.le_refl _⟩
theorem Sub.trans (a : Sub F G) (b : Sub G H) : Sub F H := ⟨b.ext.trans a.ext, fun i hi => Nat.le_trans (b.refs i hi) (a.refs i (b.ext.mem i hi)), b.held.trans a.held, b.last.trans a.last, fun s => Nat.le_trans (b.sl s) (a.sl s)⟩
theorem Sub.own (a : Sub F G) {b : Nat} (h : p.own G b) : p.own F b := by
  rcases h with rfl | rfl | rfl | rfl | ⟨i, hi, rfl⟩
  · exact .inl rfl
  · exact .inr (.inl rfl)
  · exact .inr (.inr (.inl rfl))
  · exact .inr (.inr (.inr (.inl rfl)))
  · exact .inr (.inr (.inr (.inr ⟨i, a.ext.mem i hi, rfl⟩)))
def decRef (F : Fo) (n : Nat) : Fo := setNd F n (setRefs (F.nd n) ((F.nd n).refs - 1))
def dropId (F : Fo) (n : Nat) : Fo := { F with ids := F.ids.filter fun i => decide (i ≠ n) }
def withSl (F : Fo) (l : List (Slot × Value)) : Fo := { F with sl := l }
def dec1 (pend : Nat → Nat) (n : Nat) : Nat → Nat := fun i => if i = n then pend i - 1 else pend i
theorem decRef_nd (F : Fo) (n i : Nat) : ((decRef F n).nd i).kids = (F.nd i).kids ∧ ((decRef F n).nd i).ents = (F.nd i).ents ∧ ((decRef F n).nd i).bits = (F.nd i).bits ∧ ((decRef F n).nd i).refs = if i = n then (F.nd i).refs - 1 else (F.nd i).refs := by
  show ((upN _ _ _ i).kids = _) ∧ ((upN _ _ _ i).ents = _) ∧ ((upN _ _ _ i).bits = _) ∧ ((upN _ _ _ i).refs = _)
  unfold upN
  by_cases e : i = n
  · subst e; simp [setRefs]
  · simp [e]
theorem decRef_sub (F : Fo) (n : Nat) : Sub F (decRef F n) :=
  ⟨⟨fun _ h => h, fun i _ => (decRef_nd F n i).1.symm, fun i _ => (decRef_nd F n i).2.1.symm, fun i _ => (decRef_nd F n i).2.2.1.symm, fun _ _ => rfl⟩,
    fun i _ => by rw [(decRef_nd F n i).2.2.2]; split <;> omega, rfl, rfl, fun _ => Nat.le_refl _⟩
theorem ext_decRef (F : Fo) (n : Nat) : Ext F (decRef F n) :=
  ⟨fun _ h => h, fun i _ => (decRef_nd F n i).1, fun i _ => (decRef_nd F n i).2.1, fun i _ => (decRef_nd F n i).2.2.1, fun _ _ => rfl⟩
theorem dropId_mem {n i : Nat} : i ∈ (dropId F n).ids ↔ i ∈ F.ids ∧ i ≠ n := by
  show i ∈ F.ids.filter _ ↔ _
  rw [List.mem_filter]; simp
theorem dropId_sub (F : Fo) (n : Nat) : Sub F (dropId F n) :=
  ⟨⟨fun i h => (dropId_mem.1 h).1, fun _ _ => rfl, fun _ _ => rfl, fun _ _ => rfl, fun _ _ => rfl⟩, fun _ _ => Nat.le_refl _, rfl, rfl, fun _ => Nat.le_refl _⟩
theorem Inv.decRef (h : Inv F pend pendS 0) {n : Nat} (hn : n ∈ F.ids) (hp : 0 < pend n) : Inv (R.decRef F n) (dec1 pend n) pendS n := by
  have e := ext_decRef F n
  have hr := h.refs n hn
  refine ⟨h.nd, h.pos, h.lev, fun i hi => ((h.ok i hi).ext e).same (e.kids i hi) (e.ents i hi) (e.bits i hi), fun i hi => by rw [emptyB_same (e.kids i hi) (e.bits i hi)]; exact h.full i hi, fun i hi => ?_, h.held, fun s => ?_, fun i hi => ?_⟩
  · rw [(decRef_nd F n i).2.2.2, refc_same (F := F) (G := R.decRef F n) rfl e.kids]
    have := h.refs i hi
    show _ = refc F i + cnt F.held (i : Int) + if i = n then pend i - 1 else pend i
    by_cases hin : i = n
    · subst hin; rw [if_pos rfl, if_pos rfl]; omega
    · rw [if_neg hin, if_neg hin]; omega
  · rw [slc_same (F := F) (G := R.decRef F n) rfl e.ents e.bits]; exact h.sls s
  · by_cases hin : i = n
    · exact .inr hin
    · left
      rw [(decRef_nd F n i).2.2.2, if_neg hin]
      rcases h.live i hi with h' | h'
      · exact h'
      · have := (h.pos i hi).1; omega
theorem Inv.exc0 (h : Inv F pend pendS exc) (he : exc ∈ F.ids → 0 < (F.nd exc).refs) : Inv F pend pendS 0 :=
  ⟨h.nd, h.pos, h.lev, h.ok, h.full, h.refs, h.held, h.sls, fun i hi => by
    rcases h.live i hi with h' | rfl
    · exact .inl h'
    · exact .inl (he hi)⟩
theorem sum_drop (f : Nat → Nat) (n : Nat) : ∀ l : List Nat, l.Nodup → n ∈ l → (l.map f).sum = ((l.filter fun i => decide (i ≠ n)).map f).sum + f n
  | [], _, h => by cases h
  | a :: l, hnd, h => by
    rw [List.nodup_cons] at hnd
    rw [List.filter_cons]
    by_cases e : a = n
    · subst e
      rw [if_neg (by simp)]
      have : l.filter (fun i => decide (i ≠ a)) = l := List.filter_eq_self.2 fun i hi => by
        have : i ≠ a := fun e => hnd.1 (e ▸ hi)
        simpa using this
      rw [this, List.map_cons, List.sum_cons]; omega
    · rw [if_pos (by simpa using e), List.map_cons, List.sum_cons, List.map_cons, List.sum_cons]
      rcases List.mem_cons.1 h with h | h
      · exact absurd h.symm e
      · have := sum_drop f n l hnd.2 h; omega
theorem dropId_refc (h : F.ids.Nodup) {n : Nat} (hn : n ∈ F.ids) (i : Nat) : refc F i = refc (dropId F n) i + hits (F.nd n).kids 16 i := sum_drop (fun m => hits (F.nd m).kids 16 i) n F.ids h hn
theorem dropId_slc (h : F.ids.Nodup) {n : Nat} (hn : n ∈ F.ids) (s : Slot) : slc F s = slc (dropId F n) s + slHits (F.nd n) 16 s := sum_drop (fun m => slHits (F.nd m) 16 s) n F.ids h hn
theorem Inv.dropId (h : Inv F pend pendS exc) {n : Nat} (hn : n ∈ F.ids) (h0 : (F.nd n).refs = 0) (he : exc = 0 ∨ exc = n) :
    Inv (R.dropId F n) (fun i => pend i + hits (F.nd n).kids 16 i) (fun s => pendS s + slHits (F.nd n) 16 s) 0 := by
  have hr := h.refs n hn
  have hc0 : refc F n = 0 := by omega
  have hh0 : cnt F.held (n : Int) = 0 := by omega
  refine ⟨h.nd.filter _, fun i hi => h.pos i (dropId_mem.1 hi).1, fun i hi => h.lev i (dropId_mem.1 hi).1, fun i hi => ?_, fun i hi => h.full i (dropId_mem.1 hi).1, fun i hi => ?_, fun r hr => ?_, fun s => ?_, fun i hi => ?_⟩
  · obtain ⟨hi, hne⟩ := dropId_mem.1 hi
    have hk := h.ok i hi
    refine ⟨fun j hj => ?_, hk.bits, hk.ents, hk.zero⟩
    rcases hk.kid j hj with h1 | ⟨h1, h2, h3⟩
    · exact .inl h1
    · refine .inr ⟨dropId_mem.2 ⟨h1, fun e => ?_⟩, h2, h3⟩
      have := refc_pos hi hj e
      omega
  · have h1 := h.refs i (dropId_mem.1 hi).1
    have h2 := dropId_refc h.nd hn i
    show (F.nd i).refs = refc (R.dropId F n) i + cnt F.held (i : Int) + _
    omega
  · obtain ⟨m, e, hm, hl⟩ := h.held r hr
    refine ⟨m, e, dropId_mem.2 ⟨hm, fun e2 => ?_⟩, hl⟩
    subst e2
    rw [e] at hr
    have hr' : 0 < cnt F.held (m : Int) := hr
    omega
  · have h1 := h.sls s
    have h2 := dropId_slc h.nd hn s
    show cnt F.sl s = _
    omega
  · obtain ⟨hi, hne⟩ := dropId_mem.1 hi
    rcases h.live i hi with h' | h'
    · exact .inl h'
    · have := (h.pos i hi).1; omega
theorem Inv.withSl (h : Inv F pend pendS exc) {l : List (Slot × Value)} {pendS2 : Slot → Nat} (hl : ∀ s, cnt l s = slc F s + pendS2 s) : Inv (R.withSl F l) pend pendS2 exc :=
  ⟨h.nd, h.pos, h.lev, fun i hi => ⟨(h.ok i hi).kid, (h.ok i hi).bits, (h.ok i hi).ents, (h.ok i hi).zero⟩, h.full, h.refs, h.held, fun s => hl s, h.live⟩
theorem Inv.pendEq {pend2 : Nat → Nat} {pendS2 : Slot → Nat} (h : Inv F pend pendS exc) (a : ∀ i, i ∈ F.ids → pend2 i = pend i) (b : ∀ s, pendS2 s = pendS s) : Inv F pend2 pendS2 exc :=
  ⟨h.nd, h.pos, h.lev, h.ok, h.full, fun i hi => by rw [a i hi]; exact h.refs i hi, h.held, fun s => by rw [b s]; exact h.sls s, h.live⟩
/-- which slots went -/
def Gone (F G : Fo) (g g' : List (Slot × Value)) : Prop := ∀ s, (mget g' s).isSome = true ↔ ((mget g s).isSome = true ∨ (0 < cnt F.sl s ∧ cnt G.sl s = 0))
theorem Gone.refl (h : ∀ s, cnt G.sl s = cnt F.sl s) (g : List (Slot × Value)) : Gone F G g g := fun s => by
  have := h s
  constructor
  · exact .inl
  · rintro (h | ⟨h1, h2⟩)
    · exact h
    · omega
theorem Gone.trans {g1 g2 g3 : List (Slot × Value)} (a : Gone F G g1 g2) (b : Gone G H g2 g3) (h1 : ∀ s, cnt G.sl s ≤ cnt F.sl s) (h2 : ∀ s, cnt H.sl s ≤ cnt G.sl s) : Gone F H g1 g3 := fun s => by
  rw [b s, a s]
  have := h1 s
  have := h2 s
  constructor
  · rintro ((h | ⟨h, h'⟩) | ⟨h, h'⟩)
    · exact .inl h
    · exact .inr ⟨h, by omega⟩
    · exact .inr ⟨by omega, h'⟩
  · rintro (h | ⟨h, h'⟩)
    · exact .inl (.inl h)
    · by_cases hz : cnt G.sl s = 0
      · exact .inl (.inr ⟨h, hz⟩)
      · exact .inr ⟨by omega, h'⟩

/-! ### in memory -/
/-- w' is w, but for blocks of a kind, and new ones -/
def OwnP (O : Nat → Prop) (w w' : World) : Prop := ∃ S, Turned S w w' ∧ ∀ b ∈ S, O b
theorem OwnP.of {O : Nat → Prop} (t : Turned [] w w') : OwnP O w w' := ⟨[], t, by simp⟩
theorem OwnP.step {O : Nat → Prop} {w2 w3 : World} (h : OwnP O w w2) {S : List Nat} (t : Turned S w2 w3) (hS : ∀ b ∈ S, w.heap.size ≤ b ∨ O b) : OwnP O w w3 := by
  obtain ⟨T, h1, h2⟩ := h
  refine ⟨T ++ S.filter (fun b => decide (b < w.heap.size)), ?_, fun b hb => ?_⟩
  · refine ⟨t.os.trans h1.os, t.tape.trans h1.tape, t.output.trans h1.output, Nat.le_trans h1.size t.size, fun i hi hn => ?_⟩
    rw [List.mem_append, not_or, List.mem_filter] at hn
    have h3 : i ∉ S := fun hm => hn.2 ⟨hm, by simpa using hi⟩
    exact (t.block i (Nat.lt_of_lt_of_le hi h1.size) h3).trans (h1.block i hi hn.1)
  · rw [List.mem_append, List.mem_filter] at hb
    rcases hb with hb | ⟨hb, hl⟩
    · exact h2 b hb
    · rcases hS b hb with h | h
      · simp at hl; omega
      · exact h
theorem OwnP.trans {O O' : Nat → Prop} {w2 w3 : World} (h : OwnP O w w2) (k : OwnP O' w2 w3) (ho : ∀ b, O' b → w.heap.size ≤ b ∨ O b) : OwnP O w w3 := by
  obtain ⟨S, t, hS⟩ := k
  exact h.step t (fun b hb => ho b (hS b hb))
theorem OwnP.size {O : Nat → Prop} (h : OwnP O w w') : w.heap.size ≤ w'.heap.size := let ⟨_, t, _⟩ := h; t.size
theorem OwnP.nodeAt {O : Nat → Prop} (h : OwnP O w w') {b : Nat} {x : Node} (hx : NodeAt w b x) (ho : ¬ O b) : NodeAt w' b x := by
  obtain ⟨S, t, hS⟩ := h
  exact hx.turned t (fun hm => ho (hS b hm))
theorem FoAt.decRef (h : FoAt w p F) {n : Nat} (hn : n ∈ F.ids) : FoAt (w.setCell ⟨p.blk n, 81, none⟩ (.int .i64 ((F.nd n).refs - 1 : Nat))) p (R.decRef F n) :=
  h.setNd n hn _ ((h.nd n hn).setRefs _) ((Turned.refl [p.blk n] w).setCell (p := ⟨p.blk n, 81, none⟩) (.inl (by simp)) _)
theorem nodesL_drop (p : Pf) (F : Fo) (n : Nat) : nodesL p (dropId F n) = mdel (nodesL p F) (n : Int) := by
  unfold nodesL mdel R.dropId
  simp only
  induction F.ids with
  | nil => rfl
  | cons i l ih =>
    rw [List.map_cons, List.filter_cons, List.filter_cons]
    by_cases e : i = n
    · subst e; rw [if_neg (by simp), if_neg (by simp)]; exact ih
    · rw [if_pos (by simpa using e), if_pos (by simp; omega), List.map_cons, ih]
theorem FoAt.dropId {w2 : World} (h : FoAt w p F) (n : Nat) (hm : MapIs Try.prog 3 encI w2 p.m (mdel (nodesL p F) (n : Int))) (t : Turned [p.m] w w2) : FoAt w2 p (R.dropId F n) := by
  have hd := h.dis
  rw [← nodesL_drop] at hm
  refine ⟨t.cell h.c0 (show p.f ∉ [p.m] by simpa using hd.1.1), t.cell h.c1 (show p.f ∉ [p.m] by simpa using hd.1.1), t.cell h.c2 (show p.f ∉ [p.m] by simpa using hd.1.1), t.cell h.c3 (show p.f ∉ [p.m] by simpa using hd.1.1), fun j => (t.frozen (a := ⟨p.f, j, none⟩) (h.lt (.inl rfl)) (show p.f ∉ [p.m] by simpa using hd.1.1)).trans (h.fz j),
    hm, h.held.turned t (by simpa using hd.2.1.1.symm), h.sl.turned t (by simpa using hd.2.1.2.symm), fun i hi => (h.nd i (dropId_mem.1 hi).1).turned t (by simpa using (h.far i (dropId_mem.1 hi).1).2.1), h.nh, h.ns,
    fun i j hi hj hij => h.inj i j (dropId_mem.1 hi).1 (dropId_mem.1 hj).1 hij, fun i hi => h.far i (dropId_mem.1 hi).1, h.dis⟩
theorem FoAt.own_drop (h : FoAt w p F) {n : Nat} (hn : n ∈ F.ids) : ¬ p.own (R.dropId F n) (p.blk n) := by
  have hf := h.far n hn
  rintro (e | e | e | e | ⟨i, hi, e⟩)
  · exact hf.1 e
  · exact hf.2.1 e
  · exact hf.2.2.1 e
  · exact hf.2.2.2 e
  · obtain ⟨hi, hne⟩ := dropId_mem.1 hi
    exact h.inj n i hn hi (Ne.symm hne) e
end Go.Proofs.Ytmpbhoijkcanmaa.R
