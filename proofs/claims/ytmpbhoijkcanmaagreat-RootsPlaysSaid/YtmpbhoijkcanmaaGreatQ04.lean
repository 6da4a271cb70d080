/- Maps of pages, and versions of them: lemmas, part 4 of 23. -/
import Derived.Test.YtmpbhoijkcanmaaGreatQ03

/- Radix: a map is made of another one: the plain law. -/
namespace Go.Proofs.YtmpbhoijkcanmaaGreat.R
open Go.ChangeShapes Go.WideShapes Go.ChangeAt Go.RowKit Go.Maps Go.Proofs.YtmpbhoijkcanmaaGreat.G
set_option linter.unusedVariables false
set_option linter.unusedSimpArgs false
set_option linter.unnecessarySimpa false

variable {F : Fo} {pend : Nat → Nat} {pendS : Slot → Nat} {exc : Nat}
def Chg.ok : Chg → Prop
  | .set _ e => e.ok
  | .clear => True
def Chg.res : Chg → Option Ent
  | .set _ e => some e
  | .clear => none
def copF (F : Fo) (x : Node) (l : Nat) : Fo × Nat := if emptyB x then (F, 0) else (addN F x l, F.last + 1)
def kidOf (F : Fo) (n i : Nat) : Nat := if n = 0 then 0 else (F.nd n).kids i
def alongF : Nat → Fo → Nat → Nat → Chg → Fo × Nat
  | 0, F, n, pg, c => copF F (c.app (copSrc F n) (partN pg 2)) 2
  | m + 1, F, n, pg, c => copF (alongF m F (kidOf F n (partN pg (1 - m))) pg c).1 (setKid (copSrc (alongF m F (kidOf F n (partN pg (1 - m))) pg c).1 n) (partN pg (1 - m)) (alongF m F (kidOf F n (partN pg (1 - m))) pg c).2) (1 - m)
/-- what a node leads to, at a page; levels to go below it: m -/
def leafE (x : Node) (q : Nat) : Option Ent := if x.bits.testBit (partN q 2) then some (x.ents (partN q 2)) else none
def getL : Nat → Fo → Nat → Nat → Option Ent
  | 0, F, n, q => if n = 0 then none else leafE (F.nd n) q
  | m + 1, F, n, q => getL m F (kidOf F n (partN q (1 - m))) q
def getN : Nat → Fo → Node → Nat → Option Ent
  | 0, F, x, q => leafE x q
  | m + 1, F, x, q => getL m F (x.kids (partN q (1 - m))) q
theorem getL_zero : ∀ (m : Nat) (F : Fo) (q : Nat), getL m F 0 q = none
  | 0, F, q => rfl
  | m + 1, F, q => getL_zero m F q
theorem getL_pos (m : Nat) (F : Fo) {n : Nat} (q : Nat) (h : n ≠ 0) : getL m F n q = getN m F (F.nd n) q := by
  cases m with
  | zero => exact if_neg h
  | succ m => show getL m F (kidOf F n _) q = getL m F _ q; unfold kidOf; rw [if_neg h]
theorem getN_same {m : Nat} {F : Fo} {x y : Node} (q : Nat) (a : y.kids = x.kids) (b : y.ents = x.ents) (c : y.bits = x.bits) : getN m F y q = getN m F x q := by
  cases m with
  | zero => show leafE y q = leafE x q; unfold leafE; rw [b, c]
  | succ m => show getL m F (y.kids _) q = getL m F (x.kids _) q; rw [a]
/-- more nodes make no difference -/
theorem getL_ext (h : Inv F pend pendS exc) {G : Fo} (e : Ext F G) : ∀ (m n q : Nat), n = 0 ∨ n ∈ F.ids → getL m G n q = getL m F n q
  | 0, n, q, hn => by
    rcases hn with rfl | hn
    · rfl
    · unfold getL leafE
      rw [e.bits n hn, e.ents n hn]
  | m + 1, n, q, hn => by
    show getL m G (kidOf G n _) q = getL m F (kidOf F n _) q
    rcases hn with rfl | hn
    · unfold kidOf; rw [if_pos rfl, if_pos rfl, getL_zero, getL_zero]
    · have : kidOf G n (partN q (1 - m)) = kidOf F n (partN q (1 - m)) := by unfold kidOf; rw [e.kids n hn]
      rw [this]
      refine getL_ext h e m _ q ?_
      unfold kidOf
      split
      · exact .inl rfl
      · exact ((h.ok n hn).kid _ (partN_lt _ _)).imp id (fun h => h.1)
theorem getN_ext (h : Inv F pend pendS exc) {G : Fo} (e : Ext F G) {l : Nat} {x : Node} (hx : NodeOk F l x) (m q : Nat) : getN m G x q = getN m F x q := by
  cases m with
  | zero => rfl
  | succ m => exact getL_ext h e m _ q ((hx.kid _ (partN_lt _ _)).imp id (fun h => h.1))
theorem noKids_iff {f : Nat → Nat} : noKids f = true ↔ ∀ j, j < 16 → f j = 0 := by
  unfold noKids
  rw [List.all_eq_true]
  exact ⟨fun h j hj => by simpa using h j (List.mem_range.2 hj), fun h j hj => by simpa using h j (List.mem_range.1 hj)⟩
theorem emptyB_iff {x : Node} : emptyB x = true ↔ x.bits = 0 ∧ ∀ j, j < 16 → x.kids j = 0 := by
  unfold emptyB
  rw [Bool.and_eq_true, noKids_iff]
  simp
theorem getN_empty {x : Node} (h : emptyB x = true) (m : Nat) (F : Fo) (q : Nat) : getN m F x q = none := by
  obtain ⟨h1, h2⟩ := emptyB_iff.1 h
  cases m with
  | zero => show leafE x q = none; unfold leafE; rw [h1]; simp
  | succ m => show getL m F _ q = none; rw [h2 _ (partN_lt _ _), getL_zero]

/-- what came of a copy -/
structure CopIs (F : Fo) (pend : Nat → Nat) (pendS : Slot → Nat) (m l k : Nat) (R : Fo × Nat) (g : Nat → Option Ent) : Prop where
  inv : Inv R.1 pend pendS R.2
  root : R.2 = 0 ∨ (R.2 ∈ R.1.ids ∧ R.1.lev R.2 = l)
  new : R.2 = 0 ∨ F.last < R.2
  ext : Ext F R.1
  held : R.1.held = F.held
  last : F.last ≤ R.1.last ∧ R.1.last ≤ F.last + k
  len : R.1.ids.length ≤ F.ids.length + k
  get : ∀ q, getL m R.1 R.2 q = g q
theorem copF_is (h : Inv F pend pendS exc) (hs : Small F pend pendS) {l : Nat} (hl : l ≤ 2) {x : Node} (hx : NodeOk F l x) (h0 : x.refs = 0) (hp : pend (F.last + 1) = 0) (he : exc = 0 ∨ ∃ q, q < 16 ∧ x.kids q = exc) (m : Nat) :
    CopIs F pend pendS m l 1 (copF F x l) (getN m F x) := by
  unfold copF
  by_cases hE : emptyB x = true
  · rw [if_pos hE]
    have he0 : exc = 0 := by
      rcases he with he | ⟨q, hq, e⟩
      · exact he
      · rw [(emptyB_iff.1 hE).2 q hq] at e; exact e.symm
    subst he0
    exact ⟨h, .inl rfl, .inl rfl, Ext.refl F, rfl, ⟨Nat.le_refl _, Nat.le_add_right _ _⟩, Nat.le_add_right _ _, fun q => by rw [getL_zero, getN_empty hE]⟩
  · rw [if_neg hE]
    have hE' : emptyB x = false := by simpa using hE
    have hc := h.copOk hs hx
    have ext := ext_addN (l := l) hc
    refine ⟨h.addN hs hl hx hE' h0 hp he, .inr ⟨addN_mem.2 (.inr rfl), by rw [addN_lev]; exact if_pos rfl⟩, .inr (Nat.lt_succ_self _), ext, addN_held _ _ _, by rw [addN_last]; exact ⟨Nat.le_succ _, Nat.le_refl _⟩, by rw [addN_ids]; simp, fun q => ?_⟩
    rw [getL_pos m _ q (Nat.succ_ne_zero _)]
    show getN m (addN F x l) ((addN F x l).nd (F.last + 1)) q = _
    rw [addN_new hc, getN_ext h ext hx]

theorem part_split (q pg m : Nat) : q % 16 ^ (m + 1) = pg % 16 ^ (m + 1) ↔ (q / 16 ^ m % 16 = pg / 16 ^ m % 16 ∧ q % 16 ^ m = pg % 16 ^ m) := by
  have hp : 0 < 16 ^ m := Nat.pow_pos (by omega)
  have key : ∀ a : Nat, a % 16 ^ (m + 1) = a % 16 ^ m + 16 ^ m * (a / 16 ^ m % 16) := fun a => by rw [Nat.pow_succ, Nat.mod_mul]
  rw [key q, key pg]
  constructor
  · intro h
    have h1 : q % 16 ^ m = pg % 16 ^ m := by
      have := congrArg (· % 16 ^ m) h
      simpa [Nat.add_mul_mod_self_left] using this
    rw [h1] at h
    exact ⟨Nat.eq_of_mul_eq_mul_left hp (by omega), h1⟩
  · rintro ⟨h1, h2⟩; rw [h1, h2]
theorem copSrc_kids (F : Fo) (n : Nat) : (copSrc F n).kids = fun i => kidOf F n i := by
  unfold copSrc copY kidOf setRefs
  funext i
  by_cases h : n = 0
  · simp [h, zeroN]
  · simp [h]
theorem copSrc_leaf (F : Fo) (n q : Nat) : leafE (copSrc F n) q = getL 0 F n q := by
  unfold copSrc copY getL setRefs leafE
  by_cases h : n = 0
  · simp [h, zeroN]
  · simp [h]
theorem copSrc_ok (h : Inv F pend pendS exc) {n l : Nat} (hn : n = 0 ∨ (n ∈ F.ids ∧ F.lev n = l)) : NodeOk F l (copSrc F n) := by
  unfold copSrc copY
  rcases hn with rfl | ⟨hn, hl⟩
  · rw [if_pos rfl]
    exact ⟨fun j _ => .inl rfl, ⟨by show (0 : Nat) < 2 ^ 16; decide, fun _ => rfl⟩, fun j _ hb => by simp [setRefs, zeroN] at hb, fun j _ _ => rfl⟩
  · rw [if_neg (by have := (h.pos n hn).1; omega)]
    have := h.ok n hn
    rw [hl] at this
    exact this.same rfl rfl rfl
theorem app_ok {x : Node} (hx : NodeOk F 2 x) {c : Chg} (hc : c.ok) {i : Nat} (hi : i < 16) : NodeOk F 2 (c.app x i) := by
  cases c with
  | set be e =>
    refine ⟨hx.kid, ⟨or_lt _ _ hx.bits.1 hi, fun h => by omega⟩, fun j hj hb => ?_, fun j hj hb => ?_⟩
    · show (if j = i then e else x.ents j).ok
      by_cases hji : j = i
      · rw [if_pos hji]; exact hc
      · rw [if_neg hji]
        refine hx.ents j hj ?_
        have hb' : (x.bits ||| 2 ^ i).testBit j = true := hb
        rw [Nat.testBit_or, Nat.testBit_two_pow] at hb'
        simpa [Ne.symm hji] using hb'
    · have hb' : (x.bits ||| 2 ^ i).testBit j = false := hb
      rw [Nat.testBit_or, Nat.testBit_two_pow] at hb'
      simp only [Bool.or_eq_false_iff, decide_eq_false_iff_not] at hb'
      show (if j = i then e else x.ents j) = zeroE
      rw [if_neg (fun h => hb'.2 h.symm)]
      exact hx.zero j hj hb'.1
  | clear =>
    refine ⟨hx.kid, ⟨clr_lt _ _ hx.bits.1, fun h => by omega⟩, fun j hj hb => ?_, fun j hj hb => ?_⟩
    · have hb' : (clr x.bits i).testBit j = true := hb
      rw [clr_bit _ _ _ hx.bits.1 hi] at hb'
      simp only [Bool.and_eq_true, decide_eq_true_eq] at hb'
      show (if j = i then zeroE else x.ents j).ok
      rw [if_neg hb'.2]
      exact hx.ents j hj hb'.1
    · have hb' : (clr x.bits i).testBit j = false := hb
      rw [clr_bit _ _ _ hx.bits.1 hi] at hb'
      show (if j = i then zeroE else x.ents j) = zeroE
      by_cases hji : j = i
      · rw [if_pos hji]
      · rw [if_neg hji]
        exact hx.zero j hj (by simpa [hji] using hb')
theorem app_leaf {x : Node} (hx : x.bits < 2 ^ 16) (c : Chg) {i : Nat} (hi : i < 16) (q : Nat) : leafE (c.app x i) q = if partN q 2 = i then c.res else leafE x q := by
  have hq := partN_lt q 2
  unfold leafE
  cases c with
  | set be e =>
    show (if (x.bits ||| 2 ^ i).testBit (partN q 2) then some (if partN q 2 = i then e else x.ents (partN q 2)) else none) = if partN q 2 = i then some e else _
    rw [Nat.testBit_or, Nat.testBit_two_pow]
    by_cases h : partN q 2 = i
    · rw [if_pos h, if_pos h, h]; simp
    · rw [if_neg h, if_neg h]; simp [Ne.symm h]
  | clear =>
    show (if (clr x.bits i).testBit (partN q 2) then some (if partN q 2 = i then zeroE else x.ents (partN q 2)) else none) = if partN q 2 = i then none else _
    rw [clr_bit _ _ _ hx hi]
    by_cases h : partN q 2 = i
    · rw [if_pos h, if_pos h]; simp [h]
    · rw [if_neg h, if_neg h]; simp [h]
theorem app_refs (x : Node) (i : Nat) (c : Chg) : (c.app x i).refs = x.refs := by cases c <;> rfl
theorem Small.more (hs : Small F pend pendS) {G : Fo} (hl : G.last ≤ 2 ^ 39) (hh : G.held = F.held) : Small G pend pendS := ⟨hl, by rw [hh]; exact hs.held, hs.pend, hs.pendS⟩

/-- the node that a kid is laid into -/
theorem step_ok {G : Fo} {pend : Nat → Nat} {pendS : Slot → Nat} {exc n l i k : Nat} (h : Inv G pend pendS exc) (hn : n = 0 ∨ (n ∈ G.ids ∧ G.lev n = l)) (hl : l < 2) (hk : k = 0 ∨ (k ∈ G.ids ∧ G.lev k = l + 1)) : NodeOk G l (setKid (copSrc G n) i k) := by
  have hsrc := copSrc_ok h hn
  refine ⟨fun j hj => ?_, hsrc.bits, hsrc.ents, hsrc.zero⟩
  by_cases hji : j = i
  · have e2 : (setKid (copSrc G n) i k).kids j = k := if_pos hji
    rw [e2]
    exact hk.imp id (fun ⟨a, b⟩ => ⟨a, b, hl⟩)
  · have e2 : (setKid (copSrc G n) i k).kids j = (copSrc G n).kids j := if_neg hji
    rw [e2]
    exact hsrc.kid j hj

theorem along_is : ∀ (m : Nat), m ≤ 2 → ∀ (F : Fo) (pend : Nat → Nat) (pendS : Slot → Nat) (n pg : Nat) (c : Chg), Inv F pend pendS 0 → Small F pend pendS → F.last + m ≤ 2 ^ 39 → (∀ i, F.last < i → pend i = 0) → (n = 0 ∨ (n ∈ F.ids ∧ F.lev n = 2 - m)) → c.ok →
    CopIs F pend pendS m (2 - m) (m + 1) (alongF m F n pg c) (fun q => if q % 16 ^ (m + 1) = pg % 16 ^ (m + 1) then c.res else getL m F n q)
  | 0, _, F, pend, pendS, n, pg, c, h, hs, hl, hp, hn, hc => by
    have hsrc := copSrc_ok h hn
    have hx := app_ok (i := partN pg 2) hsrc hc (partN_lt _ _)
    have key := copF_is h hs (by omega) hx (by rw [app_refs]; rfl) (hp _ (Nat.lt_succ_self _)) (.inl rfl) 0
    refine ⟨key.inv, key.root, key.new, key.ext, key.held, key.last, key.len, fun q => (key.get q).trans ?_⟩
    show leafE (c.app (copSrc F n) (partN pg 2)) q = _
    rw [app_leaf hsrc.bits.1 c (partN_lt _ _), copSrc_leaf]
    have e : ∀ a, partN a 2 = a % 16 ^ (0 + 1) := fun a => by unfold partN; simp
    rw [e q, e pg]
  | m + 1, hm, F, pend, pendS, n, pg, c, h, hs, hl, hp, hn, hc => by
    obtain ⟨i, hi⟩ : ∃ i, partN pg (1 - m) = i := ⟨_, rfl⟩
    have hi16 : i < 16 := hi ▸ partN_lt _ _
    have hk : kidOf F n i = 0 ∨ (kidOf F n i ∈ F.ids ∧ F.lev (kidOf F n i) = 2 - m) := by
      unfold kidOf
      rcases hn with rfl | ⟨hn, hlv⟩
      · exact .inl rfl
      · rw [if_neg (by have := (h.pos n hn).1; omega)]
        rcases (h.ok n hn).kid i hi16 with h' | ⟨h1, h2, h3⟩
        · exact .inl h'
        · exact .inr ⟨h1, by omega⟩
    have ih := along_is m (by omega) F pend pendS (kidOf F n i) pg c h hs (by omega) hp hk hc
    obtain ⟨R, hR⟩ : ∃ R, alongF m F (kidOf F n i) pg c = R := ⟨_, rfl⟩
    have e1 : alongF (m + 1) F n pg c = copF R.1 (setKid (copSrc R.1 n) i R.2) (1 - m) := by
      show copF (alongF m F (kidOf F n (partN pg (1 - m))) pg c).1 _ _ = _
      rw [hi, hR]
    rw [hR] at ih
    rw [e1]
    have hn' : n = 0 ∨ (n ∈ R.1.ids ∧ R.1.lev n = 1 - m) := hn.imp id (fun ⟨a, b⟩ => ⟨ih.ext.mem n a, by rw [ih.ext.lev n a]; omega⟩)
    have hsrc := copSrc_ok ih.inv hn'
    have hx : NodeOk R.1 (1 - m) (setKid (copSrc R.1 n) i R.2) := by
      refine ⟨fun j hj => ?_, hsrc.bits, hsrc.ents, hsrc.zero⟩
      show (if j = i then R.2 else (copSrc R.1 n).kids j) = 0 ∨ _
      by_cases hji : j = i
      · have e2 : (setKid (copSrc R.1 n) i R.2).kids j = R.2 := if_pos hji
        rw [if_pos hji, e2]
        rcases ih.root with h' | ⟨h1, h2⟩
        · exact .inl h'
        · exact .inr ⟨h1, by omega, by omega⟩
      · have e2 : (setKid (copSrc R.1 n) i R.2).kids j = (copSrc R.1 n).kids j := if_neg hji
        rw [if_neg hji, e2]
        exact hsrc.kid j hj
    have key := copF_is ih.inv (hs.more (by have := ih.last.2; omega) ih.held) (by omega) hx rfl (hp _ (by have := ih.last.1; omega)) (.inr ⟨i, hi16, if_pos rfl⟩) (m + 1)
    refine ⟨key.inv, by rw [show 2 - (m + 1) = 1 - m by omega]; exact key.root, key.new.imp id (fun h => by have := ih.last.1; omega), ih.ext.trans key.ext, key.held.trans ih.held, ⟨Nat.le_trans ih.last.1 key.last.1, by have := key.last.2; have := ih.last.2; omega⟩, by have := key.len; have := ih.len; omega, fun q => (key.get q).trans ?_⟩
    show getL m R.1 (if partN q (1 - m) = i then R.2 else (copSrc R.1 n).kids (partN q (1 - m))) q = _
    have ep : ∀ a, partN a (1 - m) = a / 16 ^ (m + 1) % 16 := fun a => by
      unfold partN
      rw [show 2 - (1 - m) = m + 1 by omega]
    by_cases hpi : partN q (1 - m) = i
    · rw [if_pos hpi, ih.get q]
      have hgo : getL (m + 1) F n q = getL m F (kidOf F n i) q := by show getL m F (kidOf F n (partN q (1 - m))) q = _; rw [hpi]
      rw [hgo]
      by_cases hq : q % 16 ^ (m + 1) = pg % 16 ^ (m + 1)
      · rw [if_pos hq, if_pos ((part_split q pg (m + 1)).2 ⟨by rw [← ep, ← ep, hpi, hi], hq⟩)]
      · rw [if_neg hq, if_neg (fun h => hq ((part_split q pg (m + 1)).1 h).2)]
    · rw [if_neg hpi, if_neg (fun h => hpi (by rw [ep, ((part_split q pg (m + 1)).1 h).1, ← ep, hi])), copSrc_kids]
      show getL m R.1 (kidOf R.1 n (partN q (1 - m))) q = getL m F (kidOf F n (partN q (1 - m))) q
      exact getL_ext h ih.ext (m + 1) n q (hn.imp id (fun h => h.1))
end Go.Proofs.YtmpbhoijkcanmaaGreat.R

/- Radix: a map is made of another one: the walk. -/
namespace Go.Proofs.YtmpbhoijkcanmaaGreat.R
open Go.ChangeShapes Go.WideShapes Go.ChangeAt Go.RowKit Go.Maps Go.Proofs.YtmpbhoijkcanmaaGreat.G
set_option linter.unusedVariables false
set_option linter.unusedSimpArgs false
set_option linter.unnecessarySimpa false

variable {w w' : World} {p p' : Pf} {F G : Fo}
/-- nodes that were lie where they lay; the others are new -/
structure Moved (p p' : Pf) (F G : Fo) (w : World) : Prop where
  f : p'.f = p.f
  m : p'.m = p.m
  h : p'.h = p.h
  s : p'.s = p.s
  old : ∀ i, i ∈ F.ids → p'.blk i = p.blk i
  new : ∀ i, i ∈ G.ids → i ∈ F.ids ∨ w.heap.size ≤ p'.blk i
theorem Moved.refl (p : Pf) (F : Fo) (w : World) : Moved p p F F w := ⟨rfl, rfl, rfl, rfl, fun _ _ => rfl, fun _ h => .inl h⟩
theorem Moved.own (h : Moved p p' F G w) {b : Nat} (hb : p'.own G b) : p.own F b ∨ w.heap.size ≤ b := by
  rcases hb with rfl | rfl | rfl | rfl | ⟨i, hi, rfl⟩
  · exact .inl (.inl h.f)
  · exact .inl (.inr (.inl h.m))
  · exact .inl (.inr (.inr (.inl h.h)))
  · exact .inl (.inr (.inr (.inr (.inl h.s))))
  · rcases h.new i hi with hf | hb
    · exact .inl (.inr (.inr (.inr (.inr ⟨i, hf, h.old i hf⟩))))
    · exact .inr hb
theorem Moved.trans {p'' : Pf} {H : Fo} {w2 : World} (h : Moved p p' F G w) (k : Moved p' p'' G H w2) (hm : ∀ i, i ∈ F.ids → i ∈ G.ids) (hs : w.heap.size ≤ w2.heap.size) : Moved p p'' F H w :=
  ⟨k.f.trans h.f, k.m.trans h.m, k.h.trans h.h, k.s.trans h.s, fun i hi => (k.old i (hm i hi)).trans (h.old i hi), fun i hi => by
    rcases k.new i hi with hg | hb
    · rcases h.new i hg with hf | hb
      · exact .inl hf
      · exact .inr (by rw [k.old i hg]; exact hb)
    · exact .inr (Nat.le_trans hs hb)⟩
theorem FoOwn.trans {w2 w3 : World} (h : FoOwn p F w w2) (k : FoOwn p' G w2 w3) (hm : Moved p p' F G w) : FoOwn p F w w3 := by
  obtain ⟨S, t, hS⟩ := k
  exact h.step t (fun b hb => (hm.own (hS b hb)).symm)
/-- what is answered: a root; the forest that came of it -/
def rootPost (p : Pf) (F : Fo) (R : Fo × Nat) (w : World) (e : Ending) (w' : World) : Prop := e = .returned (.int .i64 (R.2 : Nat)) ∧ (∃ p', FoAt w' p' R.1 ∧ Moved p p' F R.1 w) ∧ FoOwn p F w w'
theorem copPost.root {x : Node} {l : Nat} {e : Ending} (hf : F.last + 1 ∉ F.ids) (h : copPost p F x l w e w') : rootPost p F (copF F x l) w e w' := by
  unfold copPost at h
  unfold rootPost copF
  by_cases hE : emptyB x = true
  · rw [if_pos hE] at h ⊢
    exact ⟨h.1, ⟨p, h.2.1, Moved.refl p F w⟩, h.2.2⟩
  · rw [if_neg hE] at h ⊢
    obtain ⟨h1, ⟨b, hb, h2⟩, h3⟩ := h
    refine ⟨h1, ⟨_, h2, ⟨rfl, rfl, rfl, rfl, fun i hi => ?_, fun i hi => ?_⟩⟩, h3⟩
    · show (if i = F.last + 1 then b else p.blk i) = _
      by_cases e : i = F.last + 1
      · exact absurd (e ▸ hi) hf
      · rw [if_neg e]
    · rcases addN_mem.1 hi with hi | rfl
      · exact .inl hi
      · right
        show w.heap.size ≤ if F.last + 1 = F.last + 1 then b else _
        rw [if_pos rfl]; exact hb

variable {pend : Nat → Nat} {pendS : Slot → Nat}
/-- the two variables of along: the change, the place -/
theorem boxes_new (w : World) (c : Chg) (i : Nat) :
    ((w.alloc (.cells #[c.val] 121)).alloc (.cells #[.int .i64 (i : Nat)] 3)).cell? ⟨w.heap.size, 0, none⟩ = some c.val ∧ ((w.alloc (.cells #[c.val] 121)).alloc (.cells #[.int .i64 (i : Nat)] 3)).cell? ⟨w.heap.size + 1, 0, none⟩ = some (.int .i64 (i : Nat)) := by
  have h1 := cell_new0 w c.val 121 w.heap.size rfl
  have h2 := cell_new0 (w.alloc (.cells #[c.val] 121)) (.int .i64 (i : Nat)) 3 (w.heap.size + 1) (by simp)
  exact ⟨((Turned.refl [] _).alloc _).cell h1 (by simp), h2⟩
theorem Chg.val_one (c : Chg) : c.val.oneCell' = true := by cases c <;> rfl
/-- what along answers, at a level -/
def AlongC (m : Nat) : Prop := ∀ (p : Pf) (F : Fo) (pend : Nat → Nat) (pendS : Slot → Nat) (n pg : Nat) (c : Chg) (w : World), Inv F pend pendS 0 → Small F pend pendS → F.last + m ≤ 2 ^ 39 → (∀ i, F.last < i → pend i = 0) → (n = 0 ∨ (n ∈ F.ids ∧ F.lev n = 2 - m)) → c.ok → pg < 4096 → FoAt w p F → c.At w →
  Calls Tryz.prog 54 #[.pointer (some ⟨p.f, 0, none⟩), .int .i64 (n : Nat), .int .i64 (pg : Nat), .int .i64 ((2 - m : Nat) : Int), c.val] w (rootPost p F (alongF m F n pg c) w)
set_option maxRecDepth 100000 in
set_option maxHeartbeats 4000000 in
theorem along0 : AlongC 0 := by
  intro p F pend pendS n pg c w h hs hl hp hn hc hpg hF hcw
  obtain ⟨i, hi⟩ : ∃ i, partN pg 2 = i := ⟨_, rfl⟩
  have hi16 : i < 16 := hi ▸ partN_lt _ _
  have hsrc := copSrc_ok h hn
  have hx := app_ok (i := i) hsrc hc hi16
  have hok := h.copOk hs hx
  have CP : Hid (∀ w, Calls Tryz.prog 52 #[.int .i64 (pg : Nat), .int .i64 2] w fun e w' => e = .returned (.int .i64 (partN pg 2)) ∧ w = w') := fun w => part_fn pg 2 hpg (by omega) w
  have t1 := (Turned.refl [] w).alloc (.cells #[c.val] 121)
  have t2 := t1.alloc (.cells #[.int .i64 (i : Nat)] 3)
  obtain ⟨b0, b1⟩ := boxes_new w c i
  have hAt : (Fn.leaf w.heap.size (w.heap.size + 1) i c).At ((w.alloc (.cells #[c.val] 121)).alloc (.cells #[.int .i64 (i : Nat)] 3)) := ⟨hcw.above t2 (by simp), b0, b1, hi16⟩
  have CC := copied_fn (p := p) n (hn.imp id (fun h => h.1)) (.leaf w.heap.size (w.heap.size + 1) i c) (c.app (copSrc F n) i) rfl hsrc.bits.1 hok 2 _ (hF.calm t2) hAt
  have hfr := hok.fresh
  have HR : Hid (∀ e w', copPost p F (c.app (copSrc F n) i) 2 ((w.alloc (.cells #[c.val] 121)).alloc (.cells #[.int .i64 (i : Nat)] 3)) e w' → rootPost p F (alongF 0 F n pg c) w e w') := by
    intro e w' hcp
    obtain ⟨r1, ⟨p', r2, r3⟩, r4⟩ := hcp.root hfr
    have er : alongF 0 F n pg c = copF F (c.app (copSrc F n) i) 2 := by show copF F (c.app (copSrc F n) (partN pg 2)) 2 = _; rw [hi]
    rw [er]
    exact ⟨r1, ⟨p', r2, ⟨r3.f, r3.m, r3.h, r3.s, r3.old, fun j hj => (r3.new j hj).imp id (fun hb => Nat.le_trans t2.size hb)⟩⟩, (FoOwn.of t2).trans r4 (Moved.refl p F w)⟩
  have CC := Lib.hid CC
  unfold Fn.val at CC
  obtain ⟨fv, hfv⟩ : ∃ fv, c.val = fv := ⟨_, rfl⟩
  have h1 := c.val_one
  rw [hfv] at CC HR h1
  rw [hfv]
  obtain ⟨R, hR⟩ : ∃ R, alongF 0 F n pg c = R := ⟨_, rfl⟩
  rw [hR] at HR
  rw [hR]
  rw [hi] at CP
  clear h hs hl hp hn hc hpg hF hcw hsrc hx hok t1 t2 b0 b1 hAt hfr hR hi hfv
  go_enter Tryz.func54, Tryz.ntmps54
  go_wp2_with (first
    | (go_at_call 52; ((with_reducible refine (CP.out _).mono ?_); rintro e ww ⟨rfl, rfl⟩))
    | (go_at_call 67; ((with_reducible refine CC.out.mono ?_); intro e ww hcp; obtain ⟨rfl, hr⟩ := HR.out e ww hcp; have HE := Lib.hid hr; clear hcp hr)))
  go_ret
  exact ⟨rfl, HE.out⟩

/-- the variables of along, and the forest -/
structure AlA (w wc : World) (p : Pf) (F : Fo) (c : Chg) (fv : Value) (B B1 B2 i k : Nat) : Prop where
  fo : FoAt wc p F
  chg : c.At wc
  b0 : wc.cell? ⟨B, 0, none⟩ = some fv
  b1 : wc.cell? ⟨B1, 0, none⟩ = some (.int .i64 (i : Nat))
  b2 : wc.cell? ⟨B2, 0, none⟩ = some (.int .i64 (k : Nat))
  f2 : wc.frozen? ⟨B2, 0, none⟩ = false
  bel : Below w.heap.size w wc
theorem AlA.setK {wc : World} {c : Chg} {fv : Value} {i k : Nat} (hF : FoAt w p F) (hc : c.At w) (h : AlA w wc p F c fv w.heap.size (w.heap.size + 1) (w.heap.size + 1 + 1) i k) (k' : Nat) : AlA w (wc.drew.setCell ⟨w.heap.size + 1 + 1, 0, none⟩ (.int .i64 (k' : Nat))) p F c fv w.heap.size (w.heap.size + 1) (w.heap.size + 1 + 1) i k' := by
  have t : Turned [w.heap.size + 1 + 1] wc (wc.drew.setCell ⟨w.heap.size + 1 + 1, 0, none⟩ (.int .i64 (k' : Nat))) := ((Turned.refl [w.heap.size + 1 + 1] wc).drew).setCell (p := ⟨w.heap.size + 1 + 1, 0, none⟩) (.inl (by simp)) _
  have hb : Below w.heap.size w (wc.drew.setCell ⟨w.heap.size + 1 + 1, 0, none⟩ (.int .i64 (k' : Nat))) := Turned.below_of h.bel t (fun i hi => by simp at hi; omega)
  refine ⟨h.fo.turned t (fun b hb hm => by have := hF.lt hb; simp at hm; omega), hc.above (Turned.of_below hb) (by simp), t.cell h.b0 (by simp only [List.mem_singleton]; omega), t.cell h.b1 (by simp only [List.mem_singleton]; omega), ?_, ?_, hb⟩
  · exact World.cell?_setCell_same (w := wc.drew) _ _ h.b2
  · rw [World.frozen?_setCell]; exact h.f2
theorem alA_new (h : FoAt w p F) (c : Chg) (hc : c.At w) (i : Nat) : AlA w (((w.alloc (.cells #[c.val] 121)).alloc (.cells #[.int .i64 (i : Nat)] 3)).alloc (.cells #[.int .i64 0] 3)) p F c c.val w.heap.size (w.heap.size + 1) (w.heap.size + 1 + 1) i 0 := by
  obtain ⟨b0, b1⟩ := boxes_new w c i
  have t := (((Turned.refl [] w).alloc (.cells #[c.val] 121)).alloc (.cells #[.int .i64 (i : Nat)] 3)).alloc (.cells #[.int .i64 0] 3)
  have t3 := (Turned.refl [] ((w.alloc (.cells #[c.val] 121)).alloc (.cells #[.int .i64 (i : Nat)] 3))).alloc (.cells #[.int .i64 0] 3)
  have hsz : ((w.alloc (.cells #[c.val] 121)).alloc (.cells #[.int .i64 (i : Nat)] 3)).heap.size = w.heap.size + 1 + 1 := by simp
  have b2 := cell_new0 ((w.alloc (.cells #[c.val] 121)).alloc (.cells #[.int .i64 (i : Nat)] 3)) (.int .i64 0) 3 (w.heap.size + 1 + 1) hsz
  refine ⟨h.calm t, hc.above t (by simp), t3.cell b0 (by simp), t3.cell b1 (by simp), b2, ?_, t.below⟩
  have := (MapKept.heap_alloc ((w.alloc (.cells #[c.val] 121)).alloc (.cells #[.int .i64 (i : Nat)] 3)) (.cells #[.int .i64 0] 3)).1
  rw [hsz] at this
  unfold World.frozen?
  simp only []
  rw [this]
  rfl
set_option maxRecDepth 100000 in
set_option maxHeartbeats 4000000 in
theorem alongS (m : Nat) (hm : m ≤ 1) (ih : AlongC m) : AlongC (m + 1) := by
  intro p F pend pendS n pg c w h hs hl hp hn hc hpg hF hcw
  obtain ⟨lv, hlv⟩ : ∃ lv, 2 - (m + 1) = lv := ⟨_, rfl⟩
  obtain ⟨i, hi⟩ : ∃ i, partN pg lv = i := ⟨_, rfl⟩
  have hi16 : i < 16 := hi ▸ partN_lt _ _
  have hlv1 : lv ≤ 1 := by omega
  have hm2 : 2 - m = lv + 1 := by omega
  have h1m : 1 - m = lv := by omega
  rw [hlv] at hn ⊢
  have hk : kidOf F n i = 0 ∨ (kidOf F n i ∈ F.ids ∧ F.lev (kidOf F n i) = 2 - m) := by
    unfold kidOf
    rcases hn with rfl | ⟨hn, hlv⟩
    · exact .inl rfl
    · rw [if_neg (by have := (h.pos n hn).1; omega)]
      rcases (h.ok n hn).kid i hi16 with h' | ⟨h1, h2, h3⟩
      · exact .inl h'
      · exact .inr ⟨h1, by omega⟩
  have his := along_is m (by omega) F pend pendS (kidOf F n i) pg c h hs (by omega) hp hk hc
  have hih := fun wc hfo hcw => ih p F pend pendS (kidOf F n i) pg c wc h hs (by omega) hp hk hc hpg hfo hcw
  obtain ⟨R1, hR1⟩ : ∃ R1, alongF m F (kidOf F n i) pg c = R1 := ⟨_, rfl⟩
  rw [hR1] at his
  have hn1 : n = 0 ∨ (n ∈ R1.1.ids ∧ R1.1.lev n = lv) := hn.imp id (fun ⟨a, b⟩ => ⟨his.ext.mem n a, by rw [his.ext.lev n a]; exact b⟩)
  have hx := step_ok (i := i) his.inv hn1 (by omega) (his.root.imp id (fun ⟨a, b⟩ => ⟨a, by omega⟩))
  have hs1 := hs.more (by have := his.last.2; omega) his.held
  have hok := his.inv.copOk hs1 hx
  obtain ⟨x, hxx⟩ : ∃ x, setKid (copSrc R1.1 n) i R1.2 = x := ⟨_, rfl⟩
  rw [hxx] at hok hx
  have er : alongF (m + 1) F n pg c = copF R1.1 x lv := by
    show copF (alongF m F (kidOf F n (partN pg (1 - m))) pg c).1 _ _ = _
    rw [h1m, hi, hR1, hxx]
  obtain ⟨R, hR⟩ : ∃ R, alongF (m + 1) F n pg c = R := ⟨_, rfl⟩
  rw [hR] at er
  obtain ⟨B, hB⟩ : ∃ B, w.heap.size = B := ⟨_, rfl⟩
  obtain ⟨g, cap, hfv⟩ : ∃ g cap, c.val = Value.func g #[] cap := by cases c <;> exact ⟨_, _, rfl⟩
  rw [hfv, hR]
  have CP : Hid (∀ w, Calls Tryz.prog 52 #[.int .i64 (pg : Nat), .int .i64 (lv : Nat)] w fun e w' => e = .returned (.int .i64 (i : Nat)) ∧ w = w') := fun w => by
    have := part_fn pg lv hpg (by omega) w
    rw [hi] at this
    exact this
  have A0 : Hid (AlA w (((w.alloc (.cells #[.func g #[] cap] 121)).alloc (.cells #[.int .i64 (i : Nat)] 3)).alloc (.cells #[.int .i64 0] 3)) p F c (.func g #[] cap) B (B + 1) (B + 1 + 1) i 0) := by
    have := alA_new hF c hcw i
    rw [hfv, hB] at this
    exact this
  have CA : Hid (∀ wc, AlA w wc p F c (.func g #[] cap) B (B + 1) (B + 1 + 1) i (kidOf F n i) → Calls Tryz.prog 54 #[.pointer (some ⟨p.f, 0, none⟩), .int .i64 (kidOf F n i : Nat), .int .i64 (pg : Nat), .int .i64 ((lv : Int) + 1), .func g #[] cap] wc fun e w5 => e = .returned (.int .i64 (R1.2 : Nat)) ∧
      w5.cell? ⟨B + 1 + 1, 0, none⟩ = some (.int .i64 (kidOf F n i : Nat)) ∧ w5.frozen? ⟨B + 1 + 1, 0, none⟩ = false ∧ w5.cell? ⟨B + 1, 0, none⟩ = some (.int .i64 (i : Nat)) ∧
      Calls Tryz.prog 67 #[.pointer (some ⟨p.f, 0, none⟩), .int .i64 (n : Nat), .func (.func 69) #[] #[.pointer (some ⟨B + 1 + 1, 0, none⟩), .pointer (some ⟨B + 1, 0, none⟩)]] (w5.setCell ⟨B + 1 + 1, 0, none⟩ (.int .i64 (R1.2 : Nat))) (rootPost p F R w)) := by
    intro wc hA
    have := hih wc hA.fo hA.chg
    rw [hR1, hm2, hfv, show ((lv + 1 : Nat) : Int) = (lv : Int) + 1 by omega] at this
    refine this.mono fun e w5 ⟨e1, ⟨p1, e2, e3⟩, e4⟩ => ?_
    have hown : ∀ j, ¬ p.own F (B + j) := fun j hb => by have := hF.lt hb; omega
    have hsz : B + 1 + 1 < wc.heap.size := lt_of_cell hA.b2
    have hBo : ∀ j, B + j < wc.heap.size → ¬ p1.own R1.1 (B + j) := fun j hj hb => by
      rcases e3.own hb with h' | h'
      · exact hown j h'
      · omega
    have c2 := e4.cell hA.b2 ((show ¬ p.own F (B + 1 + 1) from hown 2))
    have c1 := e4.cell hA.b1 (hown 1)
    have f2 : w5.frozen? ⟨B + 1 + 1, 0, none⟩ = false := by
      obtain ⟨S, t, hS⟩ := e4
      rw [t.frozen (a := ⟨B + 1 + 1, 0, none⟩) hsz (fun hm => (show ¬ p.own F (B + 1 + 1) from hown 2) (hS _ hm))]; exact hA.f2
    have t6 : Turned [B + 1 + 1] w5 (w5.setCell ⟨B + 1 + 1, 0, none⟩ (.int .i64 (R1.2 : Nat))) := (Turned.refl [B + 1 + 1] w5).setCell (.inl (by simp)) _
    refine ⟨e1, c2, f2, c1, ?_⟩
    have hF6 := e2.turned t6 (fun b hb hm => by simp at hm; subst hm; exact (show ¬ p1.own R1.1 (B + 1 + 1) from hBo 2 hsz) hb)
    have hAt : (Fn.kid (B + 1 + 1) (B + 1) i R1.2).At (w5.setCell ⟨B + 1 + 1, 0, none⟩ (.int .i64 (R1.2 : Nat))) := ⟨World.cell?_setCell_same _ _ _ c2, t6.cell c1 (by simp), hi16⟩
    have C := copied_fn (p := p1) n (hn1.imp id (fun h => h.1)) (.kid (B + 1 + 1) (B + 1) i R1.2) x hxx (copSrc_ok his.inv hn1).bits.1 hok lv _ hF6 hAt
    rw [e3.f] at C
    refine C.mono fun e w7 hcp => ?_
    obtain ⟨r1, ⟨p2, r2, r3⟩, r4⟩ := hcp.root hok.fresh
    rw [← er] at r1 r2 r3
    have hw5 : w.heap.size ≤ w5.heap.size := Nat.le_trans hA.bel.size e4.size
    have m1 : Moved p p1 F R1.1 w := ⟨e3.f, e3.m, e3.h, e3.s, e3.old, fun j hj => (e3.new j hj).imp id (fun hb => Nat.le_trans hA.bel.size hb)⟩
    have o1 : FoOwn p F w (w5.setCell ⟨B + 1 + 1, 0, none⟩ (.int .i64 (R1.2 : Nat))) := ((FoOwn.of (Turned.of_below hA.bel)).trans e4 (Moved.refl p F w)).step t6 (fun b hb => by simp at hb; subst hb; exact .inl (by omega))
    exact ⟨r1, ⟨p2, r2, m1.trans r3 his.ext.mem o1.size⟩, o1.trans r4 m1⟩
  have HAl : Hid (∀ wc k k', AlA w wc p F c (.func g #[] cap) B (B + 1) (B + 1 + 1) i k → AlA w (wc.drew.setCell ⟨B + 1 + 1, 0, none⟩ (.int .i64 (k' : Nat))) p F c (.func g #[] cap) B (B + 1) (B + 1 + 1) i k') := fun wc k k' hA => by
    subst hB
    exact hA.setK hF hcw k'
  have HIn : Hid (∀ wc k, AlA w wc p F c (.func g #[] cap) B (B + 1) (B + 1 + 1) i k → n ≠ 0 → wc.cell? ⟨p.f, 0, none⟩ = some (.map (some p.m)) ∧ (Instr.lookup 99 (.map (some p.m)) (.int .i64 (n : Nat)) false).run Tryz.prog wc = .ok (.pointer (some ⟨p.blk n, 0, none⟩)) wc ∧ wc.cell? ⟨p.blk n, i, none⟩ = some (.int .i64 (kidOf F n i : Nat))) := fun wc k hA h0 => by
    have hni := (hn.resolve_left h0).1
    have := (hA.fo.nd n hni).kid i hi16
    have e : (F.nd n).kids i = kidOf F n i := by unfold kidOf; rw [if_neg h0]
    rw [e] at this
    exact ⟨hA.fo.c0, hA.fo.look_node n (by have := (h.pos n hni).2; have := hs.last; omega) hni, this⟩
  have hk0 : n = 0 → kidOf F n i = 0 := fun e => if_pos e
  have HK0 := Lib.hid hk0
  clear h hs hl hp hn hc hpg hF hcw hk his hih hR1 hn1 hx hs1 hok hxx er hR hi hfv h1m hm2 hlv hk0 ih
  obtain ⟨k0, hk0⟩ : ∃ k0, kidOf F n i = k0 := ⟨_, rfl⟩
  rw [hk0] at CA HK0 HIn
  have hlb : ((lv : Int) == 2) = false := by simp; omega
  have hi0 : (0 : Int) ≤ (i : Int) := by omega
  have hi1 : (i : Int) < 16 := by omega
  clear hk0
  go_enter Tryz.func54, Tryz.ntmps54
  go_upto_if 23 with (go_at_call 52; ((with_reducible refine (CP.out _).mono ?_); rintro e ww ⟨rfl, rfl⟩))
  generalize ((w.alloc (.cells #[.func g #[] cap] 121)).alloc (.cells #[.int .i64 (i : Nat)] 3)).alloc (.cells #[.int .i64 0] 3) = wa at *
  generalize B + 1 = B1 at *
  generalize B1 + 1 = B2 at *
  go_cut [] (fun wc => AlA w wc p F c (.func g #[] cap) B B1 B2 i k0)
  case first =>
    by_cases h0 : n = 0
    · subst h0
      have hk := HK0.out rfl
      subst hk
      go_wp2
      go_meet
      exact A0.out
    · have hb : ((n : Int) != 0) = true := by simpa using h0
      obtain ⟨i0, i1, i2⟩ := HIn.out _ _ A0.out h0
      have b1 := A0.out.b1
      have HE := Lib.hid (HAl.out _ _ k0 A0.out)
      have HD := Lib.hid A0.out
      have hAd : AlA w wa.drew p F c (.func g #[] cap) B B1 B2 i 0 := ⟨A0.out.fo.calm (Turned.refl [] wa).drew, A0.out.chg.above (Turned.refl [] wa).drew (by simp), A0.out.b0, A0.out.b1, A0.out.b2, A0.out.f2, A0.out.bel.trans ((Turned.refl [] wa).drew.below.mono A0.out.bel.size)⟩
      obtain ⟨j0, j1, j2⟩ := HIn.out _ _ hAd h0
      have d2 : wa.drew.cell? ⟨B2, 0, none⟩ = some (.int .i64 0) := A0.out.b2
      have e2 : wa.drew.frozen? ⟨B2, 0, none⟩ = false := A0.out.f2
      have e1 := hAd.b1
      have hE := HE.out
      have K9 := Lib.hid (And.intro (HIn.out _ _ hE h0).1 (And.intro (HIn.out _ _ hE h0).2.1 (And.intro (HIn.out _ _ hE h0).2.2 hE.b1)))
      have K8 := Lib.hid (And.intro j0 (And.intro j1 (And.intro j2 e1)))
      clear h0 A0 hAd i0 i1 i2 b1 hE
      go_wp2
      go_region_held3 (fun w' => w'.cell? ⟨p.f, 0, none⟩ = some (.map (some p.m)) ∧ (Instr.lookup 99 (.map (some p.m)) (.int .i64 (n : Nat)) false).run Tryz.prog w' = .ok (.pointer (some ⟨p.blk n, 0, none⟩)) w' ∧ w'.cell? ⟨p.blk n, i, none⟩ = some (.int .i64 (k0 : Nat)) ∧ w'.cell? ⟨B1, 0, none⟩ = some (.int .i64 (i : Nat))) (first | exact K8.out | exact K9.out | go_keep) (fail)
      all_goals
        go_wp2
        go_meet
        exact HE.out
  case rest =>
    have hA := Lib.hid hcut
    have b0 := hcut.b0
    have b1 := hcut.b1
    have b2 := hcut.b2
    have CA1 := Lib.hid (CA.out wc hcut)
    clear hcut A0
    go_wp2_with (first
      | (go_at_call 54; ((with_reducible refine CA1.out.mono ?_); rintro e w5 ⟨rfl, c2, f2, c1, hcc⟩; have CC := Lib.hid hcc; clear hcc b0 b1 b2))
      | (go_at_call 67; ((with_reducible refine CC.out.mono ?_); intro e ww hr; obtain ⟨rfl, hr2⟩ := hr; have HE := Lib.hid hr2; clear hr2)))
    go_ret
    exact ⟨rfl, HE.out⟩
end Go.Proofs.YtmpbhoijkcanmaaGreat.R

/- Radix: roots that are held; Set, Get, Hold, Nodes. -/
namespace Go.Proofs.YtmpbhoijkcanmaaGreat.R
open Go.ChangeShapes Go.WideShapes Go.ChangeAt Go.RowKit Go.Maps Go.Proofs.YtmpbhoijkcanmaaGreat.G
set_option linter.unusedVariables false
set_option linter.unusedSimpArgs false
set_option linter.unnecessarySimpa false

variable {w w' : World} {p p' : Pf} {F G : Fo} {pend : Nat → Nat} {pendS : Slot → Nat}
/-- a root is held once more -/
def madeF (F : Fo) (r : Nat) : Fo := if r = 0 then F else { setNd F r (setRefs (F.nd r) ((F.nd r).refs + 1)) with held := mput F.held (r : Int) (.int .i64 (cnt F.held (r : Int) + 1 : Nat)) }
theorem madeF_zero (F : Fo) : madeF F 0 = F := if_pos rfl
theorem madeF_pos (F : Fo) {r : Nat} (h : r ≠ 0) : madeF F r = { setNd F r (setRefs (F.nd r) ((F.nd r).refs + 1)) with held := mput F.held (r : Int) (.int .i64 (cnt F.held (r : Int) + 1 : Nat)) } := if_neg h
theorem madeF_ids (F : Fo) (r : Nat) : (madeF F r).ids = F.ids := by unfold madeF; split <;> rfl
theorem madeF_last (F : Fo) (r : Nat) : (madeF F r).last = F.last := by unfold madeF; split <;> rfl
theorem madeF_lev (F : Fo) (r : Nat) : (madeF F r).lev = F.lev := by unfold madeF; split <;> rfl
theorem madeF_sl (F : Fo) (r : Nat) : (madeF F r).sl = F.sl := by unfold madeF; split <;> rfl
theorem madeF_nd (F : Fo) (r i : Nat) : ((madeF F r).nd i).kids = (F.nd i).kids ∧ ((madeF F r).nd i).ents = (F.nd i).ents ∧ ((madeF F r).nd i).bits = (F.nd i).bits ∧ ((madeF F r).nd i).refs = (F.nd i).refs + if r ≠ 0 ∧ i = r then 1 else 0 := by
  unfold madeF
  by_cases h : r = 0
  · rw [if_pos h]; simp [h]
  · rw [if_neg h]
    show ((upN _ _ _ i).kids = _) ∧ ((upN _ _ _ i).ents = _) ∧ ((upN _ _ _ i).bits = _) ∧ ((upN _ _ _ i).refs = _)
    unfold upN
    by_cases e : i = r
    · subst e; simp [setRefs, h]
    · simp [e]
theorem madeF_held (F : Fo) (r : Nat) (i : Int) : cnt (madeF F r).held i = cnt F.held i + if r ≠ 0 ∧ i = r then 1 else 0 := by
  unfold madeF
  by_cases h : r = 0
  · rw [if_pos h]; simp [h]
  · rw [if_neg h]
    show cnt (mput F.held (r : Int) _) i = _
    rw [cnt_put]
    by_cases e : i = r
    · subst e; simp [h]
    · simp [e]
theorem madeF_ext (F : Fo) (r : Nat) : Ext F (madeF F r) :=
  ⟨fun i h => by rw [madeF_ids]; exact h, fun i _ => (madeF_nd F r i).1, fun i _ => (madeF_nd F r i).2.1, fun i _ => (madeF_nd F r i).2.2.1, fun i _ => by rw [madeF_lev]⟩
theorem refc_same {F G : Fo} (hi : G.ids = F.ids) (hk : ∀ i, i ∈ F.ids → (G.nd i).kids = (F.nd i).kids) (i : Nat) : refc G i = refc F i := by
  unfold refc
  rw [hi]
  exact sum_congr fun m hm => by rw [hk m hm]
theorem slc_same {F G : Fo} (hi : G.ids = F.ids) (hk : ∀ i, i ∈ F.ids → (G.nd i).ents = (F.nd i).ents) (hb : ∀ i, i ∈ F.ids → (G.nd i).bits = (F.nd i).bits) (s : Slot) : slc G s = slc F s := by
  unfold slc
  rw [hi]
  exact sum_congr fun m hm => by unfold slHits; rw [hk m hm, hb m hm]
theorem Inv.made {exc r : Nat} (h : Inv F pend pendS exc) (hr : r = 0 ∨ (r ∈ F.ids ∧ F.lev r = 0)) (he : exc = 0 ∨ exc = r) : Inv (madeF F r) pend pendS 0 := by
  have e := madeF_ext F r
  refine ⟨by rw [madeF_ids]; exact h.nd, fun i hi => ?_, fun i hi => ?_, fun i hi => ?_, fun i hi => ?_, fun i hi => ?_, fun q hq => ?_, fun s => ?_, fun i hi => ?_⟩
  · rw [madeF_ids] at hi; rw [madeF_last]; exact h.pos i hi
  · rw [madeF_ids] at hi; rw [madeF_lev]; exact h.lev i hi
  · rw [madeF_ids] at hi; rw [madeF_lev]
    exact ((h.ok i hi).ext e).same (e.kids i hi) (e.ents i hi) (e.bits i hi)
  · rw [madeF_ids] at hi; rw [emptyB_same (e.kids i hi) (e.bits i hi)]; exact h.full i hi
  · rw [madeF_ids] at hi
    rw [(madeF_nd F r i).2.2.2, madeF_held, refc_same (madeF_ids F r) e.kids, h.refs i hi]
    have : ((i : Int) = r) ↔ i = r := by omega
    simp only [this]
    omega
  · rw [madeF_held] at hq
    by_cases hc : r ≠ 0 ∧ q = r
    · rcases hr with h0 | ⟨h1, h2⟩
      · exact absurd h0 hc.1
      · exact ⟨r, hc.2, by rw [madeF_ids]; exact h1, by rw [madeF_lev]; exact h2⟩
    · rw [if_neg hc] at hq
      obtain ⟨n, e1, e2, e3⟩ := h.held q hq
      exact ⟨n, e1, by rw [madeF_ids]; exact e2, by rw [madeF_lev]; exact e3⟩
  · rw [madeF_sl, slc_same (madeF_ids F r) e.ents e.bits]; exact h.sls s
  · rw [madeF_ids] at hi
    left
    rw [(madeF_nd F r i).2.2.2]
    have hp := (h.pos i hi).1
    rcases h.live i hi with h' | h'
    · omega
    · rcases he with he | he
      · omega
      · rw [if_pos ⟨by omega, by omega⟩]; omega

/-- the answer of Set and Clear: a root, an error; the forest -/
def madePost (p : Pf) (F : Fo) (r : Nat) (w : World) (e : Ending) (w' : World) : Prop := e = .returned (.int .i64 (r : Nat)) ∧ FoAt w' p (madeF F r) ∧ FoOwn p F w w'
set_option maxRecDepth 100000 in
set_option maxHeartbeats 1000000 in
theorem made_fn (r : Nat) (hr : r = 0 ∨ r ∈ F.ids) (hr60 : r < 2 ^ 60) (hb : cnt F.held (r : Int) ≤ 2 ^ 45) (hb2 : r ∈ F.ids → (F.nd r).refs ≤ 2 ^ 46) (w : World) (h : FoAt w p F) :
    Calls Tryz.prog 53 #[.pointer (some ⟨p.f, 0, none⟩), .int .i64 (r : Nat)] w (madePost p F r w) := by
  by_cases h0 : r = 0
  · subst h0
    have HF := Lib.hid h
    clear h
    go_enter Tryz.func53, Tryz.ntmps53
    go_wp2
    go_ret
    exact ⟨rfl, by rw [madeF_zero]; exact HF.out, FoOwn.of (Turned.refl [] w)⟩
  · have hm := hr.resolve_left h0
    have hb2 := hb2 hm
    have hne : ((r : Int) != 0) = true := by simpa using h0
    have c1 := h.c1
    have hL := h.look_held r (by unfold I64; omega)
    obtain ⟨kk, hkk⟩ := keyI (r : Nat) (by unfold I64; omega)
    have HKK := Lib.hid hkk
    have HM := Lib.hid h.held
    have HS : Hid (∀ w2, MapIs Tryz.prog 3 encI w2 p.h (mput F.held (r : Int) (.int .i64 ((cnt F.held (r : Int) : Int) + 1))) → Turned [p.h] w w2 →
        w2.cell? ⟨p.f, 0, none⟩ = some (.map (some p.m)) ∧ (Instr.lookup 99 (.map (some p.m)) (.int .i64 (r : Nat)) false).run Tryz.prog w2 = .ok (.pointer (some ⟨p.blk r, 0, none⟩)) w2 ∧ w2.cell? ⟨p.blk r, 81, none⟩ = some (.int .i64 ((F.nd r).refs : Nat)) ∧ w2.frozen? ⟨p.blk r, 81, none⟩ = false ∧
        FoAt (w2.setCell ⟨p.blk r, 81, none⟩ (.int .i64 (((F.nd r).refs : Int) + 1))) p (madeF F r) ∧ FoOwn p F w (w2.setCell ⟨p.blk r, 81, none⟩ (.int .i64 (((F.nd r).refs : Int) + 1)))) := by
      intro w2 hm2 ht2
      have e1 : ((cnt F.held (r : Int) : Int) + 1) = ((cnt F.held (r : Int) + 1 : Nat) : Int) := by omega
      have e2 : (((F.nd r).refs : Int) + 1) = (((F.nd r).refs + 1 : Nat) : Int) := by omega
      rw [e1] at hm2
      have hF2 := h.setHeld hm2 (h.nh.put _ _ (by omega) (by omega)) ht2
      have hN := hF2.nd r hm
      have ht3 : Turned [p.blk r] w2 (w2.setCell ⟨p.blk r, 81, none⟩ (.int .i64 (((F.nd r).refs + 1 : Nat) : Int))) := (Turned.refl [p.blk r] w2).setCell (p := ⟨p.blk r, 81, none⟩) (.inl (by simp)) _
      rw [e2]
      refine ⟨hF2.c0, hF2.look_node r hr60 hm, hN.refs, hN.frozen 81, ?_, ((FoOwn.of (p := p) (F := F) (Turned.refl [] w)).step ht2 (fun b hb => by simp at hb; subst hb; exact .inr (.inr (.inr (.inl rfl))))).step ht3 (fun b hb => by simp at hb; subst hb; exact .inr (.inr (.inr (.inr (.inr ⟨r, hm, rfl⟩)))))⟩
      rw [madeF_pos F h0]
      exact hF2.setNd r hm _ (hN.setRefs _) ht3
    clear h h0 hkk hr hm
    obtain ⟨R, hR⟩ : ∃ R, (F.nd r).refs = R := ⟨_, rfl⟩
    rw [hR] at HS hb2
    have hb3 : (R : Int) ≤ 70368744177664 := by omega
    clear hR hb2
    generalize cnt F.held (r : Int) = C at *
    go_enter Tryz.func53, Tryz.ntmps53
    go_wp2_with (at_mapUpdate; refine wp_put _ rfl _ _ _ 100 rfl keyedI encI_inj Tryz.underlying100 p.h F.held rfl HM.out (r : Int) rfl _ rfl HKK.out ?_; intro w2 hm2 ht2; obtain ⟨d0, d1, d2, d3, d4, d5⟩ := HS.out w2 hm2 ht2; have HE := Lib.hid (And.intro d4 d5); clear hm2 ht2 d4 d5)
    go_ret
    exact ⟨rfl, HE.out.1, HE.out.2⟩

theorem isB_iff (F : Fo) (r : Nat) : isB F (r : Int) = true ↔ r = 0 ∨ 0 < cnt F.held (r : Int) := by
  unfold isB
  simp
theorem Inv.root {exc r : Nat} (h : Inv F pend pendS exc) (hr : isB F (r : Int) = true) : r = 0 ∨ (r ∈ F.ids ∧ F.lev r = 0) := by
  rcases (isB_iff F r).1 hr with h0 | h0
  · exact .inl h0
  · obtain ⟨n, e, h1, h2⟩ := h.held _ h0
    obtain rfl : r = n := by omega
    exact .inr ⟨h1, h2⟩
/-- a map is made, and held -/
def setF (F : Fo) (r pg : Nat) (c : Chg) : Fo × Nat := (madeF (alongF 2 F r pg c).1 (alongF 2 F r pg c).2, (alongF 2 F r pg c).2)
def ansPost (p : Pf) (F : Fo) (R : Fo × Nat) (w : World) (e : Ending) (w' : World) : Prop := e = .returned (.tuple #[.int .i64 (R.2 : Nat), .int .i64 0]) ∧ (∃ p', FoAt w' p' R.1 ∧ Moved p p' F R.1 w) ∧ FoOwn p F w w'
/-- what is known of a forest between calls; how far its numbers may have risen -/
structure Ok (F : Fo) (L : Nat) : Prop where
  inv : Inv F (fun _ => 0) (fun _ => 0) 0
  last : F.last ≤ L
  held : ∀ r, cnt F.held r ≤ L
theorem Ok.small {L : Nat} (h : Ok F L) (hL : L ≤ 2 ^ 38) : Small F (fun _ => 0) (fun _ => 0) := ⟨by have := h.last; omega, fun r => by have := h.held r; omega, fun _ => Nat.zero_le _, fun _ => Nat.zero_le _⟩
/-- what came of Set, or Clear -/
structure SetIs (F : Fo) (L r pg : Nat) (c : Chg) (R : Fo × Nat) : Prop where
  ok : Ok R.1 (L + 3)
  root : R.2 = 0 ∨ (R.2 ∈ R.1.ids ∧ R.1.lev R.2 = 0)
  new : R.2 = 0 ∨ F.last < R.2
  ext : Ext F R.1
  held : ∀ i : Int, cnt R.1.held i = cnt F.held i + if R.2 ≠ 0 ∧ i = R.2 then 1 else 0
  len : R.1.ids.length ≤ F.ids.length + 3
  get : ∀ q, q < 4096 → getL 2 R.1 R.2 q = if q = pg then c.res else getL 2 F r q
theorem setF_is {L : Nat} (h : Ok F L) (hL : L ≤ 2 ^ 38) {r pg : Nat} (hr : r = 0 ∨ (r ∈ F.ids ∧ F.lev r = 0)) (hpg : pg < 4096) (c : Chg) (hc : c.ok) : SetIs F L r pg c (setF F r pg c) := by
  have hs := h.small hL
  have his := along_is 2 (by omega) F _ _ r pg c h.inv hs (by have := h.last; omega) (fun _ _ => rfl) hr hc
  unfold setF
  obtain ⟨R, hR⟩ : ∃ R, alongF 2 F r pg c = R := ⟨_, rfl⟩
  rw [hR] at his ⊢
  have e := madeF_ext R.1 R.2
  have hroot : R.2 = 0 ∨ (R.2 ∈ R.1.ids ∧ R.1.lev R.2 = 0) := his.root
  refine ⟨⟨his.inv.made hroot (.inr rfl), ?_, fun i => ?_⟩, hroot.imp id (fun ⟨a, b⟩ => ⟨e.mem _ a, (e.lev _ a).trans b⟩), his.new, his.ext.trans e, fun i => ?_, ?_, fun q hq => ?_⟩
  · show (madeF R.1 R.2).last ≤ _
    rw [madeF_last]; have := his.last.2; have := h.last; omega
  · show cnt (madeF R.1 R.2).held i ≤ _
    rw [madeF_held, his.held]; have := h.held i; split <;> omega
  · show cnt (madeF R.1 R.2).held i = _
    rw [madeF_held, his.held]
  · show (madeF R.1 R.2).ids.length ≤ _
    rw [madeF_ids]; exact his.len
  · show getL 2 (madeF R.1 R.2) R.2 q = _
    rw [getL_ext his.inv e 2 R.2 q (hroot.imp id (fun h => h.1)), his.get q]
    have e1 : q % 16 ^ (2 + 1) = q := Nat.mod_eq_of_lt (by omega)
    have e2 : pg % 16 ^ (2 + 1) = pg := Nat.mod_eq_of_lt (by omega)
    rw [e1, e2]
/-- along, then made -/
theorem set_step {L : Nat} (h : Ok F L) (hL : L ≤ 2 ^ 38) {r pg : Nat} (hr' : r = 0 ∨ (r ∈ F.ids ∧ F.lev r = 0)) (hpg : pg < 4096) (c : Chg) (hc : c.ok) (w : World) (hF : FoAt w p F) (hcw : c.At w) :
    Calls Tryz.prog 54 #[.pointer (some ⟨p.f, 0, none⟩), .int .i64 (r : Nat), .int .i64 (pg : Nat), .int .i64 0, c.val] w fun e w2 => e = .returned (.int .i64 ((setF F r pg c).2 : Nat)) ∧
      Calls Tryz.prog 53 #[.pointer (some ⟨p.f, 0, none⟩), .int .i64 ((setF F r pg c).2 : Nat)] w2 fun e w3 => e = .returned (.int .i64 ((setF F r pg c).2 : Nat)) ∧ (∃ p', FoAt w3 p' (setF F r pg c).1 ∧ Moved p p' F (setF F r pg c).1 w) ∧ FoOwn p F w w3 := by
  have hs := h.small hL
  have his := along_is 2 (by omega) F _ _ r pg c h.inv hs (by have := h.last; omega) (fun _ _ => rfl) hr' hc
  have hC := alongS 1 (by omega) (alongS 0 (by omega) along0) p F _ _ r pg c w h.inv hs (by have := h.last; omega) (fun _ _ => rfl) hr' hc hpg hF hcw
  unfold setF
  obtain ⟨R, hR⟩ : ∃ R, alongF 2 F r pg c = R := ⟨_, rfl⟩
  rw [hR] at his hC ⊢
  refine hC.mono fun e w2 ⟨e1, ⟨p1, e2, e3⟩, e4⟩ => ⟨e1, ?_⟩
  have hs1 := hs.more (G := R.1) (by have := his.last.2; have := h.last; omega) his.held
  have hlt : R.2 < 2 ^ 60 := by
    rcases his.root with h0 | ⟨h1, _⟩
    · omega
    · have := (his.inv.pos _ h1).2; have := hs1.last; omega
  have hC2 := made_fn (p := p1) R.2 (his.root.imp id (fun h => h.1)) hlt (by rw [his.held]; have := h.held R.2; omega) (fun hm => by have := his.inv.refs_le hs1 R.2 hm; omega) w2 e2
  rw [e3.f] at hC2
  exact hC2.mono fun e w3 ⟨f1, f2, f3⟩ => ⟨f1, ⟨p1, f2, ⟨e3.f, e3.m, e3.h, e3.s, e3.old, fun i hi => e3.new i (by have hi' : i ∈ (madeF R.1 R.2).ids := hi; rw [madeF_ids] at hi'; exact hi')⟩⟩, e4.trans f3 e3⟩

set_option maxRecDepth 100000 in
set_option maxHeartbeats 1000000 in
theorem set_fn {L : Nat} (h : Ok F L) (hL : L ≤ 2 ^ 38) {r pg : Nat} (hr : isB F (r : Int) = true) (hpg : pg < 4096) (x : Ent) (hx : x.ok) (w : World) (hF : FoAt w p F) :
    Calls Tryz.prog 37 #[.pointer (some ⟨p.f, 0, none⟩), .int .i64 (r : Nat), .int .i64 (pg : Nat), encE x] w (ansPost p F (setF F r pg (.set w.heap.size x)) w) := by
  have hr' := h.inv.root hr
  have t1 := (Turned.refl [] w).alloc (.cells #[.int .i64 x.s.e, .int .i64 x.s.c, .int .i64 x.s.i, .int .i64 x.g] 47)
  have hAt : (Chg.set w.heap.size x).At (w.alloc (.cells #[.int .i64 x.s.e, .int .i64 x.s.c, .int .i64 x.s.i, .int .i64 x.g] 47)) := by
    have hnew := fun q u hq => cells_new w [.int .i64 x.s.e, .int .i64 x.s.c, .int .i64 x.s.i, .int .i64 x.g] 47 q u hq
    have n0 := hnew 0 _ rfl
    have n1 := hnew 1 _ rfl
    have n2 := hnew 2 _ rfl
    have n3 := hnew 3 _ rfl
    rw [Addr.add_mid, Nat.zero_add] at n0 n1 n2 n3
    exact ⟨n0, n1, n2, n3⟩
  have hC := set_step h hL hr' hpg (.set w.heap.size x) hx _ (hF.calm t1) hAt
  unfold Chg.val at hC
  have hlt : r < 2 ^ 60 := by
    rcases hr' with h0 | ⟨h1, _⟩
    · omega
    · have := (h.inv.pos _ h1).2; have := h.last; omega
  have CN := Lib.hid (none_fn _ (hF.calm t1))
  have CI := Lib.hid (is_fn (r : Int) (by unfold I64; omega) _ (hF.calm t1))
  rw [hr] at CI
  have CP : Hid (∀ w, Calls Tryz.prog 51 #[.int .i64 (pg : Nat)] w fun e w' => e = .returned (.bool true) ∧ w = w') := fun w => by
    have := page_fn (pg : Int) w
    rwa [show pageB (pg : Int) = true by unfold pageB; simp; omega] at this
  obtain ⟨R, hR⟩ : ∃ R, setF F r pg (.set w.heap.size x) = R := ⟨_, rfl⟩
  rw [hR] at hC ⊢
  have HE : Hid (∀ w3, (∃ p', FoAt w3 p' R.1 ∧ Moved p p' F R.1 (w.alloc (.cells #[.int .i64 x.s.e, .int .i64 x.s.c, .int .i64 x.s.i, .int .i64 x.g] 47))) ∧ FoOwn p F (w.alloc (.cells #[.int .i64 x.s.e, .int .i64 x.s.c, .int .i64 x.s.i, .int .i64 x.g] 47)) w3 → (∃ p', FoAt w3 p' R.1 ∧ Moved p p' F R.1 w) ∧ FoOwn p F w w3) := fun w3 ⟨⟨p', a, b⟩, c⟩ =>
    ⟨⟨p', a, ⟨b.f, b.m, b.h, b.s, b.old, fun i hi => (b.new i hi).imp id (fun h => Nat.le_trans t1.size h)⟩⟩, (FoOwn.of t1).trans c (Moved.refl p F w)⟩
  have HC := Lib.hid hC
  unfold encE
  obtain ⟨⟨xe, xc, xi⟩, xg⟩ := x
  simp only at HC HE CN CI
  clear h hL hr hpg hx hF hr' t1 hAt hC hR
  go_enter Tryz.func37, Tryz.ntmps37
  go_wp2_with (first
    | (go_at_call 47; ((with_reducible refine CN.out.mono ?_); rintro e ww ⟨rfl, rfl⟩))
    | (go_at_call 50; ((with_reducible refine CI.out.mono ?_); rintro e ww ⟨rfl, rfl⟩))
    | (go_at_call 51; ((with_reducible refine (CP.out _).mono ?_); rintro e ww ⟨rfl, rfl⟩))
    | (go_at_call 54; ((with_reducible refine HC.out.mono ?_); rintro e w2 ⟨rfl, hm⟩; have HM := Lib.hid hm; clear hm))
    | (go_at_call 53; ((with_reducible refine HM.out.mono ?_); rintro e w3 ⟨rfl, hr⟩; have HR := Lib.hid (HE.out w3 hr); clear hr)))
  go_ret2
  exact ⟨rfl, HR.out.1, HR.out.2⟩
end Go.Proofs.YtmpbhoijkcanmaaGreat.R
