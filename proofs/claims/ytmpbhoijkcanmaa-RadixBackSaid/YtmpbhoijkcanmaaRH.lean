/- Radix: a map is made of another one: the plain law. -/
import Derived.Test.YtmpbhoijkcanmaaRG
namespace Go.Proofs.Ytmpbhoijkcanmaa.R
open Go.ChangeShapes Go.WideShapes Go.ChangeAt Go.RowKit Go.Maps Go.Proofs.Ytmpbhoijkcanmaa.G
set_option linter.unusedVariables false
set_option linter.unusedSimpArgs false
set_option linter.unnecessarySimpa false

variable {F : Fo} {pend : Nat → Nat} {pendS : Slot → Nat} {exc : Nat}
def Chg.ok : Chg → Prop
  | .set _ e => e.ok
  | .clear => True
def Chg.res : Chg → Option Ent
  | .set _ e => some e
  | .clear => none
def copF (F : Fo) (x : Node) (l : Nat) : Fo × Nat := if emptyB x then (F, 0) else (addN F x l, F.last + 1)
def kidOf (F : Fo) (n i : Nat) : Nat := if n = 0 then 0 else (F.nd n).kids i
def alongF : Nat → Fo → Nat → Nat → Chg → Fo × Nat
  | 0, F, n, pg, c => copF F (c.app (copSrc F n) (partN pg 2)) 2
  | m + 1, F, n, pg, c => copF (alongF m F (kidOf F n (partN pg (1 - m))) pg c).1 (setKid (copSrc (alongF m F (kidOf F n (partN pg (1 - m))) pg c).1 n) (partN pg (1 - m)) (alongF m F (kidOf F n (partN pg (1 - m))) pg c).2) (1 - m)
/-- what a node leads to, at a page; levels to go below it: m -/
def leafE (x : Node) (q : Nat) : Option Ent := if x.bits.testBit (partN q 2) then some (x.ents (partN q 2)) else none
def getL : Nat → Fo → Nat → Nat → Option Ent
  | 0, F, n, q => if n = 0 then none else leafE (F.nd n) q
  | m + 1, F, n, q => getL m F (kidOf F n (partN q (1 - m))) q
def getN : Nat → Fo → Node → Nat → Option Ent
  | 0, F, x, q => leafE x q
  | m + 1, F, x, q => getL m F (x.kids (partN q (1 - m))) q
theorem getL_zero : ∀ (m : Nat) (F : Fo) (q : Nat), getL m F 0 q = none
  | 0, F, q => rfl
  | m + 1, F, q => getL_zero m F q
theorem getL_pos (m : Nat) (F : Fo) {n : Nat} (q : Nat) (h : n ≠ 0) : getL m F n q = getN m F (F.nd n) q := by
  cases m with
  | zero => exact if_neg h
  | succ m => show getL m F (kidOf F n _) q = getL m F _ q; unfold kidOf; rw [if_neg h]
theorem getN_same {m : Nat} {F : Fo} {x y : Node} (q : Nat) (a : y.kids = x.kids) (b : y.ents = x.ents) (c : y.bits = x.bits) : getN m F y q = getN m F x q := by
  cases m with
  | zero => show leafE y q = leafE x q; unfold leafE; rw [b, c]
  | succ m => show getL m F (y.kids _) q = getL m F (x.kids _) q; rw [a]
/-- more nodes make no difference -/
theorem getL_ext (h : Inv F pend pendS exc) {G : Fo} (e : Ext F G) : ∀ (m n q : Nat), n = 0 ∨ n ∈ F.ids → getL m G n q = getL m F n q
  | 0, n, q, hn => by
    rcases hn with rfl | hn
    · rfl
    · unfold getL leafE
      rw [e.bits n hn, e.ents n hn]
  | m + 1, n, q, hn => by
    show getL m G (kidOf G n _) q = getL m F (kidOf F n _) q
    rcases hn with rfl | hn
    · unfold kidOf; rw [if_pos rfl, if_pos rfl, getL_zero, getL_zero]
    · have : kidOf G n (partN q (1 - m)) = kidOf F n (partN q (1 - m)) := by unfold kidOf; rw [e.kids n hn]
      rw [this]
      refine getL_ext h e m _ q ?_
      unfold kidOf
      split
      · exact .inl rfl
      · exact ((h.ok n hn).kid _ (partN_lt _ _)).imp id (fun h => h.1)
theorem getN_ext (h : Inv F pend pendS exc) {G : Fo} (e : Ext F G) {l : Nat} {x : Node} (hx : NodeOk F l x) (m q : Nat) : getN m G x q = getN m F x q := by
  cases m with
  | zero => rfl
  | succ m => exact getL_ext h e m _ q ((hx.kid _ (partN_lt _ _)).imp id (fun h => h.1))
theorem noKids_iff {f : Nat → Nat} : noKids f = true ↔ ∀ j, j < 16 → f j = 0 := by
  unfold noKids
  rw [List.all_eq_true]
  exact ⟨fun h j hj => by simpa using h j (List.mem_range.2 hj), fun h j hj => by simpa using h j (List.mem_range.1 hj)⟩
theorem emptyB_iff {x : Node} : emptyB x = true ↔ x.bits = 0 ∧ ∀ j, j < 16 → x.kids j = 0 := by
  unfold emptyB
  rw [Bool.and_eq_true, noKids_iff]
  simp
theorem getN_empty {x : Node} (h : emptyB x = true) (m : Nat) (F : Fo) (q : Nat) : getN m F x q = none := by
  obtain ⟨h1, h2⟩ := emptyB_iff.1 h
  cases m with
  | zero => show leafE x q = none; unfold leafE; rw [h1]; simp
  | succ m => show getL m F _ q = none; rw [h2 _ (partN_lt _ _), getL_zero]

/-- what came of a copy -/
structure CopIs (F : Fo) (pend : Nat → Nat) (pendS : Slot → Nat) (m l k : Nat) (R : Fo × Nat) (g : Nat → Option Ent) : Prop where
  inv : Inv R.1 pend pendS R.2
  root : R.2 = 0 ∨ (R.2 ∈ R.1.ids ∧ R.1.lev R.2 = l)
  new : R.2 = 0 ∨ F.last < R.2
  ext : Ext F R.1
  held : R.1.held = F.held
  last : F.last ≤ R.1.last ∧ R.1.last ≤ F.last + k
  len : R.1.ids.length ≤ F.ids.length + k
  get : ∀ q, getL m R.1 R.2 q = g q
theorem copF_is (h : Inv F pend pendS exc) (hs : Small F pend pendS) {l : Nat} (hl : l ≤ 2) {x : Node} (hx : NodeOk F l x) (h0 : x.refs = 0) (hp : pend (F.last + 1) = 0) (he : exc = 0 ∨ ∃ q, q < 16 ∧ x.kids q = exc) (m : Nat) :
    CopIs F pend pendS m l 1 (copF F x l) (getN m F x) := by
  unfold copF
  by_cases hE : emptyB x = true
  · rw [if_pos hE]
    have he0 : exc = 0 := by
      rcases he with he | ⟨q, hq, e⟩
      · exact he
      · rw [(emptyB_iff.1 hE).2 q hq] at e; exact e.symm
    subst he0
    exact ⟨h, .inl rfl, .inl rfl, Ext.refl F, rfl, ⟨Nat.le_refl _, Nat.le_add_right _ _⟩, Nat.le_add_right _ _, fun q => by rw [getL_zero, getN_empty hE]⟩
  · rw [if_neg hE]
    have hE' : emptyB x = false := by simpa using hE
    have hc := h.copOk hs hx
    have ext := ext_addN (l := l) hc
    refine ⟨h.addN hs hl hx hE' h0 hp he, .inr ⟨addN_mem.2 (.inr rfl), by rw [addN_lev]; exact if_pos rfl⟩, .inr (Nat.lt_succ_self _), ext, addN_held _ _ _, by rw [addN_last]; exact ⟨Nat.le_succ _, Nat.le_refl _⟩, by rw [addN_ids]; simp, fun q => ?_⟩
    rw [getL_pos m _ q (Nat.succ_ne_zero _)]
    show getN m (addN F x l) ((addN F x l).nd (F.last + 1)) q = _
    rw [addN_new hc, getN_ext h ext hx]

theorem part_split (q pg m : Nat) : q % 16 ^ (m + 1) = pg % 16 ^ (m + 1) ↔ (q / 16 ^ m % 16 = pg / 16 ^ m % 16 ∧ q % 16 ^ m = pg % 16 ^ m) := by
  have hp : 0 < 16 ^ m := Nat.pow_pos (by omega)
  have key : ∀ a : Nat, a % 16 ^ (m + 1) = a % 16 ^ m + 16 ^ m * (a / 16 ^ m % 16) := fun a => by rw [Nat.pow_succ, Nat.mod_mul]
  rw [key q, key pg]
  constructor
  · intro h
    have h1 : q % 16 ^ m = pg % 16 ^ m := by
      have := congrArg (· % 16 ^ m) h
      simpa [Nat.add_mul_mod_self_left] using this
    rw [h1] at h
    exact ⟨Nat.eq_of_mul_eq_mul_left hp (by omega), h1⟩
  · rintro ⟨h1, h2⟩; rw [h1, h2]
theorem copSrc_kids (F : Fo) (n : Nat) : (copSrc F n).kids = fun i => kidOf F n i := by
  unfold copSrc copY kidOf setRefs
  funext i
  by_cases h : n = 0
  · simp [h, zeroN]
  · simp [h]
theorem copSrc_leaf (F : Fo) (n q : Nat) : leafE (copSrc F n) q = getL 0 F n q := by
  unfold copSrc copY getL setRefs leafE
  by_cases h : n = 0
  · simp [h, zeroN]
  · simp [h]
theorem copSrc_ok (h : Inv F pend pendS exc) {n l : Nat} (hn : n = 0 ∨ (n ∈ F.ids ∧ F.lev n = l)) : NodeOk F l (copSrc F n) := by
  unfold copSrc copY
  rcases hn with rfl | ⟨hn, hl⟩
  · rw [if_pos rfl]
    exact ⟨fun j _ => .inl rfl, ⟨by show (0 : Nat) < 2 ^ 16; decide, fun _ => rfl⟩, fun j _ hb => by simp [setRefs, zeroN] at hb, fun j _ _ => rfl⟩
  · rw [if_neg (by have := (h.pos n hn).1; omega)]
    have := h.ok n hn
    rw [hl] at this
    exact this.same rfl rfl rfl
theorem app_ok {x : Node} (hx : NodeOk F 2 x) {c : Chg} (hc : c.ok) {i : Nat} (hi : i < 16) : NodeOk F 2 (c.app x i) := by
  cases c with
  | set be e =>
    refine ⟨hx.kid, ⟨or_lt _ _ hx.bits.1 hi, fun h => by omega⟩, fun j hj hb => ?_, fun j hj hb => ?_⟩
    · show (if j = i then e else x.ents j).ok
      by_cases hji : j = i
      · rw [if_pos hji]; exact hc
      · rw [if_neg hji]
        refine hx.ents j hj ?_
        have hb' : (x.bits ||| 2 ^ i).testBit j = true := hb
        rw [Nat.testBit_or, Nat.testBit_two_pow] at hb'
        simpa [Ne.symm hji] using hb'
    · have hb' : (x.bits ||| 2 ^ i).testBit j = false := hb
      rw [Nat.testBit_or, Nat.testBit_two_pow] at hb'
      simp only [Bool.or_eq_false_iff, decide_eq_false_iff_not] at hb'
      show (if j = i then e else x.ents j) = zeroE
      rw [if_neg (fun h => hb'.2 h.symm)]
      exact hx.zero j hj hb'.1
  | clear =>
    refine ⟨hx.kid, ⟨clr_lt _ _ hx.bits.1, fun h => by omega⟩, fun j hj hb => ?_, fun j hj hb => ?_⟩
    · have hb' : (clr x.bits i).testBit j = true := hb
      rw [clr_bit _ _ _ hx.bits.1 hi] at hb'
      simp only [Bool.and_eq_true, decide_eq_true_eq] at hb'
      show (if j = i then zeroE else x.ents j).ok
      rw [if_neg hb'.2]
      exact hx.ents j hj hb'.1
    · have hb' : (clr x.bits i).testBit j = false := hb
      rw [clr_bit _ _ _ hx.bits.1 hi] at hb'
      show (if j = i then zeroE else x.ents j) = zeroE
      by_cases hji : j = i
      · rw [if_pos hji]
      · rw [if_neg hji]
        exact hx.zero j hj (by simpa [hji] using hb')
theorem app_leaf {x : Node} (hx : x.bits < 2 ^ 16) (c : Chg) {i : Nat} (hi : i < 16) (q : Nat) : leafE (c.app x i) q = if partN q 2 = i then c.res else leafE x q := by
  have hq := partN_lt q 2
  unfold leafE
  cases c with
  | set be e =>
    show (if (x.bits ||| 2 ^ i).testBit (partN q 2) then some (if partN q 2 = i then e else x.ents (partN q 2)) else none) = if partN q 2 = i then some e else _
    rw [Nat.testBit_or, Nat.testBit_two_pow]
    by_cases h : partN q 2 = i
    · rw [if_pos h, if_pos h, h]; simp
    · rw [if_neg h, if_neg h]; simp [Ne.symm h]
  | clear =>
    show (if (clr x.bits i).testBit (partN q 2) then some (if partN q 2 = i then zeroE else x.ents (partN q 2)) else none) = if partN q 2 = i then none else _
    rw [clr_bit _ _ _ hx hi]
    by_cases h : partN q 2 = i
    · rw [if_pos h, if_pos h]; simp [h]
    · rw [if_neg h, if_neg h]; simp [h]
theorem app_refs (x : Node) (i : Nat) (c : Chg) : (c.app x i).refs = x.refs := by cases c <;> rfl
theorem Small.more (hs : Small F pend pendS) {G : Fo} (hl : G.last ≤ 2 ^ 39) (hh : G.held = F.held) : Small G pend pendS := ⟨hl, by rw [hh]; exact hs.held, hs.pend, hs.pendS⟩

/-- the node that a kid is laid into -/
theorem step_ok {G : Fo} {pend : Nat → Nat} {pendS : Slot → Nat} {exc n l i k : Nat} (h : Inv G pend pendS exc) (hn : n = 0 ∨ (n ∈ G.ids ∧ G.lev n = l)) (hl : l < 2) (hk : k = 0 ∨ (k ∈ G.ids ∧ G.lev k = l + 1)) : NodeOk G l (setKid (copSrc G n) i k) := by
  have hsrc := copSrc_ok h hn
  refine ⟨fun j hj => ?_, hsrc.bits, hsrc.ents, hsrc.zero⟩
  by_cases hji : j = i
  · have e2 : (setKid (copSrc G n) i k).kids j = k := if_pos hji
    rw [e2]
    exact hk.imp id (fun ⟨a, b⟩ => ⟨a, b, hl⟩)
  · have e2 : (setKid (copSrc G n) i k).kids j = (copSrc G n).kids j := if_neg hji
    rw [e2]
    exact hsrc.kid j hj

theorem along_is : ∀ (m : Nat), m ≤ 2 → ∀ (F : Fo) (pend : Nat → Nat) (pendS : Slot → Nat) (n pg : Nat) (c : Chg), Inv F pend pendS 0 → Small F pend pendS → F.last + m ≤ 2 ^ 39 → (∀ i, F.last < i → pend i = 0) → (n = 0 ∨ (n ∈ F.ids ∧ F.lev n = 2 - m)) → c.ok →
    CopIs F pend pendS m (2 - m) (m + 1) (alongF m F n pg c) (fun q => if q % 16 ^ (m + 1) = pg % 16 ^ (m + 1) then c.res else getL m F n q)
  | 0, _, F, pend, pendS, n, pg, c, h, hs, hl, hp, hn, hc => by
    have hsrc := copSrc_ok h hn
    have hx := app_ok (i := partN pg 2) hsrc hc (partN_lt _ _)
    have key := copF_is h hs (by omega) hx (by rw [app_refs]; rfl) (hp _ (Nat.lt_succ_self _)) (.inl rfl) 0
    refine ⟨key.inv, key.root, key.new, key.ext, key.held, key.last, key.len, fun q => (key.get q).trans ?_⟩
    show leafE (c.app (copSrc F n) (partN pg 2)) q = _
    rw [app_leaf hsrc.bits.1 c (partN_lt _ _), copSrc_leaf]
    have e : ∀ a, partN a 2 = a % 16 ^ (0 + 1) := fun a => by unfold partN; simp
    rw [e q, e pg]
  | m + 1, hm, F, pend, pendS, n, pg, c, h, hs, hl, hp, hn, hc => by
    obtain ⟨i, hi⟩ : ∃ i, partN pg (1 - m) = i := ⟨_, rfl⟩
    have hi16 : i < 16 := hi ▸ partN_lt _ _
    have hk : kidOf F n i = 0 ∨ (kidOf F n i ∈ F.ids ∧ F.lev (kidOf F n i) = 2 - m) := by
      unfold kidOf
      rcases hn with rfl | ⟨hn, hlv⟩
      · exact .inl rfl
      · rw [if_neg (by have := (h.pos n hn).1; omega)]
        rcases (h.ok n hn).kid i hi16 with h' | ⟨h1, h2, h3⟩
        · exact .inl h'
        · exact .inr ⟨h1, by omega⟩
    have ih := along_is m (by omega) F pend pendS (kidOf F n i) pg c h hs (by omega) hp hk hc
    obtain ⟨R, hR⟩ : ∃ R, alongF m F (kidOf F n i) pg c = R := ⟨_, rfl⟩
    have e1 : alongF (m + 1) F n pg c = copF R.1 (setKid (copSrc R.1 n) i R.2) (1 - m) := by
      show copF (alongF m F (kidOf F n (partN pg (1 - m))) pg c).1 _ _ = _
      rw [hi, hR]
    rw [hR] at ih
    rw [e1]
    have hn' : n = 0 ∨ (n ∈ R.1.ids ∧ R.1.lev n = 1 - m) := hn.imp id (fun ⟨a, b⟩ => ⟨ih.ext.mem n a, by rw [ih.ext.lev n a]; omega⟩)
    have hsrc := copSrc_ok ih.inv hn'
    have hx : NodeOk R.1 (1 - m) (setKid (copSrc R.1 n) i R.2) := by
      refine ⟨fun j hj => ?_, hsrc.bits, hsrc.ents, hsrc.zero⟩
      show (if j = i then R.2 else (copSrc R.1 n).kids j) = 0 ∨ _
      by_cases hji : j = i
      · have e2 : (setKid (copSrc R.1 n) i R.2).kids j = R.2 := if_pos hji
        rw [if_pos hji, e2]
        rcases ih.root with h' | ⟨h1, h2⟩
        · exact .inl h'
        · exact .inr ⟨h1, by omega, by omega⟩
      · have e2 : (setKid (copSrc R.1 n) i R.2).kids j = (copSrc R.1 n).kids j := if_neg hji
        rw [if_neg hji, e2]
        exact hsrc.kid j hj
    have key := copF_is ih.inv (hs.more (by have := ih.last.2; omega) ih.held) (by omega) hx rfl (hp _ (by have := ih.last.1; omega)) (.inr ⟨i, hi16, if_pos rfl⟩) (m + 1)
    refine ⟨key.inv, by rw [show 2 - (m + 1) = 1 - m by omega]; exact key.root, key.new.imp id (fun h => by have := ih.last.1; omega), ih.ext.trans key.ext, key.held.trans ih.held, ⟨Nat.le_trans ih.last.1 key.last.1, by have := key.last.2; have := ih.last.2; omega⟩, by have := key.len; have := ih.len; omega, fun q => (key.get q).trans ?_⟩
    show getL m R.1 (if partN q (1 - m) = i then R.2 else (copSrc R.1 n).kids (partN q (1 - m))) q = _
    have ep : ∀ a, partN a (1 - m) = a / 16 ^ (m + 1) % 16 := fun a => by
      unfold partN
      rw [show 2 - (1 - m) = m + 1 by omega]
    by_cases hpi : partN q (1 - m) = i
    · rw [if_pos hpi, ih.get q]
      have hgo : getL (m + 1) F n q = getL m F (kidOf F n i) q := by show getL m F (kidOf F n (partN q (1 - m))) q = _; rw [hpi]
      rw [hgo]
      by_cases hq : q % 16 ^ (m + 1) = pg % 16 ^ (m + 1)
      · rw [if_pos hq, if_pos ((part_split q pg (m + 1)).2 ⟨by rw [← ep, ← ep, hpi, hi], hq⟩)]
      · rw [if_neg hq, if_neg (fun h => hq ((part_split q pg (m + 1)).1 h).2)]
    · rw [if_neg hpi, if_neg (fun h => hpi (by rw [ep, ((part_split q pg (m + 1)).1 h).1, ← ep, hi])), copSrc_kids]
      show getL m R.1 (kidOf R.1 n (partN q (1 - m))) q = getL m F (kidOf F n (partN q (1 - m))) q
      exact getL_ext h ih.ext (m + 1) n q (hn.imp id (fun h => h.1))
end Go.Proofs.Ytmpbhoijkcanmaa.R
