/- What each call answers: the walk. -/
import Derived.Test.YtmgbpndbnfemeaaM4
import Derived.Deep.DeepCutAuto
import Derived.Deep.CutBlock
import Derived.Deep.RegionHeld3
namespace Go.Proofs.Ytmgbpndbnfemeaa.L
open Go.ChangeShapes Go.WideShapes Go.ChangeAt Go.RowKit Go.Maps Go.Proofs.Ytmgbpndbnfemeaa.G
set_option linter.unusedVariables false
set_option linter.unusedSimpArgs false

/-- the frame of the loop: latches, the document's, and that both say the same -/
structure Both (w wr : World) (bl bm br bL n : Nat) (l : Holds) (L : Nat → Int) : Prop where
  latch : LatchAt wr bl bm n l
  ref : RefAt wr br bL n L
  n1 : bL ≠ bl
  n2 : bL ≠ bm
  n3 : br ≠ bm
  hbm : w.heap.size ≤ bm
  hbL : w.heap.size ≤ bL
  below : Below w.heap.size w wr

variable {w wr w' : World} {bl bm br bL n : Nat} {l l' : Holds} {L L' : Nat → Int}

theorem Both.turnL (h : Both w wr bl bm br bL n l L) (hl : LatchAt w' bl bm n l') (t : Turned [bm] wr w') : Both w w' bl bm br bL n l' L :=
  ⟨hl, h.ref.turned t (by simpa using h.n3) (by simpa using h.n2), h.n1, h.n2, h.n3, h.hbm, h.hbL, Turned.below_of h.below t (by intro i hi; simp only [List.mem_singleton] at hi; subst hi; exact h.hbm)⟩
theorem Both.turnR (h : Both w wr bl bm br bL n l L) (hl : RefAt w' br bL n L') (t : Turned [bL] wr w') : Both w w' bl bm br bL n l L' :=
  ⟨h.latch.turned t (by simpa using h.n1.symm) (by simpa using h.n2.symm), hl, h.n1, h.n2, h.n3, h.hbm, h.hbL, Turned.below_of h.below t (by intro i hi; simp only [List.mem_singleton] at hi; subst hi; exact h.hbL)⟩
theorem Both.calm (h : Both w wr bl bm br bL n l L) (t : Turned [] wr w') : Both w w' bl bm br bL n l L :=
  h.turnL (h.latch.turned t (by simp) (by simp)) t.nil_mono
theorem Both.still (h : Both w wr bl bm br bL n l L) (b : Below wr.heap.size wr w') : Both w w' bl bm br bL n l L := h.calm (Turned.of_below b)

/-- and the act that is asked -/
structure Turn (w wr : World) (bl bm br bL n : Nat) (l : Holds) (L : Nat → Int) (bA : Nat) (dr : Bool) (pg wh : Int) : Prop where
  both : Both w wr bl bm br bL n l L
  c0 : wr.cell? ⟨bA, 0, none⟩ = some (.bool dr)
  c1 : wr.cell? ⟨bA, 1, none⟩ = some (.int .i64 pg)
  c2 : wr.cell? ⟨bA, 2, none⟩ = some (.int .i64 wh)
  a1 : bA ≠ bm
  a2 : bA ≠ bL

variable {bA : Nat} {dr : Bool} {pg wh : Int}
theorem Turn.cells {S : List Nat} (h : Turn w wr bl bm br bL n l L bA dr pg wh) (hb : Both w w' bl bm br bL n l' L') (t : Turned S wr w') (hs : bA ∉ S) : Turn w w' bl bm br bL n l' L' bA dr pg wh :=
  ⟨hb, t.cell h.c0 hs, t.cell h.c1 hs, t.cell h.c2 hs, h.a1, h.a2⟩
theorem Turn.calm (h : Turn w wr bl bm br bL n l L bA dr pg wh) (t : Turned [] wr w') : Turn w w' bl bm br bL n l L bA dr pg wh := h.cells (h.both.calm t) t (by simp)

theorem Turn.dropT (h : Turn w wr bl bm br bL n l L bA dr pg wh) (hl : Nums l) (hp : I64 pg) (E : Int) (hE : dropE n pg wh l = E) :
    Calls Try.prog 9 #[.pointer (some ⟨bl, 0, none⟩), .int .i64 pg, .int .i64 wh] wr fun e w' => e = .returned (.int .i64 E) ∧ Turn w w' bl bm br bL n (dropL n pg wh l) L bA dr pg wh :=
  (drop' bl bm n pg wh l wr h.both.latch hl hp _ _ hE rfl).mono fun e w' ⟨a, b, c⟩ => ⟨a, h.cells (h.both.turnL b c) c (by simpa using h.a1)⟩
theorem Turn.takeT (h : Turn w wr bl bm br bL n l L bA dr pg wh) (hl : Nums l) (hp : I64 pg) (E : Int) (hE : takeE n pg wh l = E) :
    Calls Try.prog 11 #[.pointer (some ⟨bl, 0, none⟩), .int .i64 pg, .int .i64 wh] wr fun e w' => e = .returned (.int .i64 E) ∧ Turn w w' bl bm br bL n (takeL n pg wh l) L bA dr pg wh :=
  (take' bl bm n pg wh l wr h.both.latch hl hp _ _ hE rfl).mono fun e w' ⟨a, b, c⟩ => ⟨a, h.cells (h.both.turnL b c) c (by simpa using h.a1)⟩
theorem Turn.rdropT (h : Turn w wr bl bm br bL n l L bA dr pg wh) (E : Int) (hE : rdropE n L pg wh = E) :
    Calls Try.prog 10 #[.pointer (some ⟨br, 0, none⟩), .int .i64 pg, .int .i64 wh] wr fun e w' => e = .returned (.int .i64 E) ∧ Turn w w' bl bm br bL n l (rdropL n L pg wh) bA dr pg wh :=
  (rdrop br bL n L pg wh wr h.both.ref).mono fun e w' ⟨a, b, c⟩ => ⟨by rw [a, hE], h.cells (h.both.turnR b c) c (by simpa using h.a2)⟩
theorem Turn.rtakeT (h : Turn w wr bl bm br bL n l L bA dr pg wh) (E : Int) (hE : rtakeE n L pg wh = E) :
    Calls Try.prog 12 #[.pointer (some ⟨br, 0, none⟩), .int .i64 pg, .int .i64 wh] wr fun e w' => e = .returned (.int .i64 E) ∧ Turn w w' bl bm br bL n l (rtakeL n L pg wh) bA dr pg wh :=
  (rtake br bL n L pg wh wr h.both.ref).mono fun e w' ⟨a, b, c⟩ => ⟨by rw [a, hE], h.cells (h.both.turnR b c) c (by simpa using h.a2)⟩
theorem Turn.heldT (h : Turn w wr bl bm br bL n l L bA dr pg wh) (s : SameN n l L) (xs : List Int) (hx : heldL l wh = xs) :
    Calls Try.prog 15 #[.pointer (some ⟨bl, 0, none⟩), .int .i64 wh] wr fun e w' => ∃ a cap, e = .returned (.slice a xs.length cap) ∧ SlAt w' a xs.length (xs.map iv) ∧ Turned [] wr w' ∧ Turn w w' bl bm br bL n l L bA dr pg wh := by
  have h4 := h.both.ref.small
  have := s.len h.both.latch.map.nodup
  refine (held bl bm n wh l wr h.both.latch s.nums (by omega) (s.i64 h4)).mono fun e w' ⟨v, e1, hrow, hb⟩ => ?_
  rw [hx] at hrow
  obtain ⟨a, cap, rfl, hsl, _⟩ := SlAt.of_owns hrow
  exact ⟨a, cap, e1, hsl, Turned.of_below hb, h.calm (Turned.of_below hb)⟩
theorem Turn.rheldT (h : Turn w wr bl bm br bL n l L bA dr pg wh) (xs : List Int) (hx : rheld n L wh = xs) :
    Calls Try.prog 16 #[.pointer (some ⟨br, 0, none⟩), .int .i64 wh] wr fun e w' => ∃ a cap, e = .returned (.slice a xs.length cap) ∧ SlAt w' a xs.length (xs.map iv) ∧ Turned [] wr w' ∧ Turn w w' bl bm br bL n l L bA dr pg wh := by
  refine (rheld_call br bL n L wh wr h.both.ref).mono fun e w' ⟨v, e1, hrow, hb⟩ => ?_
  rw [hx] at hrow
  obtain ⟨a, cap, rfl, hsl, _⟩ := SlAt.of_owns hrow
  exact ⟨a, cap, e1, hsl, Turned.of_below hb, h.calm (Turned.of_below hb)⟩
theorem Turn.whoT (h : Turn w wr bl bm br bL n l L bA dr pg wh) (s : SameN n l L) (hp : I64 pg) (K : Int) (hK : rwho n L pg = K) :
    Calls Try.prog 13 #[.pointer (some ⟨bl, 0, none⟩), .int .i64 pg] wr fun e w' => e = .returned (.tuple #[.int .i64 (max K 0), .bool (decide (0 ≤ K))]) ∧ wr = w' := by
  have := who bl bm n pg l wr h.both.latch hp
  rw [(s.who pg).1, (s.who pg).2, hK] at this
  exact this
theorem Turn.freeT (h : Turn w wr bl bm br bL n l L bA dr pg wh) (s : SameN n l L) (xs : List Int) (a : Option Addr) (len cap : Nat) (hs : SlAt w a len (xs.map (Value.int .i64))) (hlen : len ≤ maxLen) (hx : ∀ x ∈ xs, I64 x) (q : Int) (B : Bool) (hB : (!(xs.any (rbusy n L q))) = B) :
    Calls Try.prog 17 #[.pointer (some ⟨bl, 0, none⟩), .int .i64 q, .slice a len cap] wr fun e w' => e = .returned (.bool B) ∧ Turned [] wr w' ∧ Turn w w' bl bm br bL n l L bA dr pg wh := by
  have e : xs.any (busy l q) = xs.any (rbusy n L q) := by congr 1; funext x; exact s.busy q x
  refine (free xs a len cap bl bm n q l wr h.both.latch s.nums (hs.turned (Turned.of_below h.both.below) (fun _ _ => by simp)) hlen hx).mono fun e' w' ⟨e1, hb⟩ => ⟨by rw [e1, e, hB], Turned.of_below hb, h.calm (Turned.of_below hb)⟩
theorem Turn.rfreeT (h : Turn w wr bl bm br bL n l L bA dr pg wh) (xs : List Int) (a : Option Addr) (len cap : Nat) (hs : SlAt w a len (xs.map (Value.int .i64))) (hlen : len ≤ maxLen) (q : Int) (B : Bool) (hB : (!(xs.any (rbusy n L q))) = B) :
    Calls Try.prog 18 #[.pointer (some ⟨br, 0, none⟩), .int .i64 q, .slice a len cap] wr fun e w' => e = .returned (.bool B) ∧ wr = w' := by
  have := rfree br bL n L q xs a len cap wr h.both.ref (hs.turned (Turned.of_below h.both.below) (fun _ _ => by simp)) hlen
  rw [hB] at this
  exact this

end Go.Proofs.Ytmgbpndbnfemeaa.L
