/- The reference's latches: a row of numbers. -/
import Derived.Test.YtmgbpndbnfemeaaL4
import Derived.Deep.OwnRows
namespace Go.Proofs.Ytmgbpndbnfemeaa.L
open Go.ChangeShapes Go.WideShapes Go.ChangeAt Go.RowKit Go.Maps Go.Proofs.Ytmgbpndbnfemeaa.G
set_option linter.unusedVariables false
set_option linter.unusedSimpArgs false

/-- the reference's latches at block br, its row of n numbers at bL -/
structure RefAt (w : World) (br bL n : Nat) (L : Nat → Int) : Prop where
  row : w.cell? ⟨br, 0, none⟩ = some (.slice (some ⟨bL, 0, none⟩) n n)
  nums : w.rowIs bL 3 n (fun i => .int .i64 (L i))
  ne : br ≠ bL
  small : n ≤ 4096

theorem RefAt.turned {w w' : World} {br bL n : Nat} {L : Nat → Int} (h : RefAt w br bL n L) {S : List Nat} (t : Turned S w w') (h1 : br ∉ S) (h2 : bL ∉ S) : RefAt w' br bL n L :=
  ⟨t.cell h.row h1, h.nums.of_block (t.block bL h.nums.lt h2), h.ne, h.small⟩

def rbad (n : Nat) (page who : Int) : Prop := page < 0 ∨ (n : Int) ≤ page ∨ who < 0
instance (n : Nat) (page who : Int) : Decidable (rbad n page who) := by unfold rbad; infer_instance

def rtakeE (n : Nat) (L : Nat → Int) (page who : Int) : Int := if rbad n page who then 2 else if L page.toNat = who then 9 else if 0 ≤ L page.toNat then 8 else 0
def rtakeL (n : Nat) (L : Nat → Int) (page who : Int) : Nat → Int := if rtakeE n L page who = 0 then fun j => if j = page.toNat then who else L j else L
def rdropE (n : Nat) (L : Nat → Int) (page who : Int) : Int := if rbad n page who then 2 else if L page.toNat ≠ who then 3 else 0
def rdropL (n : Nat) (L : Nat → Int) (page who : Int) : Nat → Int := if rdropE n L page who = 0 then fun j => if j = page.toNat then -1 else L j else L
def rwho (n : Nat) (L : Nat → Int) (page : Int) : Int := if page < 0 ∨ (n : Int) ≤ page then -1 else L page.toNat

def rPost (E : Int) (L' : Nat → Int) (br bL n : Nat) (w : World) (e : Ending) (w' : World) : Prop := e = .returned (.int .i64 E) ∧ RefAt w' br bL n L' ∧ Turned [bL] w w'

theorem RefAt.set {w : World} {br bL n : Nat} {L : Nat → Int} (h : RefAt w br bL n L) (j : Nat) (x : Int) : RefAt (w.setCell ⟨bL, j, none⟩ (.int .i64 x)) br bL n (fun i => if i = j then x else L i) ∧ Turned [bL] w (w.setCell ⟨bL, j, none⟩ (.int .i64 x)) := by
  have t : Turned [bL] w (w.setCell ⟨bL, j, none⟩ (.int .i64 x)) := (Turned.refl _ _).setCell (.inl (by simp)) _
  refine ⟨⟨t.cell h.row (by simpa using h.ne), (h.nums.set j _).congr (fun i hi => ?_), h.ne, h.small⟩, t⟩
  by_cases e : i = j <;> simp [e]

theorem rtake (br bL n : Nat) (L : Nat → Int) (page who : Int) (w : World) (h : RefAt w br bL n L) :
    Calls Try.prog 12 #[.pointer (some ⟨br, 0, none⟩), .int .i64 page, .int .i64 who] w (rPost (rtakeE n L page who) (rtakeL n L page who) br bL n w) := by
  have hc := h.row
  have hsm := h.small
  by_cases hbad : rbad n page who
  · have HE := Lib.hid (show rtakeE n L page who = 2 from if_pos hbad)
    have HL := Lib.hid (show rtakeL n L page who = L by unfold rtakeL; rw [HE.out]; rfl)
    have Hh := Lib.hid h
    unfold rbad at hbad
    clear h
    go_enter Try.func12, Try.ntmps12
    go_wp2
    all_goals
      go_ret
      exact ⟨ret1 HE.out.symm, by rw [HL.out]; exact Hh.out, Turned.refl _ _⟩
  · have hb' := hbad
    unfold rbad at hb'
    obtain ⟨j, rfl⟩ : ∃ j : Nat, page = j := ⟨page.toNat, by omega⟩
    have hj : j < n := by omega
    have hw : ¬ who < 0 := by omega
    have ej : ((j : Int)).toNat = j := by omega
    have hcell : w.cell? ⟨bL, j, none⟩ = some (.int .i64 (L j)) := h.nums.cell hj
    have hfr := h.nums.frozen j
    have hset := h.set j who
    by_cases h1 : L j = who
    · have HE := Lib.hid (show rtakeE n L j who = 9 by unfold rtakeE; rw [if_neg hbad, ej, if_pos h1])
      have HL := Lib.hid (show rtakeL n L j who = L by unfold rtakeL; rw [HE.out]; rfl)
      have Hh := Lib.hid h
      rw [h1] at hcell
      clear h hbad hb' ej hset h1
      go_enter Try.func12, Try.ntmps12
      go_wp2
      go_ret
      exact ⟨ret1 HE.out.symm, by rw [HL.out]; exact Hh.out, Turned.refl _ _⟩
    · have h1' : (L j == who) = false := by simpa using h1
      by_cases h2 : 0 ≤ L j
      · have HE := Lib.hid (show rtakeE n L j who = 8 by unfold rtakeE; rw [if_neg hbad, ej, if_neg h1, if_pos h2])
        have HL := Lib.hid (show rtakeL n L j who = L by unfold rtakeL; rw [HE.out]; rfl)
        have Hh := Lib.hid h
        clear h hbad hb' ej hset h1
        generalize L j = x at *
        go_enter Try.func12, Try.ntmps12
        go_wp2
        go_ret
        exact ⟨ret1 HE.out.symm, by rw [HL.out]; exact Hh.out, Turned.refl _ _⟩
      · have HE := Lib.hid (show rtakeE n L j who = 0 by unfold rtakeE; rw [if_neg hbad, ej, if_neg h1, if_neg h2])
        have HL := Lib.hid (show rtakeL n L j who = fun i => if i = j then who else L i by unfold rtakeL; rw [HE.out, ej]; rfl)
        have Hset := Lib.hid hset
        clear h hbad hb' ej hset h1
        generalize L j = x at *
        go_enter Try.func12, Try.ntmps12
        go_wp2
        go_ret
        exact ⟨ret1 HE.out.symm, by rw [HL.out]; exact Hset.out.1, Hset.out.2⟩

theorem rdrop (br bL n : Nat) (L : Nat → Int) (page who : Int) (w : World) (h : RefAt w br bL n L) :
    Calls Try.prog 10 #[.pointer (some ⟨br, 0, none⟩), .int .i64 page, .int .i64 who] w (rPost (rdropE n L page who) (rdropL n L page who) br bL n w) := by
  have hc := h.row
  have hsm := h.small
  by_cases hbad : rbad n page who
  · have HE := Lib.hid (show rdropE n L page who = 2 from if_pos hbad)
    have HL := Lib.hid (show rdropL n L page who = L by unfold rdropL; rw [HE.out]; rfl)
    have Hh := Lib.hid h
    unfold rbad at hbad
    clear h
    go_enter Try.func10, Try.ntmps10
    go_wp2
    all_goals
      go_ret
      exact ⟨ret1 HE.out.symm, by rw [HL.out]; exact Hh.out, Turned.refl _ _⟩
  · have hb' := hbad
    unfold rbad at hb'
    obtain ⟨j, rfl⟩ : ∃ j : Nat, page = j := ⟨page.toNat, by omega⟩
    have hj : j < n := by omega
    have hw : ¬ who < 0 := by omega
    have ej : ((j : Int)).toNat = j := by omega
    have hcell : w.cell? ⟨bL, j, none⟩ = some (.int .i64 (L j)) := h.nums.cell hj
    have hfr := h.nums.frozen j
    have hset := h.set j (-1)
    by_cases h1 : L j = who
    · have HE := Lib.hid (show rdropE n L j who = 0 by unfold rdropE; rw [if_neg hbad, ej, if_neg (by simp [h1])])
      have HL := Lib.hid (show rdropL n L j who = fun i => if i = j then -1 else L i by unfold rdropL; rw [HE.out, ej]; rfl)
      have Hset := Lib.hid hset
      rw [h1] at hcell
      clear h hbad hb' ej hset h1
      go_enter Try.func10, Try.ntmps10
      go_wp2
      go_ret
      exact ⟨ret1 HE.out.symm, by rw [HL.out]; exact Hset.out.1, Hset.out.2⟩
    · have h1' : (L j != who) = true := by simpa using h1
      have HE := Lib.hid (show rdropE n L j who = 3 by unfold rdropE; rw [if_neg hbad, ej, if_pos h1])
      have HL := Lib.hid (show rdropL n L j who = L by unfold rdropL; rw [HE.out]; rfl)
      have Hh := Lib.hid h
      clear h hbad hb' ej hset h1
      generalize L j = x at *
      go_enter Try.func10, Try.ntmps10
      go_wp2
      go_ret
      exact ⟨ret1 HE.out.symm, by rw [HL.out]; exact Hh.out, Turned.refl _ _⟩

theorem rwho_call (br bL n : Nat) (L : Nat → Int) (page : Int) (w : World) (h : RefAt w br bL n L) :
    Calls Try.prog 14 #[.pointer (some ⟨br, 0, none⟩), .int .i64 page] w fun e w' => e = .returned (.int .i64 (rwho n L page)) ∧ w = w' := by
  have hc := h.row
  have hsm := h.small
  by_cases hbad : page < 0 ∨ (n : Int) ≤ page
  · have HE := Lib.hid (show rwho n L page = -1 from if_pos hbad)
    generalize rwho n L page = R at *
    have Hh := Lib.hid h
    clear h
    go_enter Try.func14, Try.ntmps14
    go_wp2
    all_goals
      go_ret
      exact ⟨ret1 HE.out.symm, rfl⟩
  · obtain ⟨j, rfl⟩ : ∃ j : Nat, page = j := ⟨page.toNat, by omega⟩
    have hj : j < n := by omega
    have hcell : w.cell? ⟨bL, j, none⟩ = some (.int .i64 (L j)) := h.nums.cell hj
    have HE := Lib.hid (show rwho n L j = L j by unfold rwho; rw [if_neg hbad]; rfl)
    generalize rwho n L j = R at *
    generalize L j = x at *
    have Hh := Lib.hid h
    clear h hbad
    go_enter Try.func14, Try.ntmps14
    go_wp2
    go_ret
    exact ⟨ret1 HE.out.symm, rfl⟩

end Go.Proofs.Ytmgbpndbnfemeaa.L
