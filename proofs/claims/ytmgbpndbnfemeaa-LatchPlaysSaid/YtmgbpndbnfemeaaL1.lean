/- The latches' own calls: what each answers, and what it does to the map of holders. -/
import Derived.Test.YtmgbpndbnfemeaaGMap
import Derived.Test.YtmgbpndbnfemeaaRows
import Derived.WalkKit
import Derived.ProofKit
import Derived.OpenShut
import Derived.Outline
import Derived.IntWalk
import Derived.Deep.QuietTactic
import Derived.BigQuiet
import Derived.LoopTactic
import Derived.Lib.Hide
import Derived.WalkSpells
import Derived.WalkLawsBesides
namespace Go.Proofs.Ytmgbpndbnfemeaa.L
open Go.ChangeShapes Go.WideShapes Go.ChangeAt Go.RowKit Go.Maps Go.Proofs.Ytmgbpndbnfemeaa.G
set_option linter.unusedVariables false
set_option linter.unusedSimpArgs false

theorem ret1 {k : IntKind} {a b : Int} (h : a = b) : Ending.returned (.int k a) = .returned (.int k b) := by rw [h]
def iv (n : Int) : Value := .int .i64 n
theorem iv_inj (a c : Int) (h : iv a = iv c) : a = c := by simpa [iv] using h
abbrev I64 (n : Int) : Prop := -9223372036854775808 ≤ n ∧ n ≤ 9223372036854775807
theorem keyed3 : Keyed Try.prog 3 := int_keyed Try.underlying3
theorem key3 {n : Int} (h : I64 n) : keyOf Try.prog 3 (iv n) = some (.int .i64 n) := keyOf_int_mk Try.underlying3 (by simp [Lit.wf, IntKind.min, IntKind.max, IntKind.signed, IntKind.bits]; omega)
theorem zero3 (w : World) : (zeroValue 3).run Try.prog w = .ok (.int .i64 0) w := by kernel_rfl

/-- who holds what, as the map has it -/
abbrev Holds := List (Int × Value)
/-- latches of np pages at block bl, their map at bm -/
structure LatchAt (w : World) (bl bm : Nat) (np : Int) (l : Holds) : Prop where
  pages : w.cell? ⟨bl, 0, none⟩ = some (.int .i64 np)
  by_ : w.cell? ⟨bl, 1, none⟩ = some (.map (some bm))
  map : MapIs Try.prog 3 iv w bm l
  ne : bl ≠ bm

theorem LatchAt.turned {w w' : World} {bl bm : Nat} {np : Int} {l : Holds} (h : LatchAt w bl bm np l) {S : List Nat} (t : Turned S w w') (h1 : bl ∉ S) (h2 : bm ∉ S) : LatchAt w' bl bm np l :=
  ⟨t.cell h.pages h1, t.cell h.by_ h1, h.map.turned t h2, h.ne⟩

/-- what may be asked for -/
def mayE (np page who : Int) : Int := if page < 0 ∨ np ≤ page ∨ who < 0 then 2 else 0

theorem may (bl bm : Nat) (np page who : Int) (w : World) (h0 : w.cell? ⟨bl, 0, none⟩ = some (.int .i64 np)) (h1 : w.cell? ⟨bl, 1, none⟩ = some (.map (some bm))) :
    Calls Try.prog 19 #[.pointer (some ⟨bl, 0, none⟩), .int .i64 page, .int .i64 who] w fun e w' => e = .returned (.int .i64 (mayE np page who)) ∧ w = w' := by
  have qT : ∀ (w : World) (r : Option Nat), (binOp .eql 43 (.map r) (.map none)).run Try.prog w = .ok (.bool r.isNone) w := fun w r => run_eql_map_nil w 43 3 3 r Try.underlying43
  have HE : Hid (mayE np page who = if page < 0 ∨ np ≤ page ∨ who < 0 then 2 else 0) := rfl
  generalize mayE np page who = E at *
  go_enter Try.func19, Try.ntmps19
  go_wp2
  all_goals
    go_ret
    exact ⟨ret1 (by rw [HE.out]; first | rw [if_pos (by omega)] | rw [if_neg (by omega)]), rfl⟩

theorem may_nil (page who : Int) (w : World) : Calls Try.prog 19 #[.pointer none, .int .i64 page, .int .i64 who] w fun e w' => e = .returned (.int .i64 1) ∧ w = w' := by
  go_enter Try.func19, Try.ntmps19
  go_wp2
  go_ret
  exact ⟨rfl, rfl⟩


def takeE (np page who : Int) (l : Holds) : Int := if mayE np page who = 2 then 2 else match mget l page with | some (.int .i64 k) => if k = who then 9 else 8 | _ => 0
def takeL (np page who : Int) (l : Holds) : Holds := if takeE np page who l = 0 then mput l page (iv who) else l

/-- holders are numbers -/
def Nums (l : Holds) : Prop := ∀ p ∈ l, ∃ k, p.2 = iv k

theorem look_num {l : Holds} (h : Nums l) (page : Int) : (mget l page = none) ∨ ∃ k, mget l page = some (iv k) := by
  cases e : mget l page with
  | none => exact .inl rfl
  | some v =>
    obtain ⟨k, hk⟩ := h _ (mem_of_look e)
    exact .inr ⟨k, by simpa using hk⟩

theorem may_two (np page who : Int) : mayE np page who = 2 ∨ mayE np page who = 0 := by unfold mayE; split <;> simp

def takePost (np page who : Int) (bm : Nat) (l : Holds) (w : World) (e : Ending) (w' : World) : Prop := e = .returned (.int .i64 (takeE np page who l)) ∧ MapIs Try.prog 3 iv w' bm (takeL np page who l) ∧ Turned [bm] w w'

theorem take (bl bm : Nat) (np page who : Int) (l : Holds) (w : World) (h : LatchAt w bl bm np l) (hl : Nums l) (hp : I64 page) :
    Calls Try.prog 11 #[.pointer (some ⟨bl, 0, none⟩), .int .i64 page, .int .i64 who] w (takePost np page who bm l w) := by
  obtain ⟨h0, h1, hm, hne⟩ := h
  have hmay' := may bl bm np page who w h0 h1
  rcases may_two np page who with hmay | hmay
  · have HE := Lib.hid (show takeE np page who l = 2 from if_pos hmay)
    have HL := Lib.hid (show takeL np page who l = l by unfold takeL; rw [HE.out]; rfl)
    rw [hmay] at hmay'
    clear hmay
    go_enter Try.func11, Try.ntmps11
    go_wp2_with (first | (go_at_call 19; ((with_reducible refine hmay'.mono ?_); rintro e ww ⟨rfl, rfl⟩)))
    go_ret
    exact ⟨ret1 HE.out.symm, by rw [HL.out]; exact hm, Turned.refl _ _⟩
  · rw [hmay] at hmay'
    have n2 : ¬ mayE np page who = 2 := by rw [hmay]; decide
    rcases look_num hl page with LK | ⟨k, LK⟩
    · have HE := Lib.hid (show takeE np page who l = 0 by unfold takeE; rw [if_neg n2, LK])
      have HL := Lib.hid (show takeL np page who l = mput l page (iv who) by unfold takeL; rw [HE.out]; rfl)
      clear hmay n2
      go_enter Try.func11, Try.ntmps11
      go_wp2_with (first | (go_at_call 19; ((with_reducible refine hmay'.mono ?_); rintro e ww ⟨rfl, rfl⟩)) | (at_lookup; refine wp_look _ rfl _ _ 43 true rfl keyed3 iv_inj Try.underlying43 (zero3 _) bm l rfl hm page rfl (key3 hp) ?_; simp only [LK, iv, if_true, Option.getD, Option.isSome]) | (at_mapUpdate; refine wp_put _ rfl _ _ _ 43 rfl keyed3 iv_inj Try.underlying43 bm l rfl hm page rfl (iv who) rfl (key3 hp) ?_; intro w1 hm1 ht1))
      go_ret
      exact ⟨ret1 HE.out.symm, by rw [HL.out]; exact hm1, ht1⟩
    · by_cases hk : k = who
      · subst hk
        have HE := Lib.hid (show takeE np page k l = 9 by unfold takeE; rw [if_neg n2, LK]; exact if_pos rfl)
        have HL := Lib.hid (show takeL np page k l = l by unfold takeL; rw [HE.out]; rfl)
        clear hmay n2
        go_enter Try.func11, Try.ntmps11
        go_wp2_with (first | (go_at_call 19; ((with_reducible refine hmay'.mono ?_); rintro e ww ⟨rfl, rfl⟩)) | (at_lookup; refine wp_look _ rfl _ _ 43 true rfl keyed3 iv_inj Try.underlying43 (zero3 _) bm l rfl hm page rfl (key3 hp) ?_; simp only [LK, iv, if_true, Option.getD, Option.isSome]))
        go_ret
        exact ⟨ret1 HE.out.symm, by rw [HL.out]; exact hm, Turned.refl _ _⟩
      · have HE := Lib.hid (show takeE np page who l = 8 by unfold takeE; rw [if_neg n2, LK]; exact if_neg hk)
        have HL := Lib.hid (show takeL np page who l = l by unfold takeL; rw [HE.out]; rfl)
        have hk' : (k == who) = false := by simpa using hk
        clear hmay n2 hk
        go_enter Try.func11, Try.ntmps11
        go_wp2_with (first | (go_at_call 19; ((with_reducible refine hmay'.mono ?_); rintro e ww ⟨rfl, rfl⟩)) | (at_lookup; refine wp_look _ rfl _ _ 43 true rfl keyed3 iv_inj Try.underlying43 (zero3 _) bm l rfl hm page rfl (key3 hp) ?_; simp only [LK, iv, if_true, Option.getD, Option.isSome]))
        go_ret
        exact ⟨ret1 HE.out.symm, by rw [HL.out]; exact hm, Turned.refl _ _⟩

def dropE (np page who : Int) (l : Holds) : Int := if mayE np page who = 2 then 2 else match mget l page with | some (.int .i64 k) => if k = who then 0 else 3 | _ => 3
def dropL (np page who : Int) (l : Holds) : Holds := if dropE np page who l = 0 then mdel l page else l
def dropPost (np page who : Int) (bm : Nat) (l : Holds) (w : World) (e : Ending) (w' : World) : Prop := e = .returned (.int .i64 (dropE np page who l)) ∧ MapIs Try.prog 3 iv w' bm (dropL np page who l) ∧ Turned [bm] w w'

theorem drop (bl bm : Nat) (np page who : Int) (l : Holds) (w : World) (h : LatchAt w bl bm np l) (hl : Nums l) (hp : I64 page) :
    Calls Try.prog 9 #[.pointer (some ⟨bl, 0, none⟩), .int .i64 page, .int .i64 who] w (dropPost np page who bm l w) := by
  obtain ⟨h0, h1, hm, hne⟩ := h
  have hmay' := may bl bm np page who w h0 h1
  rcases may_two np page who with hmay | hmay
  · have HE := Lib.hid (show dropE np page who l = 2 from if_pos hmay)
    have HL := Lib.hid (show dropL np page who l = l by unfold dropL; rw [HE.out]; rfl)
    rw [hmay] at hmay'
    clear hmay
    go_enter Try.func9, Try.ntmps9
    go_wp2_with (first | (go_at_call 19; ((with_reducible refine hmay'.mono ?_); rintro e ww ⟨rfl, rfl⟩)))
    go_ret
    exact ⟨ret1 HE.out.symm, by rw [HL.out]; exact hm, Turned.refl _ _⟩
  · rw [hmay] at hmay'
    have n2 : ¬ mayE np page who = 2 := by rw [hmay]; decide
    rcases look_num hl page with LK | ⟨k, LK⟩
    · have HE := Lib.hid (show dropE np page who l = 3 by unfold dropE; rw [if_neg n2, LK])
      have HL := Lib.hid (show dropL np page who l = l by unfold dropL; rw [HE.out]; rfl)
      clear hmay n2
      go_enter Try.func9, Try.ntmps9
      go_wp2_with (first | (go_at_call 19; ((with_reducible refine hmay'.mono ?_); rintro e ww ⟨rfl, rfl⟩)) | (at_lookup; refine wp_look _ rfl _ _ 43 true rfl keyed3 iv_inj Try.underlying43 (zero3 _) bm l rfl hm page rfl (key3 hp) ?_; simp only [LK, iv, if_true, Option.getD, Option.isSome]))
      go_ret
      exact ⟨ret1 HE.out.symm, by rw [HL.out]; exact hm, Turned.refl _ _⟩
    · by_cases hk : k = who
      · subst hk
        have HE := Lib.hid (show dropE np page k l = 0 by unfold dropE; rw [if_neg n2, LK]; exact if_pos rfl)
        have HL := Lib.hid (show dropL np page k l = mdel l page by unfold dropL; rw [HE.out]; rfl)
        clear hmay n2
        go_enter Try.func9, Try.ntmps9
        go_wp2_with (first | (go_at_call 19; ((with_reducible refine hmay'.mono ?_); rintro e ww ⟨rfl, rfl⟩)) | (at_lookup; refine wp_look _ rfl _ _ 43 true rfl keyed3 iv_inj Try.underlying43 (zero3 _) bm l rfl hm page rfl (key3 hp) ?_; simp only [LK, iv, if_true, Option.getD, Option.isSome]) | (at_delete; refine wp_del _ rfl _ _ 43 3 rfl keyed3 iv_inj Try.underlying43 bm l rfl hm page rfl (key3 hp) ?_; intro w1 hm1 ht1))
        go_ret
        exact ⟨ret1 HE.out.symm, by rw [HL.out]; exact hm1, ht1⟩
      · have HE := Lib.hid (show dropE np page who l = 3 by unfold dropE; rw [if_neg n2, LK]; exact if_neg hk)
        have HL := Lib.hid (show dropL np page who l = l by unfold dropL; rw [HE.out]; rfl)
        have hk' : (k != who) = true := by simpa using hk
        clear hmay n2 hk
        go_enter Try.func9, Try.ntmps9
        go_wp2_with (first | (go_at_call 19; ((with_reducible refine hmay'.mono ?_); rintro e ww ⟨rfl, rfl⟩)) | (at_lookup; refine wp_look _ rfl _ _ 43 true rfl keyed3 iv_inj Try.underlying43 (zero3 _) bm l rfl hm page rfl (key3 hp) ?_; simp only [LK, iv, if_true, Option.getD, Option.isSome]))
        go_ret
        exact ⟨ret1 HE.out.symm, by rw [HL.out]; exact hm, Turned.refl _ _⟩

/-- whose a page is -/
theorem who (bl bm : Nat) (np page : Int) (l : Holds) (w : World) (h : LatchAt w bl bm np l) (hp : I64 page) :
    Calls Try.prog 13 #[.pointer (some ⟨bl, 0, none⟩), .int .i64 page] w fun e w' => e = .returned (.tuple #[(mget l page).getD (iv 0), .bool (mget l page).isSome]) ∧ w = w' := by
  obtain ⟨h0, h1, hm, hne⟩ := h
  go_enter Try.func13, Try.ntmps13
  go_wp2_with (first | (at_lookup; refine wp_look _ rfl _ _ 43 true rfl keyed3 iv_inj Try.underlying43 (zero3 _) bm l rfl hm page rfl (key3 hp) ?_; simp only [if_true]))
  go_ret2
  exact ⟨rfl, rfl⟩

theorem take_nil (page who : Int) (w : World) : Calls Try.prog 11 #[.pointer none, .int .i64 page, .int .i64 who] w fun e w' => e = .returned (.int .i64 1) ∧ w = w' := by
  go_enter Try.func11, Try.ntmps11
  go_wp2_with (first | (go_at_call 19; ((with_reducible refine (may_nil _ _ _).mono ?_); rintro e ww ⟨rfl, rfl⟩)))
  go_ret
  exact ⟨rfl, rfl⟩
theorem drop_nil (page who : Int) (w : World) : Calls Try.prog 9 #[.pointer none, .int .i64 page, .int .i64 who] w fun e w' => e = .returned (.int .i64 1) ∧ w = w' := by
  go_enter Try.func9, Try.ntmps9
  go_wp2_with (first | (go_at_call 19; ((with_reducible refine (may_nil _ _ _).mono ?_); rintro e ww ⟨rfl, rfl⟩)))
  go_ret
  exact ⟨rfl, rfl⟩
theorem who_nil (page : Int) (w : World) : Calls Try.prog 13 #[.pointer none, .int .i64 page] w fun e w' => e = .returned (.tuple #[.int .i64 0, .bool false]) ∧ w = w' := by
  go_enter Try.func13, Try.ntmps13
  go_wp2
  go_ret2
  exact ⟨rfl, rfl⟩
def clamp (pages : Int) : Int := min (max pages 0) 4096
def newPost (pages : Int) (w : World) (e : Ending) (w' : World) : Prop := ∃ bl bm, e = .returned (.pointer (some ⟨bl, 0, none⟩)) ∧ LatchAt w' bl bm (clamp pages) [] ∧ w.heap.size ≤ bl ∧ w.heap.size ≤ bm ∧ Turned [] w w'

theorem latch_new (w : World) (np : Int) : LatchAt ((w.alloc (.map #[] 0)).alloc (.cells #[.int .i64 np, .map (some w.heap.size)] 45)) (w.heap.size + 1) w.heap.size np [] := by
  have h := (MapKept.heap_alloc (w.alloc (.map #[] 0)) (.cells #[.int .i64 np, .map (some w.heap.size)] 45)).1
  have e : (w.alloc (.map #[] 0)).heap.size = w.heap.size + 1 := by simp
  rw [e] at h
  exact ⟨by unfold World.cell?; dsimp only; rw [h]; rfl, by unfold World.cell?; dsimp only; rw [h]; rfl, (MapIs.made w).alloc _, by omega⟩

theorem new (pages : Int) (w : World) : Calls Try.prog 7 #[.int .i64 pages] w (newPost pages w) := by
  have hmm := @run_makeMap Try.prog
  have fin : ∀ np, np = clamp pages → newPost pages w (.returned (.pointer (some ⟨w.heap.size + 1, 0, none⟩))) ((w.alloc (.map #[] 0)).alloc (.cells #[.int .i64 np, .map (some w.heap.size)] 45)) := by
    intro np h
    subst h
    exact ⟨w.heap.size + 1, w.heap.size, rfl, latch_new w _, by omega, by omega, ((Turned.refl _ _).alloc _).alloc _⟩
  have F := Lib.hid fin
  clear fin
  go_enter Try.func7, Try.ntmps7
  go_wp2
  all_goals
    go_ret
    refine F.out _ ?_
    unfold clamp
    omega

end Go.Proofs.Ytmgbpndbnfemeaa.L
