/- Slots in memory, and the search for an extent. -/
import Derived.Test.YtaikapgpkkpdjaaDoorS6
import Derived.LoopTactic
namespace Go.Proofs.YtaikapgpkkpdjaaDoor.L
open Go.ChangeShapes Go.WideShapes Go.ChangeAt Go.RowKit Go.Maps Go.Proofs.YtaikapgpkkpdjaaDoor.G
set_option linter.unusedVariables false
set_option linter.unusedSimpArgs false

/-- extents, as numbers: their classes (none: 0, else one more), the bits of their used slots -/
abbrev Exts := Nat → Int × Nat
def cellX (ex : Exts) (j : Nat) : Value := if j % 2 = 0 then .int .i64 (ex (j / 2)).1 else .int .u64 (ex (j / 2)).2
theorem cellX_0 (ex : Exts) (i : Nat) : cellX ex (i * 2) = .int .i64 (ex i).1 := by unfold cellX; rw [if_pos (by omega), show i * 2 / 2 = i by omega]
theorem cellX_1 (ex : Exts) (i : Nat) : cellX ex (i * 2 + 1) = .int .u64 (ex i).2 := by unfold cellX; rw [if_neg (by omega), show (i * 2 + 1) / 2 = i by omega]
/-- each fits -/
def FitX (n : Nat) (ex : Exts) : Prop := ∀ i, i < n → (0 ≤ (ex i).1 ∧ (ex i).1 ≤ 6) ∧ (ex i).2 < 2 ^ 64

/-- extents in memory -/
structure ExtsAt (w : World) (be n : Nat) (ex : Exts) : Prop where
  row : w.rowIs be 75 (n * 2) (cellX ex)
  fit : FitX n ex
  few : n ≤ 16384
theorem ExtsAt.c0 {w : World} {be n : Nat} {ex : Exts} (h : ExtsAt w be n ex) (i : Nat) (hi : i < n) : w.cell? ⟨be, i * 2, none⟩ = some (.int .i64 (ex i).1) := by
  rw [h.row.cell (by omega), cellX_0]
theorem ExtsAt.c1 {w : World} {be n : Nat} {ex : Exts} (h : ExtsAt w be n ex) (i : Nat) (hi : i < n) : w.cell? ⟨be, i * 2 + 1, none⟩ = some (.int .u64 (ex i).2) := by
  rw [h.row.cell (by omega), cellX_1]
theorem ExtsAt.turned {w w' : World} {be n : Nat} {ex : Exts} (h : ExtsAt w be n ex) {S : List Nat} (t : Turned S w w') (h0 : be ∉ S) : ExtsAt w' be n ex :=
  ⟨h.row.of_block (t.block be h.row.lt h0), h.fit, h.few⟩

theorem index40 (c : Int) (hc : 0 ≤ c ∧ c ≤ 5) (be n : Nat) (ex : Exts) (a : Addr) (w : World) (h : ExtsAt w be n ex) (hT : Tab w) (ha : w.cell? a = some (.int .i64 c)) :
    Calls Tryd.prog 39 #[.slice (some ⟨be, 0, none⟩) n n, .func (.func 40) #[] #[.pointer (some a)]] w fun e w' => e = .returned (.int .i64 (firstI n (fun i => openX c (ex i)))) ∧ Below w.heap.size w w' := by
  have hn := h.few
  have H := Lib.hid h
  have HT := Lib.hid hT
  have HA := Lib.hid ha
  have CL : Hid (∀ (i : Nat) (w' : World), i < n → Below w.heap.size w w' → Calls Tryd.prog 40 #[.agg #[.int .i64 (ex i).1, .int .u64 (ex i).2], .pointer (some a)] w' fun e w'' => e = .returned (.bool (openX c (ex i))) ∧ Below w'.heap.size w' w'') :=
    fun i w' hi hb => closure40 c (ex i).1 (ex i).2 hc (h.fit i hi).1 (h.fit i hi).2 a w' (hT.turned (Turned.of_below hb) (by simp)) ((Turned.of_below hb).cell ha (by simp))
  have HR : Hid (∀ r : Int, firstI n (fun i => openX c (ex i)) = r → True) := fun _ _ => trivial
  obtain ⟨R, hR⟩ : ∃ R, firstI n (fun i => openX c (ex i)) = R := ⟨_, rfl⟩
  rw [hR]
  have HR := Lib.hid hR
  clear h hT ha hR
  go_enter Tryd.func39, Tryd.ntmps39
  go_wp2
  go_loopw [8] (fun i wr => ∃ k : Nat, k ≤ n ∧ i = .int .i64 k ∧ Hid (∀ j, j < k → openX c (ex j) = false) ∧ Hid (Below w.heap.size w wr)) (fun i _ => n - (intOf i).toNat)
  case atStart => exact ⟨0, Nat.zero_le _, rfl, fun j hj => absurd hj (Nat.not_lt_zero _), Below.refl _ _⟩
  case round =>
    obtain ⟨k, hk, rfl, hno, hbw⟩ := hrel
    by_cases hlt : k < n
    · have c0 := (H.out.turned (Turned.of_below hbw.out) (by simp)).c0 k hlt
      have c1 := (H.out.turned (Turned.of_below hbw.out) (by simp)).c1 k hlt
      have CK := Lib.hid (CL.out k wr hlt hbw.out)
      obtain ⟨q, hq⟩ : ∃ q, openX c (ex k) = q := ⟨_, rfl⟩
      rw [hq] at CK
      have HQ := Lib.hid hq
      clear hq CL
      cases q with
      | true =>
        go_wp2_with (first | (go_at_call 40; ((with_reducible refine CK.out.mono ?_); rintro e ww ⟨rfl, hb⟩; have HW := Lib.hid hb; clear hb)))
        go_ret
        have hf := firstI_some (n := n) (p := fun i => openX c (ex i)) hlt HQ.out hno.out
        exact ⟨ret1 (by rw [← HR.out, hf]), hbw.out.trans (HW.out.mono hbw.out.size)⟩
      | false =>
        go_wp2_with (first | (go_at_call 40; ((with_reducible refine CK.out.mono ?_); rintro e ww ⟨rfl, hb⟩; have HW := Lib.hid hb; clear hb)))
        go_roundw
        case rel => exact ⟨k + 1, by omega, by go_num, fun j hj => by
          rcases Nat.lt_or_ge j k with h' | h'
          · exact hno.out j h'
          · have : j = k := by omega
            subst this; exact HQ.out, hbw.out.trans (HW.out.mono hbw.out.size)⟩
        case measure => simp [intOf]; omega
    · have hke : k = n := by omega
      subst hke
      clear hlt CL
      go_wp2
      go_ret
      have hf := firstI_none (n := k) (p := fun i => openX c (ex i)) hno.out
      exact ⟨ret1 (by rw [← HR.out, hf]), hbw.out⟩

theorem index42 (be n : Nat) (ex : Exts) (w : World) (h : ExtsAt w be n ex) :
    Calls Tryd.prog 39 #[.slice (some ⟨be, 0, none⟩) n n, .func (.func 42) #[] #[]] w fun e w' => e = .returned (.int .i64 (firstI n (fun i => ((ex i).1 == 0)))) ∧ Below w.heap.size w w' := by
  have hn := h.few
  have H := Lib.hid h
  have CL : Hid (∀ (i : Nat) (w' : World), i < n → Below w.heap.size w w' → Calls Tryd.prog 42 #[.agg #[.int .i64 (ex i).1, .int .u64 (ex i).2]] w' fun e w'' => e = .returned (.bool (((ex i).1 == 0))) ∧ Below w'.heap.size w' w'') :=
    fun i w' hi hb => closure42 (ex i).1 (ex i).2 w'
  have HR : Hid (∀ r : Int, firstI n (fun i => ((ex i).1 == 0)) = r → True) := fun _ _ => trivial
  obtain ⟨R, hR⟩ : ∃ R, firstI n (fun i => ((ex i).1 == 0)) = R := ⟨_, rfl⟩
  rw [hR]
  have HR := Lib.hid hR
  clear h hR
  go_enter Tryd.func39, Tryd.ntmps39
  go_wp2
  go_loopw [8] (fun i wr => ∃ k : Nat, k ≤ n ∧ i = .int .i64 k ∧ Hid (∀ j, j < k → ((ex j).1 == 0) = false) ∧ Hid (Below w.heap.size w wr)) (fun i _ => n - (intOf i).toNat)
  case atStart => exact ⟨0, Nat.zero_le _, rfl, fun j hj => absurd hj (Nat.not_lt_zero _), Below.refl _ _⟩
  case round =>
    obtain ⟨k, hk, rfl, hno, hbw⟩ := hrel
    by_cases hlt : k < n
    · have c0 := (H.out.turned (Turned.of_below hbw.out) (by simp)).c0 k hlt
      have c1 := (H.out.turned (Turned.of_below hbw.out) (by simp)).c1 k hlt
      have CK := Lib.hid (CL.out k wr hlt hbw.out)
      obtain ⟨q, hq⟩ : ∃ q, ((ex k).1 == 0) = q := ⟨_, rfl⟩
      rw [hq] at CK
      have HQ := Lib.hid hq
      clear hq CL
      cases q with
      | true =>
        go_wp2_with (first | (go_at_call 42; ((with_reducible refine CK.out.mono ?_); rintro e ww ⟨rfl, hb⟩; have HW := Lib.hid hb; clear hb)))
        go_ret
        have hf := firstI_some (n := n) (p := fun i => ((ex i).1 == 0)) hlt HQ.out hno.out
        exact ⟨ret1 (by rw [← HR.out, hf]), hbw.out.trans (HW.out.mono hbw.out.size)⟩
      | false =>
        go_wp2_with (first | (go_at_call 42; ((with_reducible refine CK.out.mono ?_); rintro e ww ⟨rfl, hb⟩; have HW := Lib.hid hb; clear hb)))
        go_roundw
        case rel => exact ⟨k + 1, by omega, by go_num, fun j hj => by
          rcases Nat.lt_or_ge j k with h' | h'
          · exact hno.out j h'
          · have : j = k := by omega
            subst this; exact HQ.out, hbw.out.trans (HW.out.mono hbw.out.size)⟩
        case measure => simp [intOf]; omega
    · have hke : k = n := by omega
      subst hke
      clear hlt CL
      go_wp2
      go_ret
      have hf := firstI_none (n := k) (p := fun i => ((ex i).1 == 0)) hno.out
      exact ⟨ret1 (by rw [← HR.out, hf]), hbw.out⟩

/-- a slot's state: whether it waits, for which epoch -/
def encT (b : Bool) (e : Nat) : Value := .agg #[.bool b, .int .u64 e]
abbrev States := List (Slot × Value)
/-- slots in memory -/
structure SlotsAt (w : World) (bs be bm n : Nat) (pg : Int) (ex : Exts) (l : States) : Prop where
  page : w.cell? ⟨bs, 0, none⟩ = some (.int .i64 pg)
  exts : w.cell? ⟨bs, 1, none⟩ = some (.slice (some ⟨be, 0, none⟩) n n)
  states : w.cell? ⟨bs, 2, none⟩ = some (.map (some bm))
  rows : ExtsAt w be n ex
  map : MapIs Tryd.prog 24 encS w bm l
  tab : Tab w
  n1 : be ≠ bs
  n2 : bm ≠ bs
  n3 : be ≠ bm
  z1 : 0 ≠ be
  z2 : 0 ≠ bm
theorem SlotsAt.turned {w w' : World} {bs be bm n : Nat} {pg : Int} {ex : Exts} {l : States} (h : SlotsAt w bs be bm n pg ex l) {S : List Nat} (t : Turned S w w') (h0 : 0 ∉ S) (h1 : bs ∉ S) (h2 : be ∉ S) (h3 : bm ∉ S) : SlotsAt w' bs be bm n pg ex l :=
  ⟨t.cell h.page h1, t.cell h.exts h1, t.cell h.states h1, h.rows.turned t h2, h.map.turned t h3, h.tab.turned t h0, h.n1, h.n2, h.n3, h.z1, h.z2⟩
theorem SlotsAt.calm {w w' : World} {bs be bm n : Nat} {pg : Int} {ex : Exts} {l : States} (h : SlotsAt w bs be bm n pg ex l) (t : Turned [] w w') : SlotsAt w' bs be bm n pg ex l :=
  h.turned t (by simp) (by simp) (by simp) (by simp)
end Go.Proofs.YtaikapgpkkpdjaaDoor.L
