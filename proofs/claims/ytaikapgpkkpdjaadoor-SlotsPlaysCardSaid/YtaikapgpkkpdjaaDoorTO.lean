/- Slots: the document's: new ones. -/
import Derived.Test.YtaikapgpkkpdjaaDoorTN
namespace Go.Proofs.YtaikapgpkkpdjaaDoor.L
open Go.ChangeShapes Go.WideShapes Go.ChangeAt Go.RowKit Go.Maps Go.Proofs.YtaikapgpkkpdjaaDoor.G Go.Sort Go.Shelf Go.Lib Go.Deep
set_option linter.unusedVariables false
set_option linter.unusedSimpArgs false

variable {w w' : World} {br bL n cap : Nat} {pg : Int} {rx : Nat → RX}
def freeX : RX := ⟨-1, 0, fun _ => 0, fun _ => 0, 0, 0⟩
def freeC (k : Nat) : List Value := (List.range (k * 3)).map (cellRX fun _ => freeX)
def encF : List Value := [.int .i64 (-1), .slice none 0 0, .slice none 0 0]
theorem cellRX_free (j : Nat) : cellRX (fun _ => freeX) j = if j % 3 = 0 then .int .i64 (-1) else .slice none 0 0 := by
  unfold cellRX freeX
  split
  · rfl
  · rw [if_pos rfl]
theorem freeC_succ (k : Nat) : freeC (k + 1) = freeC k ++ encF := by
  unfold freeC encF
  rw [show (k + 1) * 3 = k * 3 + 1 + 1 + 1 by omega, List.range_succ, List.range_succ, List.range_succ]
  simp only [List.map_append, List.map_cons, List.map_nil, List.append_assoc, cellRX_free]
  rw [if_pos (show k * 3 % 3 = 0 by omega), if_neg (show ¬ (k * 3 + 1) % 3 = 0 by omega), if_neg (show ¬ (k * 3 + 1 + 1) % 3 = 0 by omega)]
  rfl
theorem info70 : (Tryd.prog.info? 70).map (fun i => (i.zero, i.size, i.bytes)) = some (some (.agg #[.int .i64 0, .slice none 0 0, .slice none 0 0]), 3, 56) := by kernel_rfl
def cell2 (pg : Int) (v : Value) (j : Nat) : Value := if j = 0 then .int .i64 pg else v
structure NewIn (w wr : World) (pg : Int) (k : Nat) (v : Value) : Prop where
  row : wr.rowIs w.heap.size 35 2 (cell2 pg v)
  own : wr.ownsRow (w.heap.size + 1) 70 3 v k (freeC k)
  bel : Below w.heap.size w wr
  siz : w.heap.size + 1 ≤ wr.heap.size
  nul : k = 0 → v = .slice none 0 0
theorem NewIn.done {w wr : World} {pg : Int} {k : Nat} {v : Value} (h : NewIn w wr pg k v) (hk : k ≤ 32) : ∃ bL cap, RefAt wr w.heap.size bL k cap pg (fun _ => freeX) ∧ w.heap.size ≤ bL := by
  have hnum : numRX freeX := ⟨⟨by decide, by decide⟩, .inl ⟨rfl, rfl⟩, fun j hj => absurd hj (Nat.not_lt_zero _), fun j hj => absurd hj (Nat.not_lt_zero _)⟩
  have c0 := h.row.cell (i := 0) (by omega)
  have c1 := h.row.cell (i := 1) (by omega)
  by_cases h0 : k = 0
  · have hv := h.nul h0
    subst h0 hv
    refine ⟨w.heap.size + 1, 0, ⟨c0, c1, fun h => absurd rfl h, fun i hi => .inl rfl, fun _ _ => hnum, fun i hi hK => absurd rfl hK, fun i j _ _ _ hK => absurd rfl hK, by omega, ⟨by omega, Nat.le_refl _⟩⟩, by omega⟩
  · obtain ⟨h1, h2 | ⟨g, cap, cur, rfl, hg, hh, hn, hm, hs, ht⟩⟩ := h.own
    · exact absurd h2.2 h0
    · refine ⟨g, cap, ⟨c0, by rw [if_neg h0]; exact c1, fun _ => ⟨cur, hh, fun j hj => ?_⟩, fun i hi => .inl rfl, fun _ _ => hnum, fun i hi hK => absurd rfl hK, fun i j _ _ _ hK => absurd rfl hK, by omega, ⟨hk, hn⟩⟩, by omega⟩
      have e : (cur.toList.take (k * 3))[j]? = some (cellRX (fun _ => freeX) j) := by
        rw [ht]; unfold freeC; rw [List.getElem?_map, List.getElem?_range hj]; rfl
      rw [List.getElem?_take_of_lt hj] at e
      simpa using e

def rnewPost (n : Nat) (pg : Int) (w : World) (e : Ending) (w' : World) : Prop := ∃ br bL cap, e = .returned (.pointer (some ⟨br, 0, none⟩)) ∧ RefAt w' br bL n cap pg (fun _ => freeX) ∧ w.heap.size ≤ br ∧ w.heap.size ≤ bL ∧ Below w.heap.size w w'
set_option maxRecDepth 100000 in
set_option maxHeartbeats 4000000 in
theorem rnew (sz : Int) (N : Nat) (hp : isPage pg = true) (h0 : 0 ≤ sz) (h1 : sz ≤ 131072) (hn : sz / (4 * pg) = N) (w : World) : Calls Tryd.prog 10 #[.int .i64 sz, .int .i64 pg] w (rnewPost N pg w) := by
  have hpp : 1024 ≤ pg ∧ pg ≤ 16384 := by
    have hpp : pg = 1024 ∨ pg = 2048 ∨ pg = 4096 ∨ pg = 8192 ∨ pg = 16384 := by unfold isPage at hp; simpa [or_assoc] using hp
    omega
  have CP := Lib.hid (rpage pg (by unfold I64; omega))
  rw [hp] at CP
  obtain ⟨i0, hi70, hz0, hz1, hz2⟩ := info_parts3 info70
  obtain ⟨q, hq⟩ : ∃ q, 4 * pg = q := ⟨_, rfl⟩
  rw [hq] at hn
  have hN : N ≤ 32 := by
    have : sz / q ≤ 131072 / 4096 := by
      have h2 : (N : Int) * q ≤ sz := by rw [← hn]; exact Int.ediv_mul_le _ (by omega)
      have h3 : (N : Int) * 4096 ≤ N * q := Int.mul_le_mul_of_nonneg_left (by omega) (by omega)
      omega
    omega
  have HLe : Hid (∀ k : Nat, ((k : Int) + 1) * q ≤ sz ↔ k < N) := fun k => by
    rw [← Int.le_ediv_iff_mul_le (by omega : 0 < q), hn]; omega
  have HSt : Hid (∀ k : Nat, (k + 1 : Int) * q + q = (((k + 1 : Nat) : Int) + 1) * q) := fun k => by
    simp only [Int.natCast_add, Int.add_mul, Int.one_mul]; omega
  have hw4 : IntKind.i64.wrap (4 * pg) = q := by rw [hq]; exact IntWalk.i64_in _ (by omega)
  have HR0 : Hid (NewIn w (w.alloc (.cells #[.int .i64 pg, .slice none 0 0] 35)) pg 0 (.slice none 0 0)) := by
    refine ⟨World.rowIs_alloc _ _ _ _ ?_, World.ownsRow_nil _ _ _ _, (Below.refl _ w).alloc (Nat.le_refl _) _, by simp, fun _ => rfl⟩
    intro i hi
    simp only [List.size_toArray, List.length_cons, List.length_nil] at hi
    have : i = 0 ∨ i = 1 := by omega
    rcases this with rfl | rfl <;> rfl
  have hq1 : 4096 ≤ q ∧ q ≤ 65536 := by omega
  unfold rnewPost
  clear hn hp
  go_enter Tryd.func10, Tryd.ntmps10
  have hd1 : decide (sz < 0) = false := by simpa using h0
  have hd2 : decide (16777216 < sz) = false := by simp; omega
  go_upto_block 5 with (go_at_call 28; ((with_reducible refine (CP.out _).mono ?_); rintro e ww ⟨rfl, rfl⟩))
  clear hd1 hd2
  generalize w.alloc (.cells #[.int .i64 pg, .slice none 0 0] 35) = w1 at *
  go_loopw [6] (fun y wr => ∃ (k : Nat) (v : Value), k ≤ N ∧ y = .int .i64 (((k : Int) + 1) * q) ∧ Hid (NewIn w wr pg k v)) (fun y _ => (sz + 1 - intOf y).toNat)
  case atStart => exact ⟨0, _, Nat.zero_le _, by simp, HR0.out⟩
  case round =>
    obtain ⟨k, v, hk, rfl, hA⟩ := hrel
    have hle := HLe.out k
    have hst := HSt.out k
    have hA1 := Lib.hid hA.out
    have hY0 : 0 ≤ ((k : Int) + 1) * q := Int.mul_nonneg (by omega) (by omega)
    generalize hY : ((k : Int) + 1) * q = Y at *
    clear hA
    by_cases hkN : k < N
    · have hYs : Y ≤ sz := hle.2 hkN
      have hw5 : IntKind.i64.wrap (Y + q) = Y + q := IntWalk.i64_in _ (by omega)
      have c1 := hA1.out.row.cell (i := 1) (by omega)
      simp only [cell2] at c1
      rw [if_neg (by decide)] at c1
      have hB : w.heap.size < wr.heap.size := hA1.out.siz
      have HOw : Hid ((wr.alloc (.cells #[.int .i64 (-1), .slice none 0 0, .slice none 0 0] 70)).ownsRow (w.heap.size + 1) 70 3 v k (freeC k)) :=
        owns_turned hA1.out.own ((Turned.refl [] wr).alloc _) (by simp)
      clear hle
      go_wp2_with (first
        | (at_builtin; refine wpList_append_own _ rfl _ _ 33 rfl (w.heap.size + 1) 70 i0 (.agg #[.int .i64 0, .slice none 0 0, .slice none 0 0]) 3 56 Tryd.underlying33 hi70 hz0 hz1 hz2 rfl (by decide) _ _ _ rfl HOw.out ⟨wr.heap.size, 0, none⟩ 1 1 encF rfl rfl ?c1 ?c2 ?c3 ?c4 ?c5 ?_))
      case c1 => exact fun j u hu => cells_new wr _ 70 j u hu
      case c2 => intro u hu; simp [encF] at hu; rcases hu with rfl | rfl | rfl <;> rfl
      case c3 => unfold maxLen; omega
      case c4 => omega
      case c5 => simp; omega
      intro v' w4 hown' hgrow hnil
      have hk' : ∀ k', v.ownBlock = some k' → w.heap.size + 1 ≤ k' := own_above HOw.out
      have tg : Turned v.ownBlock.toList wr w4 := (((Turned.refl [] wr).alloc _).nil_mono).grown hgrow (fun k hk'' => .inl (by rw [hk'']; simp))
      have hnot : w.heap.size ∉ v.ownBlock.toList := by
        intro hm
        cases e' : v.ownBlock with
        | none => rw [e'] at hm; simp at hm
        | some k' => rw [e'] at hm; simp at hm; have := hk' k' e'; omega
      have hrow4 : w4.rowIs w.heap.size 35 2 (cell2 pg v) := hA1.out.row.of_block (tg.block _ hA1.out.siz hnot)
      have hbel4 : Below w.heap.size w w4 := Turned.below_of hA1.out.bel tg (fun i hi => by
        cases e' : v.ownBlock with
        | none => rw [e'] at hi; simp at hi
        | some k' => rw [e'] at hi; simp at hi; have := hk' k' e'; omega)
      have tset : Turned [w.heap.size] w4 (w4.setCell ⟨w.heap.size, 1, none⟩ v') := (Turned.refl [w.heap.size] w4).setCell (.inl (by simp)) _
      have HA4 : Hid (NewIn w (w4.setCell ⟨w.heap.size, 1, none⟩ v') pg (k + 1) v') := by
        refine ⟨(hrow4.set 1 v').congr (fun i hi => ?_), ?_, Turned.below_of hbel4 tset (by simp), Nat.le_trans (Nat.le_trans hA1.out.siz tg.size) tset.size, fun h => absurd h (by omega)⟩
        · unfold cell2
          have : i = 0 ∨ i = 1 := by omega
          rcases this with rfl | rfl <;> rfl
        · rw [freeC_succ]
          exact owns_turned hown' tset (by simp)
      have c1 := hrow4.cell (i := 1) (by omega)
      have f1 := hrow4.frozen 1
      simp only [cell2] at c1
      rw [if_neg (by decide)] at c1
      have HM : Hid (Y + q = (((k + 1 : Nat) : Int) + 1) * q) := hst
      have hsh : ∃ a cc, v' = .slice a (k + 1) cc := by
        obtain ⟨_, ⟨e1, e2⟩ | ⟨g, cc, cur, e1, _⟩⟩ := hown'
        · exact absurd e2 (by omega)
        · exact ⟨_, _, e1⟩
      obtain ⟨a', cc, hsh⟩ := hsh
      subst hsh
      clear hown' hgrow hnil hk' tg hnot hrow4 hbel4 tset hst
      go_wp2
      go_roundw
      case rel => exact ⟨k + 1, _, by omega, by rw [← HM.out], HA4.out⟩
      case measure => simp [intOf]; omega
    · have hYs : sz < Y := Int.lt_of_not_ge fun h => absurd (hle.1 h) hkN
      have hke : k = N := by omega
      subst hke
      have HA2 := Lib.hid hA1.out
      clear hle hst hA1
      go_wp2
      obtain ⟨bL, cap, hr, hb⟩ := HA2.out.done hN
      refine bodyPost_ret (v := .pointer (some ⟨w.heap.size, 0, none⟩)) (by simp [results, Tryd.results10, go_sem]) rfl ⟨_, bL, cap, rfl, hr, Nat.le_refl _, hb, HA2.out.bel⟩

set_option maxRecDepth 100000 in
set_option maxHeartbeats 4000000 in
theorem rnew_bad (sz pg : Int) (hp : I64 pg) (hb : isPage pg = false ∨ sz < 0 ∨ 16777216 < sz) (w : World) : Calls Tryd.prog 10 #[.int .i64 sz, .int .i64 pg] w fun e w' => e = .returned (.pointer none) ∧ w = w' := by
  obtain ⟨b, hbb⟩ : ∃ b, isPage pg = b := ⟨_, rfl⟩
  have CP := Lib.hid (rpage pg hp)
  rw [hbb] at CP hb
  clear hbb
  cases b with
  | false =>
    clear hb
    go_enter Tryd.func10, Tryd.ntmps10
    go_wp2_with (go_at_call 28; ((with_reducible refine (CP.out _).mono ?_); rintro e ww ⟨rfl, rfl⟩))
    go_ret
    exact ⟨rfl, rfl⟩
  | true =>
    by_cases h0 : sz < 0
    · clear hb
      go_enter Tryd.func10, Tryd.ntmps10
      go_wp2_with (go_at_call 28; ((with_reducible refine (CP.out _).mono ?_); rintro e ww ⟨rfl, rfl⟩))
      go_ret
      exact ⟨rfl, rfl⟩
    · have h1 : 16777216 < sz := by simp at hb; omega
      clear hb
      go_enter Tryd.func10, Tryd.ntmps10
      go_wp2_with (go_at_call 28; ((with_reducible refine (CP.out _).mono ?_); rintro e ww ⟨rfl, rfl⟩))
      go_ret
      exact ⟨rfl, rfl⟩
end Go.Proofs.YtaikapgpkkpdjaaDoor.L
