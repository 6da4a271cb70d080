/- Slots: a slot is taken, where there is room. -/
import Derived.Test.YtaikapgpkkpdjaaDoorS9
import Derived.Deep.DeepCutAuto
import Derived.Deep.CutBlock
namespace Go.Proofs.YtaikapgpkkpdjaaDoor.L
open Go.ChangeShapes Go.WideShapes Go.ChangeAt Go.RowKit Go.Maps Go.Proofs.YtaikapgpkkpdjaaDoor.G
set_option linter.unusedVariables false
set_option linter.unusedSimpArgs false

def upd (ex : Exts) (k : Nat) (y : Int × Nat) : Exts := fun i => if i = k then y else ex i
theorem upd_same (ex : Exts) (k : Nat) (y : Int × Nat) : upd ex k y k = y := if_pos rfl
theorem upd_upd (ex : Exts) (k : Nat) (y z : Int × Nat) : upd (upd ex k y) k z = upd ex k z := by
  funext i; unfold upd; split <;> rfl
theorem FitX.upd {n : Nat} {ex : Exts} (h : FitX n ex) (k : Nat) (y : Int × Nat) (hy : (0 ≤ y.1 ∧ y.1 ≤ 6) ∧ y.2 < 2 ^ 64) : FitX n (L.upd ex k y) := by
  intro i hi
  unfold L.upd
  split
  · exact hy
  · exact h i hi
theorem ExtsAt.set0 {w : World} {be n : Nat} {ex : Exts} (h : ExtsAt w be n ex) (k : Nat) (c : Int) (hc : 0 ≤ c ∧ c ≤ 6) (hk : k < n) : ExtsAt (w.setCell ⟨be, k * 2, none⟩ (.int .i64 c)) be n (upd ex k (c, (ex k).2)) := by
  refine ⟨(h.row.set (k * 2) _).congr fun j hj => ?_, h.fit.upd k _ ⟨hc, (h.fit k hk).2⟩, h.few⟩
  unfold cellX upd
  by_cases hj : j % 2 = 0
  · rw [if_pos hj, if_pos hj]
    by_cases e : j = k * 2
    · rw [if_pos e, if_pos (by omega)]
    · rw [if_neg e, if_neg (by omega)]
  · rw [if_neg hj, if_neg hj, if_neg (by omega)]
    by_cases e : j / 2 = k
    · rw [if_pos e, e]
    · rw [if_neg e]
theorem ExtsAt.set1 {w : World} {be n : Nat} {ex : Exts} (h : ExtsAt w be n ex) (k : Nat) (u : Nat) (hu : u < 2 ^ 64) (hk : k < n) : ExtsAt (w.setCell ⟨be, k * 2 + 1, none⟩ (.int .u64 u)) be n (upd ex k ((ex k).1, u)) := by
  refine ⟨(h.row.set (k * 2 + 1) _).congr fun j hj => ?_, h.fit.upd k _ ⟨(h.fit k hk).1, hu⟩, h.few⟩
  unfold cellX upd
  by_cases hj : j % 2 = 0
  · rw [if_pos hj, if_pos hj, if_neg (by omega)]
    by_cases e : j / 2 = k
    · rw [if_pos e, e]
    · rw [if_neg e]
  · rw [if_neg hj, if_neg hj]
    by_cases e : j = k * 2 + 1
    · rw [if_pos e, if_pos (by omega)]
    · rw [if_neg e, if_neg (by omega)]
theorem SlotsAt.rowset {w : World} {bs be bm n : Nat} {pg : Int} {ex ex' : Exts} {l : States} (h : SlotsAt w bs be bm n pg ex l) {j : Nat} {v : Value} (hr : ExtsAt (w.setCell ⟨be, j, none⟩ v) be n ex') : SlotsAt (w.setCell ⟨be, j, none⟩ v) bs be bm n pg ex' l := by
  have t : Turned [be] w (w.setCell ⟨be, j, none⟩ v) := (Turned.refl [be] w).setCell (.inl (by simp)) _
  exact ⟨t.cell h.page (by simpa using h.n1.symm), t.cell h.exts (by simpa using h.n1.symm), t.cell h.states (by simpa using h.n1.symm), hr, h.map.turned t (by simpa using h.n3.symm), h.tab.turned t (by simpa using h.z1), h.n1, h.n2, h.n3, h.z1, h.z2⟩

theorem turned_new {S T : List Nat} {a b c : World} (h : Turned S a b) (k : Turned T b c) (hT : ∀ i ∈ T, a.heap.size ≤ i) : Turned S a c :=
  ⟨k.os.trans h.os, k.tape.trans h.tape, k.output.trans h.output, Nat.le_trans h.size k.size, fun i hi hn => by
    rw [k.block i (Nat.lt_of_lt_of_le hi h.size) (fun hm => by have := hT i hm; omega)]
    exact h.block i hi hn⟩
theorem or_lt (u t : Nat) (hu : u < 2 ^ 64) (ht : t < 64) : u ||| 2 ^ t < 2 ^ 64 := Nat.or_lt_two_pow hu (Nat.pow_lt_pow_right (by omega) ht)
theorem or_bit (u t : Nat) (hu : u < 2 ^ 64) (ht : t < 64) : bits BinOp.or IntKind.u64 (u : Int) (IntKind.u64.wrap (2 ^ t)) = ((u ||| 2 ^ t : Nat) : Int) := by
  have hp : 2 ^ t < 2 ^ 64 := Nat.pow_lt_pow_right (by omega) ht
  have hw : IntKind.u64.wrap (2 ^ t) = ((2 ^ t : Nat) : Int) := by
    have : ((2 : Int) ^ t) = ((2 ^ t : Nat) : Int) := by rw [Int.natCast_pow]; rfl
    rw [this, IntKind.wrap_u64]
    generalize 2 ^ t = P at *
    omega
  rw [hw]
  show IntKind.u64.wrap ((BitVec.ofInt 64 (u : Int) ||| BitVec.ofInt 64 ((2 ^ t : Nat) : Int)).toNat : Int) = _
  rw [BitVec.toNat_or, BitVec.ofInt_natCast, BitVec.ofInt_natCast, BitVec.toNat_ofNat, BitVec.toNat_ofNat, Nat.mod_eq_of_lt hu, Nat.mod_eq_of_lt hp, IntKind.wrap_u64]
  have := or_lt u t hu ht
  omega

structure TakeOn (w ww : World) (bs be bm n : Nat) (pg : Int) (ex : Exts) (l : States) (c : Int) (B : Nat) : Prop where
  slots : SlotsAt ww bs be bm n pg ex l
  res : ResAt ww (B + 1) zeroS
  box : ww.cell? ⟨B, 0, none⟩ = some (.int .i64 c)
  turned : Turned [be, bm] w ww
  old : bs < B ∧ be < B ∧ bm < B
  hB : B = w.heap.size
theorem TakeIn.on {w ww : World} {bs be bm n : Nat} {pg : Int} {ex : Exts} {l : States} {c : Int} {B : Nat} (h : TakeIn w ww bs be bm n pg ex l c B) : TakeOn w ww bs be bm n pg ex l c B := ⟨h.slots, h.res, h.box, h.turned.nil_mono, h.old, h.hB⟩
theorem TakeOn.calm {w ww w3 : World} {bs be bm n : Nat} {pg : Int} {ex : Exts} {l : States} {c : Int} {B : Nat} (h : TakeOn w ww bs be bm n pg ex l c B) (t : Turned [] ww w3) : TakeOn w w3 bs be bm n pg ex l c B :=
  ⟨h.slots.calm t, h.res.turned t (by simp), t.cell h.box (by simp), h.turned.trans t.nil_mono, h.old, h.hB⟩
theorem TakeOn.setX {w ww : World} {bs be bm n : Nat} {pg : Int} {ex ex' : Exts} {l : States} {c : Int} {B : Nat} (h : TakeOn w ww bs be bm n pg ex l c B) {j : Nat} {v : Value} (hr : ExtsAt (ww.setCell ⟨be, j, none⟩ v) be n ex') : TakeOn w (ww.setCell ⟨be, j, none⟩ v) bs be bm n pg ex' l c B := by
  have t : Turned [be] ww (ww.setCell ⟨be, j, none⟩ v) := (Turned.refl [be] ww).setCell (.inl (by simp)) _
  have := h.old
  exact ⟨h.slots.rowset hr, h.res.turned t (by simp; omega), t.cell h.box (by simp; omega), h.turned.trans (t.mono fun k _ hk => by simp at hk; simp [hk]), h.old, h.hB⟩

set_option maxRecDepth 100000 in
set_option maxHeartbeats 4000000 in
theorem take_ok (bs be bm n : Nat) (pg : Int) (ex : Exts) (l : States) (c : Int) (hc : 0 ≤ c ∧ c ≤ 5) (w : World) (h : SlotsAt w bs be bm n pg ex l) (k : Nat) (hk : k < n) (u : Nat) (hu : (ex k).2 = u) (t : Nat) (ht : freeI u = t) (ht64 : t < 64)
    (hs : firstI n (fun i => openX c (ex i)) = k ∨ firstI n (fun i => openX c (ex i)) = -1 ∧ firstI n (fun i => ((ex i).1 == 0)) = k) :
    Calls Tryd.prog 22 #[.pointer (some ⟨bs, 0, none⟩), .int .i64 c] w fun e w' => e = .returned (.tuple #[encS ⟨k, c, t⟩, .int .i64 0]) ∧ SlotsAt w' bs be bm n pg (upd ex k (c + 1, u ||| 2 ^ t)) (mput l ⟨k, c, t⟩ (encT false 0)) ∧ Turned [be, bm] w w' := by
  obtain ⟨uc, huc, hu0⟩ : ∃ u, unitsC c = u ∧ (u == 0) = false := ⟨_, rfl, by rcases unitsC_of c with h | h | h | h | h | h | h <;> simp <;> omega⟩
  have cU := units c
  rw [huc] at cU
  have CU := Lib.hid cU
  have hcm := h.states
  have hbs : bs < w.heap.size := lt_of_cell h.states
  have qT : ∀ (w : World) (r : Option Nat), (binOp .eql 64 (.map r) (.map none)).run Tryd.prog w = .ok (.bool r.isNone) w := fun w r => run_eql_map_nil w 64 24 80 r Tryd.underlying64
  obtain ⟨W, hW⟩ : ∃ W, (w.alloc (.cells #[.int .i64 c] 3)).alloc (.cells #[.int .i64 0, .int .i64 0, .int .i64 0] 24) = W := ⟨_, rfl⟩
  have T0 : Hid (TakeIn w W bs be bm n pg ex l c w.heap.size) := hW ▸ takeIn_new c h
  have C1 : Hid (∀ ww, TakeIn w ww bs be bm n pg ex l c w.heap.size → Calls Tryd.prog 39 #[.slice (some ⟨be, 0, none⟩) n n, .func (.func 40) #[] #[.pointer (some ⟨w.heap.size, 0, none⟩)]] ww fun e w' => e = .returned (.int .i64 (firstI n (fun i => openX c (ex i)))) ∧ Below ww.heap.size ww w') :=
    fun ww t => index40 c hc be n ex _ ww t.slots.rows t.slots.tab t.box
  have C2 : Hid (∀ ww, TakeIn w ww bs be bm n pg ex l c w.heap.size → Calls Tryd.prog 39 #[.slice (some ⟨be, 0, none⟩) n n, .func (.func 42) #[] #[]] ww fun e w' => e = .returned (.int .i64 (firstI n (fun i => ((ex i).1 == 0)))) ∧ Below ww.heap.size ww w') :=
    fun ww t => index42 be n ex ww t.slots.rows
  generalize firstI n (fun i => openX c (ex i)) = r1 at *
  generalize firstI n (fun i => ((ex i).1 == 0)) = r2 at *
  have HW := Lib.hid hW
  have HS := Lib.hid hs
  have HN := Lib.hid (And.intro hu ht)
  have hn := h.rows.few
  clear cU huc h hW hs hu ht
  go_enter Tryd.func22, Tryd.ntmps22
  go_upto_if 34 with (first
    | (go_at_call 38; ((with_reducible refine (CU.out _).mono ?_); rintro e ww ⟨rfl, hb⟩; rw [HW.out] at hb; have T1 := Lib.hid (T0.out.next hb); clear hb T0; have hx1 := T1.out.slots.exts; have hx2 := T1.out.box))
    | (go_at_call 39; ((with_reducible refine (C1.out _ T1.out).mono ?_); rintro e w2 ⟨rfl, hb⟩; have T2 := Lib.hid (T1.out.next hb); clear hb; have hy1 := T2.out.slots.exts)))
  go_cut [6] (fun v wc => v = .int .i64 k ∧ TakeIn w wc bs be bm n pg ex l c w.heap.size)
  case first =>
    rcases HS.out with rfl | ⟨rfl, rfl⟩
    · clear HS
      go_wp2
      go_meet
      exact ⟨rfl, T2.out⟩
    · clear HS
      go_wp2_with (first | (go_at_call 39; ((with_reducible refine (C2.out _ T2.out).mono ?_); rintro e w3 ⟨rfl, hb⟩; have T3 := Lib.hid (T2.out.next hb); clear hb)))
      go_meet
      exact ⟨rfl, T3.out⟩
  case rest =>
    obtain ⟨rfl, hT⟩ := hcut
    have HT := Lib.hid hT.on
    clear hT T1 T2 hx1 hx2 hy1 C1 C2 HS
    have hx1 := HT.out.slots.exts
    have hx2 := HT.out.box
    have hx3 := HT.out.slots.rows.c0 k hk
    have hx4 := HT.out.slots.rows.c1 k hk
    rw [HN.out.1] at hx4
    have hf := HT.out.slots.rows.row.frozen (k * 2)
    have TN : Hid (TakeOn w (wc.setCell ⟨be, k * 2, none⟩ (.int .i64 (c + 1))) bs be bm n pg (upd ex k (c + 1, u)) l c w.heap.size) := by
      have := HT.out.slots.rows.set0 k (c + 1) (by omega) hk
      rw [HN.out.1] at this
      exact HT.out.setX this
    have C3 : Hid (∀ w', Tab w' → Calls Tryd.prog 41 #[.agg #[.int .i64 (c + 1), .int .u64 u]] w' fun e w'' => e = .returned (.tuple #[.int .i64 t, .bool (decide ((t : Int) < slotsC (c + 1 - 1)))]) ∧ Below w'.heap.size w' w'') := by
      have hu : u < 2 ^ 64 := by have := (HT.out.slots.rows.fit k hk).2; rw [HN.out.1] at this; exact this
      have := fun w' hT => first (c + 1) u (by omega) hu w' hT
      rw [HN.out.2] at this
      exact this
    go_wp2_with (first
      | (go_at_call 41; ((with_reducible refine (C3.out _ TN.out.slots.tab).mono ?_); rintro e w4 ⟨rfl, hb⟩; have T4 := Lib.hid (TN.out.calm (Turned.of_below hb)); clear hb)))
    have T5 := Lib.hid (T4.out.calm (Turned.refl [] w4).drew)
    have hy1 := T5.out.slots.rows.c1 k hk
    rw [upd_same] at hy1
    simp only at hy1
    have hy2 := T5.out.slots.rows.row.frozen (k * 2 + 1)
    clear hx3 hx4 hf
    have hy3 := T4.out.slots.rows.c1 k hk
    rw [upd_same] at hy3
    simp only at hy3
    have ht' : (t : Int) < 64 := by omega
    have hu64 : u < 2 ^ 64 := by have := (T5.out.slots.rows.fit k hk).2; rw [upd_same] at this; exact this
    have hor := or_bit u t hu64 ht64
    go_still_tail 9, (by kernel_rfl)
    change wpList _ _ _ _ _ w4.drew
    generalize w4.drew = w5 at *
    have T6 : Hid (TakeOn w (w5.setCell ⟨be, k * 2 + 1, none⟩ (.int .u64 ((u ||| 2 ^ t : Nat) : Int))) bs be bm n pg (upd ex k (c + 1, u ||| 2 ^ t)) l c w.heap.size) := by
      have := T5.out.slots.rows.set1 k (u ||| 2 ^ t) (or_lt u t hu64 ht64) hk
      rw [upd_upd, upd_same] at this
      exact T5.out.setX this
    have HOR := Lib.hid hor
    have HU := Lib.hid hu64
    clear hor hu64
    go_upto_region 14 with fail

    clear T5 hy1 hy2 hy3 T4 TN C3 HT CU
    generalize w5.setCell ⟨be, k * 2 + 1, none⟩ (.int .u64 ((u ||| 2 ^ t : Nat) : Int)) = w6 at *
    have hz1 := T6.out.box
    have hz2 := T6.out.slots.states
    have hz3 : bs < w6.heap.size := lt_of_cell hz2
    go_upto_region 15 with fail
    have T7 : Hid (TakeOn w (w6.alloc (.cells #[.int .i64 k, .int .i64 c, .int .i64 t] 24)) bs be bm n pg (upd ex k (c + 1, u ||| 2 ^ t)) l c w.heap.size) := T6.out.calm ((Turned.refl [] w6).alloc _)
    have R7 : Hid (ResAt (w6.alloc (.cells #[.int .i64 k, .int .i64 c, .int .i64 t] 24)) w6.heap.size ⟨k, c, t⟩) := res_new w6 ⟨k, c, t⟩
    have N7 : Hid (w6.heap.size ≠ bs ∧ w6.heap.size ≠ be ∧ w6.heap.size ≠ bm ∧ w.heap.size + 1 < w6.heap.size) := by
      have h1 := T6.out.slots.rows.row.lt
      have h2 := T6.out.slots.map.lt
      have h3 := World.rowIs.lt T6.out.res
      exact ⟨by omega, by omega, by omega, h3⟩
    clear T6 hz1 hz2 hz3
    generalize w6.alloc (.cells #[.int .i64 k, .int .i64 c, .int .i64 t] 24) = w7 at *
    generalize w6.heap.size = b7 at *
    have hz2 := T7.out.slots.states
    have hr0 := R7.out.c0
    have hr1 := R7.out.c1
    have hr2 := R7.out.c2
    simp only at hr0 hr1 hr2
    have T8 := Lib.hid (T7.out.calm (Turned.refl [] w7).drew)
    have R8 := Lib.hid (R7.out.turned (Turned.refl [] w7).drew (by simp))
    obtain ⟨kk, hkk⟩ := key24 ⟨k, c, t⟩ ⟨by unfold I64; simp only; omega, by unfold I64; simp only; omega, by unfold I64; simp only; omega⟩
    have HKK := Lib.hid hkk
    clear hkk
    go_still_tail 6, (by kernel_rfl)
    change wpList _ _ _ _ _ w7.drew
    generalize w7.drew = w8 at *
    clear T7 R7 hz2 hr0 hr1 hr2
    have hen : Hid (∀ w9 : World, MapIs Tryd.prog 24 encS w9 bm (mput l ⟨k, c, t⟩ (encT false 0)) → Turned [bm] w8 w9 → SlotsAt w9 bs be bm n pg (upd ex k (c + 1, u ||| 2 ^ t)) (mput l ⟨k, c, t⟩ (encT false 0)) ∧ ResAt w9 b7 ⟨k, c, t⟩ ∧ ResAt w9 (w.heap.size + 1) zeroS ∧ Turned [be, bm] w w9) := by
      intro w9 hm ht
      have h := T8.out.slots
      have ho := T8.out.old
      refine ⟨⟨ht.cell h.page (by simpa using h.n2.symm), ht.cell h.exts (by simpa using h.n2.symm), ht.cell h.states (by simpa using h.n2.symm), h.rows.turned ht (by simpa using h.n3), hm, h.tab.turned ht (by simpa using h.z2), h.n1, h.n2, h.n3, h.z1, h.z2⟩,
        R8.out.turned ht (by simpa using N7.out.2.2.1), T8.out.res.turned ht (by simp; omega), T8.out.turned.trans (ht.mono fun i _ hi => by simp at hi; simp [hi])⟩
    go_wp2_with (first | (at_mapUpdate; refine wp_put _ rfl _ _ _ 64 rfl keyed24 encS_inj Tryd.underlying64 bm l rfl T8.out.slots.map ⟨k, c, t⟩ rfl _ rfl HKK.out ?_; intro w9 hm9 ht9; obtain ⟨hs9, hr9, hz9, hw9⟩ := hen.out w9 hm9 ht9; have HS9 := Lib.hid hs9; have HR9 := Lib.hid hr9; have HZ9 := Lib.hid hz9; have HW9 := Lib.hid hw9; clear hs9 hw9 hm9 ht9; have k0 := hr9.c0; have k1 := hr9.c1; have k2 := hr9.c2; have z0 := hz9.c0; have z1 := hz9.c1; have z2 := hz9.c2; have f0 := hz9.f 0; have f1 := hz9.f 1; have f2 := hz9.f 2; clear hr9 hz9; simp only [zeroS] at k0 k1 k2 z0 z1 z2))
    obtain ⟨hr, ht⟩ := HZ9.out.set ⟨k, c, t⟩
    have g0 := hr.c0
    have g1 := hr.c1
    have g2 := hr.c2
    have ho := T8.out.old
    have hfin := HS9.out.turned ht (by simp) (by simp; omega) (by simp; omega) (by simp; omega)
    have htf := turned_new HW9.out ht (by intro i hi; simp only [List.mem_singleton] at hi; omega)
    simp only at g0 g1 g2
    refine bodyPost_ret (v := .tuple #[encS ⟨k, c, t⟩, .int .i64 0]) (by simp [results, Tryd.results22, go_sem, g0, g1, g2, encS]) rfl ⟨rfl, hfin, htf⟩
end Go.Proofs.YtaikapgpkkpdjaaDoor.L
