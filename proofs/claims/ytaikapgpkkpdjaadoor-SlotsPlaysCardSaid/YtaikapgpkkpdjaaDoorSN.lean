/- Slots: those of which so much became: for each of the three closures (printed by wip/tools/those.py). -/
import Derived.Test.YtaikapgpkkpdjaaDoorSM
import Derived.Laws.AppendOwn
import Derived.Deep.LoopGhost
namespace Go.Proofs.YtaikapgpkkpdjaaDoor.L
open Go.ChangeShapes Go.WideShapes Go.ChangeAt Go.RowKit Go.Maps Go.Proofs.YtaikapgpkkpdjaaDoor.G Go.Sort Go.Shelf Go.Lib
set_option linter.unusedVariables false
set_option linter.unusedSimpArgs false

/-- every state is one -/
def Stated (l : States) : Prop := ∀ p ∈ l, (I64 p.1.e ∧ I64 p.1.c ∧ I64 p.1.i) ∧ ∃ b e, p.2 = encT b e
def boolAt (v : Value) : Bool := match v with | .agg (cs : Array Value) => (match (cs[0]? : Option Value) with | some (Value.bool b) => b | _ => false) | _ => false
def epochAt (v : Value) : Nat := match v with | .agg (cs : Array Value) => (match (cs[1]? : Option Value) with | some (Value.int _ n) => n.toNat | _ => 0) | _ => 0
theorem boolAt_enc (b : Bool) (e : Nat) : boolAt (encT b e) = b := rfl
theorem epochAt_enc (b : Bool) (e : Nat) : epochAt (encT b e) = e := rfl
def liveV (v : Value) : Bool := !boolAt v
def waitV (v : Value) : Bool := boolAt v
def dueV (ep : Nat) (v : Value) : Bool := boolAt v && decide (epochAt v ≤ ep)
def pick (so : Value → Bool) (d : States) : List Slot := (d.filter fun p => so p.2).map (·.1)
theorem pick_snoc (so : Value → Bool) (d : States) (p : Slot × Value) : pick so (d ++ [p]) = pick so d ++ if so p.2 then [p.1] else [] := by
  unfold pick
  rw [List.filter_append, List.map_append]
  by_cases h : so p.2 = true <;> simp [h]
theorem pick_perm (so : Value → Bool) {d l : States} (h : d.Perm l) : (pick so d).Perm (pick so l) := (h.filter _).map _
theorem flat_snoc (xs : List Slot) (x : Slot) : flat (xs ++ [x]) = flat xs ++ encL x := by unfold flat; simp
theorem pick_len (so : Value → Bool) (d : States) : (pick so d).length ≤ d.length := by unfold pick; rw [List.length_map]; exact List.length_filter_le _ _
theorem info24 : (Tryd.prog.info? 24).map (fun i => (i.zero, i.size, i.bytes)) = some (some (.agg #[.int .i64 0, .int .i64 0, .int .i64 0]), 3, 24) := by kernel_rfl

theorem own_above {w : World} {base : Nat} {e : TypeId} {size : Nat} {v : Value} {n : Nat} {xs : List Value} (h : w.ownsRow base e size v n xs) : ∀ k, v.ownBlock = some k → base ≤ k := by
  obtain ⟨_, h2⟩ := h
  rcases h2 with ⟨rfl, _⟩ | ⟨g, cap, cur, rfl, hg, _⟩
  · intro k hk; cases hk
  · intro k hk
    simp only [Value.ownBlock, Option.some.injEq] at hk
    omega
theorem owns_turned {w w' : World} {base : Nat} {e : TypeId} {size : Nat} {v : Value} {n : Nat} {xs : List Value} (h : w.ownsRow base e size v n xs) {S : List Nat} (t : Turned S w w') (hs : ∀ i ∈ S, i < base) : w'.ownsRow base e size v n xs := by
  obtain ⟨h1, h2⟩ := h
  refine ⟨h1, ?_⟩
  rcases h2 with c | ⟨g, cap, cur, e1, hg, hh, r⟩
  · exact .inl c
  · exact .inr ⟨g, cap, cur, e1, hg, t.at hh (fun hm => by have := hs g hm; omega), r⟩
theorem owns_mono {w : World} {base base' : Nat} {e : TypeId} {size : Nat} {v : Value} {n : Nat} {xs : List Value} (h : w.ownsRow base e size v n xs) (hb : base' ≤ base) : w.ownsRow base' e size v n xs := by
  obtain ⟨h1, h2⟩ := h
  refine ⟨h1, ?_⟩
  rcases h2 with c | ⟨g, cap, cur, e1, hg, r⟩
  · exact .inl c
  · exact .inr ⟨g, cap, cur, e1, Nat.le_trans hb hg, r⟩
theorem info_parts3 {P : Program} {t : TypeId} {z : Value} {s b : Nat} (h : (P.info? t).map (fun i => (i.zero, i.size, i.bytes)) = some (some z, s, b)) : ∃ i, P.info? t = some i ∧ i.zero = some z ∧ i.size = s ∧ i.bytes = b := by
  obtain ⟨i, hi, hzz⟩ := Option.map_eq_some_iff.1 h
  simp only [Prod.mk.injEq] at hzz
  exact ⟨i, hi, hzz⟩
theorem below_cell {w w' : World} (h : Below w.heap.size w w') {a : Addr} {v : Value} (ha : w.cell? a = some v) : w'.cell? a = some v := (Turned.of_below h).cell ha (by simp)

/-- what 'those' answers: the slots that are so, in the order of extents and indices, in a row of their own -/
def thosePost (so : Value → Bool) (l : States) (w : World) (e : Ending) (w' : World) : Prop :=
  ∃ v ys, e = .returned v ∧ ys.Perm (pick so l) ∧ ys.Pairwise leS ∧ w'.ownsRow w.heap.size 24 3 v ys.length (flat ys) ∧ Below w.heap.size w w'

set_option maxRecDepth 100000 in
set_option maxHeartbeats 4000000 in
theorem those36 (bs be bm n : Nat) (pg : Int) (ex : Exts) (l : States) (w : World) (h : SlotsAt w bs be bm n pg ex l) (hst : Stated l) (hl : l.length ≤ 1048576) :
    Calls Tryd.prog 35 #[.pointer (some ⟨bs, 0, none⟩), .func (.func 36) #[] #[]] w (thosePost liveV l w) := by
  have hcm := h.states
  have hbs : bs < w.heap.size := lt_of_cell h.states
  have HM := Lib.hid h.map
  have HSt := Lib.hid hst
  have HCl : Hid (∀ wr, Below w.heap.size w wr → ∀ B, w.heap.size = B → ∀ w2, Turned [B] wr w2 → ∀ (b : Bool) (e : Nat) (w3 : World), Turned [] w2 w3 → Calls Tryd.prog 36 #[.agg #[.bool b, .int .u64 e]] w3 fun e' w' => e' = .returned (.bool (liveV (encT b e))) ∧ Below w3.heap.size w3 w') := by
    intro wr hb B hB w2 ht2 b e w3 ht3
    exact closure36 b e w3
  clear h hst
  unfold thosePost
  go_enter Tryd.func35, Tryd.ntmps35
  go_wp2_with (first | (at_range; refine wp_range _ rfl _ _ rfl Tryd.underlying64 bm l rfl HM.out ?_; intro w1 hit ht1; have HIt := Lib.hid hit; have HT1 := Lib.hid ht1; clear hit ht1))
  go_frame
  obtain ⟨B, hB⟩ : ∃ B, w.heap.size = B := ⟨_, rfl⟩
  have hlt1 : B < w1.heap.size := hB ▸ HIt.out.lt.1
  rw [hB] at HIt hbs
  rw [hB]
  have HB := Lib.hid hB
  clear hB
  have HW1 : Hid (Below w.heap.size w w1) := HT1.out.below
  go_loopg [4] l.length (fun g v wr => ∃ done : States, g = l.length - done.length ∧ IterIs Tryd.prog 24 encS wr B bm l done ∧ wr.ownsRow (B + 1) 24 3 v (pick liveV done).length (flat (pick liveV done)) ∧ Hid (Below w.heap.size w wr))
  case atStart => exact ⟨[], by simp, HIt.out, ⟨by simp [pick, flat], .inl ⟨rfl, rfl⟩⟩, HW1.out⟩
  case round =>
    obtain ⟨done, rfl, hi, ho, ht⟩ := hrel
    have HI := Lib.hid hi
    have HO := Lib.hid ho
    have HT := Lib.hid ht
    clear hi ho ht HIt
    go_wp2_with (first | (at_next; refine wp_next _ rfl _ rfl B bm l done rfl HI.out ?_ ?_))
    · intro hp
      have HP := Lib.hid hp
      have hlen := HI.out.len_le
      have CS := Lib.hid (sort_owns HO.out (by have := pick_len liveV done; omega))
      clear hp hlen HCl
      go_wp2_with (first | (go_at_call 48; ((with_reducible refine CS.out.mono ?_); rintro e' w5 ⟨rfl, hrest⟩; have HR := Lib.hid hrest; clear hrest)))
      refine bodyPost_ret (v := u4) (by simp [results, Tryd.results35, go_sem]) rfl ?_
      obtain ⟨ys, y1, y2, y3, y4, y5⟩ := HR.out
      have hlen : ys.length = (pick liveV done).length := y1.length_eq
      refine ⟨_, ys, rfl, y1.trans (pick_perm _ HP.out), y2, owns_mono (by rw [hlen]; exact y3) (by have := HB.out; omega), Turned.below_of HT.out y4 (fun i hi => by have := y5 i hi; have := HB.out; omega)⟩
    · rintro ⟨ke, kc, ki⟩ v' w2 hmem hi2 ht2 hsz hen
      obtain ⟨_, b, e, hv⟩ := HSt.out _ hmem
      simp only at hv
      subst hv
      simp only [encS, encT] at hen
      have hlen : done.length + 1 ≤ l.length := by have := hi2.len_le; simpa using this
      have HI2 := Lib.hid hi2
      have HT2 := Lib.hid ht2
      have hC := HCl.out wr HT.out B HB.out w2 HT2.out b e
      clear hi2 ht2 hmem HI
      have HRes : Hid (∀ w3, Below ((w2.alloc (.cells #[.int .i64 ke, .int .i64 kc, .int .i64 ki] 24)).alloc (.cells #[.bool b, .int .u64 e] 80)).heap.size ((w2.alloc (.cells #[.int .i64 ke, .int .i64 kc, .int .i64 ki] 24)).alloc (.cells #[.bool b, .int .u64 e] 80)) w3 → ResAt w3 wr.heap.size ⟨ke, kc, ki⟩ ∧ Turned [] w2 w3) := by
        intro w3 hb
        have t := ((Turned.refl [] (w2.alloc (.cells #[.int .i64 ke, .int .i64 kc, .int .i64 ki] 24))).alloc (.cells #[.bool b, .int .u64 e] 80)).trans (Turned.of_below hb)
        refine ⟨?_, ((Turned.refl [] w2).alloc _).trans t⟩
        rw [← hsz]
        exact (res_new w2 ⟨ke, kc, ki⟩).turned t (by simp)
      obtain ⟨i0, hi24, hz0, hz1, hz2⟩ := info_parts3 info24
      obtain ⟨A, hA⟩ : ∃ A, liveV (encT b e) = A := ⟨_, rfl⟩
      rw [hA] at hC
      have HC := Lib.hid hC
      have HA := Lib.hid hA
      have HTw : Hid (Turned [] w2 ((w2.alloc (.cells #[.int .i64 ke, .int .i64 kc, .int .i64 ki] 24)).alloc (.cells #[.bool b, .int .u64 e] 80))) := ((Turned.refl [] w2).alloc _).alloc _
      clear hC hA HCl
      cases A with
      | true =>
        have HOw : Hid (∀ w3 : World, Turned [] w2 w3 → (w3.alloc (.cells #[.int .i64 ke, .int .i64 kc, .int .i64 ki] 24)).ownsRow (B + 1) 24 3 u4 (pick liveV done).length (flat (pick liveV done))) :=
          fun w3 t3 => owns_turned (owns_turned HO.out HT2.out (by intro i hi; simp only [List.mem_singleton] at hi; omega)) (t3.trans ((Turned.refl [] w3).alloc _)) (by simp)
        have hpl : (pick liveV done).length ≤ 1048576 := Nat.le_trans (pick_len _ _) (by omega)
        have HPL := Lib.hid hpl
        have HSZ : Hid (B + 1 ≤ w2.heap.size) := by have := HI2.out.lt.1; exact this
        clear hpl
        go_wp2_with (first | (go_at_call 36; ((with_reducible refine (HC.out _ HTw.out).mono ?_); rintro e' w3 ⟨rfl, hb⟩; obtain ⟨hr, ht⟩ := HRes.out _ hb; have HR3 := Lib.hid hr; have HT3 := Lib.hid ht; have r0 := hr.c0; have r1 := hr.c1; have r2 := hr.c2; simp only at r0 r1 r2; clear hb hr ht)) | (at_builtin; refine wpList_append_own _ rfl _ _ 47 rfl (B + 1) 24 i0 (.agg #[.int .i64 0, .int .i64 0, .int .i64 0]) 3 24 Tryd.underlying47 hi24 hz0 hz1 hz2 rfl (by decide) _ _ _ rfl (HOw.out _ HT3.out) ⟨w3.heap.size, 0, none⟩ 1 1 (encL ⟨ke, kc, ki⟩) rfl rfl ?c1 ?c2 ?c3 ?c4 ?c5 ?_))
        case c1 => exact fun j u hu => cells_new w3 _ 24 j u hu
        case c2 => intro u hu; simp [encL] at hu; rcases hu with rfl | rfl | rfl <;> rfl
        case c3 => have := HPL.out; unfold maxLen; omega
        case c4 => have := HPL.out; omega
        case c5 => have h1 := HSZ.out; have h2 := HT3.out.size; simp; omega
        intro v' w4 hown' hgrow hnil
        have HO' := Lib.hid hown'
        have HG := Lib.hid hgrow
        clear hown' hgrow hnil
        go_wp2
        go_roundg (l.length - (done.length + 1))
        case measure => omega
        case rel =>
          have hps : pick liveV (done ++ [(⟨ke, kc, ki⟩, encT b e)]) = pick liveV done ++ [⟨ke, kc, ki⟩] := by
            rw [pick_snoc]; simp only; rw [HA.out]; simp
          have hbB : w.heap.size = B := HB.out
          have hk : ∀ k, u4.ownBlock = some k → B + 1 ≤ k := own_above HO.out
          have hb3 : Below w.heap.size w (w3.alloc (.cells #[.int .i64 ke, .int .i64 kc, .int .i64 ki] 24)) :=
            Turned.below_of HT.out.out (HT2.out.trans (HT3.out.trans ((Turned.refl [] w3).alloc _)).nil_mono) (by intro i hi; simp only [List.mem_singleton] at hi; omega)
          have hgt : Below w.heap.size w w4 := hb3.grown HG.out hb3.size (fun k hk' => by have := hk k hk'; omega)
          refine ⟨done ++ [(⟨ke, kc, ki⟩, encT b e)], by simp, ?_, ?_, hgt⟩
          · have tg : Turned u4.ownBlock.toList w2 w4 := ((HT3.out.trans ((Turned.refl [] w3).alloc _)).nil_mono).grown HG.out (fun k hk' => .inl (by rw [hk']; simp))
            have hbm := HM.out.lt
            have hn : ∀ i, i ≤ B → i ∉ u4.ownBlock.toList := fun i hi hm => by
              cases e' : u4.ownBlock with
              | none => rw [e'] at hm; simp at hm
              | some k' => rw [e'] at hm; simp at hm; have := hk k' e'; omega
            exact HI2.out.turned tg (hn B (Nat.le_refl _)) (hn bm (by omega))
          · rw [hps, flat_snoc, List.length_append]
            exact HO'.out
      | false =>
        go_wp2_with (first | (go_at_call 36; ((with_reducible refine (HC.out _ HTw.out).mono ?_); rintro e' w3 ⟨rfl, hb⟩; obtain ⟨hr, ht⟩ := HRes.out _ hb; have HR3 := Lib.hid hr; have HT3 := Lib.hid ht; clear hb hr ht)))
        go_roundg (l.length - (done.length + 1))
        case measure => omega
        case rel =>
          have hps : pick liveV (done ++ [(⟨ke, kc, ki⟩, encT b e)]) = pick liveV done := by
            rw [pick_snoc]; simp only; rw [HA.out]; simp
          refine ⟨done ++ [(⟨ke, kc, ki⟩, encT b e)], by simp, HI2.out.turned HT3.out (by simp) (by simp), ?_, Turned.below_of HT.out.out (HT2.out.trans HT3.out.nil_mono) (by intro i hi; simp only [List.mem_singleton] at hi; have := HB.out; omega)⟩
          rw [hps]
          exact owns_turned (owns_turned HO.out HT2.out (by intro i hi; simp only [List.mem_singleton] at hi; omega)) HT3.out (by simp)

set_option maxRecDepth 100000 in
set_option maxHeartbeats 4000000 in
theorem those37 (bs be bm n : Nat) (pg : Int) (ex : Exts) (l : States) (w : World) (h : SlotsAt w bs be bm n pg ex l) (hst : Stated l) (hl : l.length ≤ 1048576) :
    Calls Tryd.prog 35 #[.pointer (some ⟨bs, 0, none⟩), .func (.func 37) #[] #[]] w (thosePost waitV l w) := by
  have hcm := h.states
  have hbs : bs < w.heap.size := lt_of_cell h.states
  have HM := Lib.hid h.map
  have HSt := Lib.hid hst
  have HCl : Hid (∀ wr, Below w.heap.size w wr → ∀ B, w.heap.size = B → ∀ w2, Turned [B] wr w2 → ∀ (b : Bool) (e : Nat) (w3 : World), Turned [] w2 w3 → Calls Tryd.prog 37 #[.agg #[.bool b, .int .u64 e]] w3 fun e' w' => e' = .returned (.bool (waitV (encT b e))) ∧ Below w3.heap.size w3 w') := by
    intro wr hb B hB w2 ht2 b e w3 ht3
    exact closure37 b e w3
  clear h hst
  unfold thosePost
  go_enter Tryd.func35, Tryd.ntmps35
  go_wp2_with (first | (at_range; refine wp_range _ rfl _ _ rfl Tryd.underlying64 bm l rfl HM.out ?_; intro w1 hit ht1; have HIt := Lib.hid hit; have HT1 := Lib.hid ht1; clear hit ht1))
  go_frame
  obtain ⟨B, hB⟩ : ∃ B, w.heap.size = B := ⟨_, rfl⟩
  have hlt1 : B < w1.heap.size := hB ▸ HIt.out.lt.1
  rw [hB] at HIt hbs
  rw [hB]
  have HB := Lib.hid hB
  clear hB
  have HW1 : Hid (Below w.heap.size w w1) := HT1.out.below
  go_loopg [4] l.length (fun g v wr => ∃ done : States, g = l.length - done.length ∧ IterIs Tryd.prog 24 encS wr B bm l done ∧ wr.ownsRow (B + 1) 24 3 v (pick waitV done).length (flat (pick waitV done)) ∧ Hid (Below w.heap.size w wr))
  case atStart => exact ⟨[], by simp, HIt.out, ⟨by simp [pick, flat], .inl ⟨rfl, rfl⟩⟩, HW1.out⟩
  case round =>
    obtain ⟨done, rfl, hi, ho, ht⟩ := hrel
    have HI := Lib.hid hi
    have HO := Lib.hid ho
    have HT := Lib.hid ht
    clear hi ho ht HIt
    go_wp2_with (first | (at_next; refine wp_next _ rfl _ rfl B bm l done rfl HI.out ?_ ?_))
    · intro hp
      have HP := Lib.hid hp
      have hlen := HI.out.len_le
      have CS := Lib.hid (sort_owns HO.out (by have := pick_len waitV done; omega))
      clear hp hlen HCl
      go_wp2_with (first | (go_at_call 48; ((with_reducible refine CS.out.mono ?_); rintro e' w5 ⟨rfl, hrest⟩; have HR := Lib.hid hrest; clear hrest)))
      refine bodyPost_ret (v := u4) (by simp [results, Tryd.results35, go_sem]) rfl ?_
      obtain ⟨ys, y1, y2, y3, y4, y5⟩ := HR.out
      have hlen : ys.length = (pick waitV done).length := y1.length_eq
      refine ⟨_, ys, rfl, y1.trans (pick_perm _ HP.out), y2, owns_mono (by rw [hlen]; exact y3) (by have := HB.out; omega), Turned.below_of HT.out y4 (fun i hi => by have := y5 i hi; have := HB.out; omega)⟩
    · rintro ⟨ke, kc, ki⟩ v' w2 hmem hi2 ht2 hsz hen
      obtain ⟨_, b, e, hv⟩ := HSt.out _ hmem
      simp only at hv
      subst hv
      simp only [encS, encT] at hen
      have hlen : done.length + 1 ≤ l.length := by have := hi2.len_le; simpa using this
      have HI2 := Lib.hid hi2
      have HT2 := Lib.hid ht2
      have hC := HCl.out wr HT.out B HB.out w2 HT2.out b e
      clear hi2 ht2 hmem HI
      have HRes : Hid (∀ w3, Below ((w2.alloc (.cells #[.int .i64 ke, .int .i64 kc, .int .i64 ki] 24)).alloc (.cells #[.bool b, .int .u64 e] 80)).heap.size ((w2.alloc (.cells #[.int .i64 ke, .int .i64 kc, .int .i64 ki] 24)).alloc (.cells #[.bool b, .int .u64 e] 80)) w3 → ResAt w3 wr.heap.size ⟨ke, kc, ki⟩ ∧ Turned [] w2 w3) := by
        intro w3 hb
        have t := ((Turned.refl [] (w2.alloc (.cells #[.int .i64 ke, .int .i64 kc, .int .i64 ki] 24))).alloc (.cells #[.bool b, .int .u64 e] 80)).trans (Turned.of_below hb)
        refine ⟨?_, ((Turned.refl [] w2).alloc _).trans t⟩
        rw [← hsz]
        exact (res_new w2 ⟨ke, kc, ki⟩).turned t (by simp)
      obtain ⟨i0, hi24, hz0, hz1, hz2⟩ := info_parts3 info24
      obtain ⟨A, hA⟩ : ∃ A, waitV (encT b e) = A := ⟨_, rfl⟩
      rw [hA] at hC
      have HC := Lib.hid hC
      have HA := Lib.hid hA
      have HTw : Hid (Turned [] w2 ((w2.alloc (.cells #[.int .i64 ke, .int .i64 kc, .int .i64 ki] 24)).alloc (.cells #[.bool b, .int .u64 e] 80))) := ((Turned.refl [] w2).alloc _).alloc _
      clear hC hA HCl
      cases A with
      | true =>
        have HOw : Hid (∀ w3 : World, Turned [] w2 w3 → (w3.alloc (.cells #[.int .i64 ke, .int .i64 kc, .int .i64 ki] 24)).ownsRow (B + 1) 24 3 u4 (pick waitV done).length (flat (pick waitV done))) :=
          fun w3 t3 => owns_turned (owns_turned HO.out HT2.out (by intro i hi; simp only [List.mem_singleton] at hi; omega)) (t3.trans ((Turned.refl [] w3).alloc _)) (by simp)
        have hpl : (pick waitV done).length ≤ 1048576 := Nat.le_trans (pick_len _ _) (by omega)
        have HPL := Lib.hid hpl
        have HSZ : Hid (B + 1 ≤ w2.heap.size) := by have := HI2.out.lt.1; exact this
        clear hpl
        go_wp2_with (first | (go_at_call 37; ((with_reducible refine (HC.out _ HTw.out).mono ?_); rintro e' w3 ⟨rfl, hb⟩; obtain ⟨hr, ht⟩ := HRes.out _ hb; have HR3 := Lib.hid hr; have HT3 := Lib.hid ht; have r0 := hr.c0; have r1 := hr.c1; have r2 := hr.c2; simp only at r0 r1 r2; clear hb hr ht)) | (at_builtin; refine wpList_append_own _ rfl _ _ 47 rfl (B + 1) 24 i0 (.agg #[.int .i64 0, .int .i64 0, .int .i64 0]) 3 24 Tryd.underlying47 hi24 hz0 hz1 hz2 rfl (by decide) _ _ _ rfl (HOw.out _ HT3.out) ⟨w3.heap.size, 0, none⟩ 1 1 (encL ⟨ke, kc, ki⟩) rfl rfl ?c1 ?c2 ?c3 ?c4 ?c5 ?_))
        case c1 => exact fun j u hu => cells_new w3 _ 24 j u hu
        case c2 => intro u hu; simp [encL] at hu; rcases hu with rfl | rfl | rfl <;> rfl
        case c3 => have := HPL.out; unfold maxLen; omega
        case c4 => have := HPL.out; omega
        case c5 => have h1 := HSZ.out; have h2 := HT3.out.size; simp; omega
        intro v' w4 hown' hgrow hnil
        have HO' := Lib.hid hown'
        have HG := Lib.hid hgrow
        clear hown' hgrow hnil
        go_wp2
        go_roundg (l.length - (done.length + 1))
        case measure => omega
        case rel =>
          have hps : pick waitV (done ++ [(⟨ke, kc, ki⟩, encT b e)]) = pick waitV done ++ [⟨ke, kc, ki⟩] := by
            rw [pick_snoc]; simp only; rw [HA.out]; simp
          have hbB : w.heap.size = B := HB.out
          have hk : ∀ k, u4.ownBlock = some k → B + 1 ≤ k := own_above HO.out
          have hb3 : Below w.heap.size w (w3.alloc (.cells #[.int .i64 ke, .int .i64 kc, .int .i64 ki] 24)) :=
            Turned.below_of HT.out.out (HT2.out.trans (HT3.out.trans ((Turned.refl [] w3).alloc _)).nil_mono) (by intro i hi; simp only [List.mem_singleton] at hi; omega)
          have hgt : Below w.heap.size w w4 := hb3.grown HG.out hb3.size (fun k hk' => by have := hk k hk'; omega)
          refine ⟨done ++ [(⟨ke, kc, ki⟩, encT b e)], by simp, ?_, ?_, hgt⟩
          · have tg : Turned u4.ownBlock.toList w2 w4 := ((HT3.out.trans ((Turned.refl [] w3).alloc _)).nil_mono).grown HG.out (fun k hk' => .inl (by rw [hk']; simp))
            have hbm := HM.out.lt
            have hn : ∀ i, i ≤ B → i ∉ u4.ownBlock.toList := fun i hi hm => by
              cases e' : u4.ownBlock with
              | none => rw [e'] at hm; simp at hm
              | some k' => rw [e'] at hm; simp at hm; have := hk k' e'; omega
            exact HI2.out.turned tg (hn B (Nat.le_refl _)) (hn bm (by omega))
          · rw [hps, flat_snoc, List.length_append]
            exact HO'.out
      | false =>
        go_wp2_with (first | (go_at_call 37; ((with_reducible refine (HC.out _ HTw.out).mono ?_); rintro e' w3 ⟨rfl, hb⟩; obtain ⟨hr, ht⟩ := HRes.out _ hb; have HR3 := Lib.hid hr; have HT3 := Lib.hid ht; clear hb hr ht)))
        go_roundg (l.length - (done.length + 1))
        case measure => omega
        case rel =>
          have hps : pick waitV (done ++ [(⟨ke, kc, ki⟩, encT b e)]) = pick waitV done := by
            rw [pick_snoc]; simp only; rw [HA.out]; simp
          refine ⟨done ++ [(⟨ke, kc, ki⟩, encT b e)], by simp, HI2.out.turned HT3.out (by simp) (by simp), ?_, Turned.below_of HT.out.out (HT2.out.trans HT3.out.nil_mono) (by intro i hi; simp only [List.mem_singleton] at hi; have := HB.out; omega)⟩
          rw [hps]
          exact owns_turned (owns_turned HO.out HT2.out (by intro i hi; simp only [List.mem_singleton] at hi; omega)) HT3.out (by simp)

set_option maxRecDepth 100000 in
set_option maxHeartbeats 4000000 in
theorem those43 (bs be bm n : Nat) (pg : Int) (ex : Exts) (l : States) (w : World) (ep : Nat) (a : Addr) (ha : w.cell? a = some (.int .u64 ep)) (h : SlotsAt w bs be bm n pg ex l) (hst : Stated l) (hl : l.length ≤ 1048576) :
    Calls Tryd.prog 35 #[.pointer (some ⟨bs, 0, none⟩), .func (.func 43) #[] #[.pointer (some a)]] w (thosePost (dueV ep) l w) := by
  have hcm := h.states
  have hbs : bs < w.heap.size := lt_of_cell h.states
  have HM := Lib.hid h.map
  have HSt := Lib.hid hst
  have HCl : Hid (∀ wr, Below w.heap.size w wr → ∀ B, w.heap.size = B → ∀ w2, Turned [B] wr w2 → ∀ (b : Bool) (e : Nat) (w3 : World), Turned [] w2 w3 → Calls Tryd.prog 43 #[.agg #[.bool b, .int .u64 e], .pointer (some a)] w3 fun e' w' => e' = .returned (.bool ((dueV ep) (encT b e))) ∧ Below w3.heap.size w3 w') := by
    intro wr hb B hB w2 ht2 b e w3 ht3
    exact closure43 b e ep a w3 (ht3.cell (ht2.cell (below_cell hb ha) (by have := lt_of_cell ha; simp; omega)) (by simp))
  clear ha
  clear h hst
  unfold thosePost
  go_enter Tryd.func35, Tryd.ntmps35
  go_wp2_with (first | (at_range; refine wp_range _ rfl _ _ rfl Tryd.underlying64 bm l rfl HM.out ?_; intro w1 hit ht1; have HIt := Lib.hid hit; have HT1 := Lib.hid ht1; clear hit ht1))
  go_frame
  obtain ⟨B, hB⟩ : ∃ B, w.heap.size = B := ⟨_, rfl⟩
  have hlt1 : B < w1.heap.size := hB ▸ HIt.out.lt.1
  rw [hB] at HIt hbs
  rw [hB]
  have HB := Lib.hid hB
  clear hB
  have HW1 : Hid (Below w.heap.size w w1) := HT1.out.below
  go_loopg [4] l.length (fun g v wr => ∃ done : States, g = l.length - done.length ∧ IterIs Tryd.prog 24 encS wr B bm l done ∧ wr.ownsRow (B + 1) 24 3 v (pick (dueV ep) done).length (flat (pick (dueV ep) done)) ∧ Hid (Below w.heap.size w wr))
  case atStart => exact ⟨[], by simp, HIt.out, ⟨by simp [pick, flat], .inl ⟨rfl, rfl⟩⟩, HW1.out⟩
  case round =>
    obtain ⟨done, rfl, hi, ho, ht⟩ := hrel
    have HI := Lib.hid hi
    have HO := Lib.hid ho
    have HT := Lib.hid ht
    clear hi ho ht HIt
    go_wp2_with (first | (at_next; refine wp_next _ rfl _ rfl B bm l done rfl HI.out ?_ ?_))
    · intro hp
      have HP := Lib.hid hp
      have hlen := HI.out.len_le
      have CS := Lib.hid (sort_owns HO.out (by have := pick_len (dueV ep) done; omega))
      clear hp hlen HCl
      go_wp2_with (first | (go_at_call 48; ((with_reducible refine CS.out.mono ?_); rintro e' w5 ⟨rfl, hrest⟩; have HR := Lib.hid hrest; clear hrest)))
      refine bodyPost_ret (v := u4) (by simp [results, Tryd.results35, go_sem]) rfl ?_
      obtain ⟨ys, y1, y2, y3, y4, y5⟩ := HR.out
      have hlen : ys.length = (pick (dueV ep) done).length := y1.length_eq
      refine ⟨_, ys, rfl, y1.trans (pick_perm _ HP.out), y2, owns_mono (by rw [hlen]; exact y3) (by have := HB.out; omega), Turned.below_of HT.out y4 (fun i hi => by have := y5 i hi; have := HB.out; omega)⟩
    · rintro ⟨ke, kc, ki⟩ v' w2 hmem hi2 ht2 hsz hen
      obtain ⟨_, b, e, hv⟩ := HSt.out _ hmem
      simp only at hv
      subst hv
      simp only [encS, encT] at hen
      have hlen : done.length + 1 ≤ l.length := by have := hi2.len_le; simpa using this
      have HI2 := Lib.hid hi2
      have HT2 := Lib.hid ht2
      have hC := HCl.out wr HT.out B HB.out w2 HT2.out b e
      clear hi2 ht2 hmem HI
      have HRes : Hid (∀ w3, Below ((w2.alloc (.cells #[.int .i64 ke, .int .i64 kc, .int .i64 ki] 24)).alloc (.cells #[.bool b, .int .u64 e] 80)).heap.size ((w2.alloc (.cells #[.int .i64 ke, .int .i64 kc, .int .i64 ki] 24)).alloc (.cells #[.bool b, .int .u64 e] 80)) w3 → ResAt w3 wr.heap.size ⟨ke, kc, ki⟩ ∧ Turned [] w2 w3) := by
        intro w3 hb
        have t := ((Turned.refl [] (w2.alloc (.cells #[.int .i64 ke, .int .i64 kc, .int .i64 ki] 24))).alloc (.cells #[.bool b, .int .u64 e] 80)).trans (Turned.of_below hb)
        refine ⟨?_, ((Turned.refl [] w2).alloc _).trans t⟩
        rw [← hsz]
        exact (res_new w2 ⟨ke, kc, ki⟩).turned t (by simp)
      obtain ⟨i0, hi24, hz0, hz1, hz2⟩ := info_parts3 info24
      obtain ⟨A, hA⟩ : ∃ A, (dueV ep) (encT b e) = A := ⟨_, rfl⟩
      rw [hA] at hC
      have HC := Lib.hid hC
      have HA := Lib.hid hA
      have HTw : Hid (Turned [] w2 ((w2.alloc (.cells #[.int .i64 ke, .int .i64 kc, .int .i64 ki] 24)).alloc (.cells #[.bool b, .int .u64 e] 80))) := ((Turned.refl [] w2).alloc _).alloc _
      clear hC hA HCl
      cases A with
      | true =>
        have HOw : Hid (∀ w3 : World, Turned [] w2 w3 → (w3.alloc (.cells #[.int .i64 ke, .int .i64 kc, .int .i64 ki] 24)).ownsRow (B + 1) 24 3 u4 (pick (dueV ep) done).length (flat (pick (dueV ep) done))) :=
          fun w3 t3 => owns_turned (owns_turned HO.out HT2.out (by intro i hi; simp only [List.mem_singleton] at hi; omega)) (t3.trans ((Turned.refl [] w3).alloc _)) (by simp)
        have hpl : (pick (dueV ep) done).length ≤ 1048576 := Nat.le_trans (pick_len _ _) (by omega)
        have HPL := Lib.hid hpl
        have HSZ : Hid (B + 1 ≤ w2.heap.size) := by have := HI2.out.lt.1; exact this
        clear hpl
        go_wp2_with (first | (go_at_call 43; ((with_reducible refine (HC.out _ HTw.out).mono ?_); rintro e' w3 ⟨rfl, hb⟩; obtain ⟨hr, ht⟩ := HRes.out _ hb; have HR3 := Lib.hid hr; have HT3 := Lib.hid ht; have r0 := hr.c0; have r1 := hr.c1; have r2 := hr.c2; simp only at r0 r1 r2; clear hb hr ht)) | (at_builtin; refine wpList_append_own _ rfl _ _ 47 rfl (B + 1) 24 i0 (.agg #[.int .i64 0, .int .i64 0, .int .i64 0]) 3 24 Tryd.underlying47 hi24 hz0 hz1 hz2 rfl (by decide) _ _ _ rfl (HOw.out _ HT3.out) ⟨w3.heap.size, 0, none⟩ 1 1 (encL ⟨ke, kc, ki⟩) rfl rfl ?c1 ?c2 ?c3 ?c4 ?c5 ?_))
        case c1 => exact fun j u hu => cells_new w3 _ 24 j u hu
        case c2 => intro u hu; simp [encL] at hu; rcases hu with rfl | rfl | rfl <;> rfl
        case c3 => have := HPL.out; unfold maxLen; omega
        case c4 => have := HPL.out; omega
        case c5 => have h1 := HSZ.out; have h2 := HT3.out.size; simp; omega
        intro v' w4 hown' hgrow hnil
        have HO' := Lib.hid hown'
        have HG := Lib.hid hgrow
        clear hown' hgrow hnil
        go_wp2
        go_roundg (l.length - (done.length + 1))
        case measure => omega
        case rel =>
          have hps : pick (dueV ep) (done ++ [(⟨ke, kc, ki⟩, encT b e)]) = pick (dueV ep) done ++ [⟨ke, kc, ki⟩] := by
            rw [pick_snoc]; simp only; rw [HA.out]; simp
          have hbB : w.heap.size = B := HB.out
          have hk : ∀ k, u4.ownBlock = some k → B + 1 ≤ k := own_above HO.out
          have hb3 : Below w.heap.size w (w3.alloc (.cells #[.int .i64 ke, .int .i64 kc, .int .i64 ki] 24)) :=
            Turned.below_of HT.out.out (HT2.out.trans (HT3.out.trans ((Turned.refl [] w3).alloc _)).nil_mono) (by intro i hi; simp only [List.mem_singleton] at hi; omega)
          have hgt : Below w.heap.size w w4 := hb3.grown HG.out hb3.size (fun k hk' => by have := hk k hk'; omega)
          refine ⟨done ++ [(⟨ke, kc, ki⟩, encT b e)], by simp, ?_, ?_, hgt⟩
          · have tg : Turned u4.ownBlock.toList w2 w4 := ((HT3.out.trans ((Turned.refl [] w3).alloc _)).nil_mono).grown HG.out (fun k hk' => .inl (by rw [hk']; simp))
            have hbm := HM.out.lt
            have hn : ∀ i, i ≤ B → i ∉ u4.ownBlock.toList := fun i hi hm => by
              cases e' : u4.ownBlock with
              | none => rw [e'] at hm; simp at hm
              | some k' => rw [e'] at hm; simp at hm; have := hk k' e'; omega
            exact HI2.out.turned tg (hn B (Nat.le_refl _)) (hn bm (by omega))
          · rw [hps, flat_snoc, List.length_append]
            exact HO'.out
      | false =>
        go_wp2_with (first | (go_at_call 43; ((with_reducible refine (HC.out _ HTw.out).mono ?_); rintro e' w3 ⟨rfl, hb⟩; obtain ⟨hr, ht⟩ := HRes.out _ hb; have HR3 := Lib.hid hr; have HT3 := Lib.hid ht; clear hb hr ht)))
        go_roundg (l.length - (done.length + 1))
        case measure => omega
        case rel =>
          have hps : pick (dueV ep) (done ++ [(⟨ke, kc, ki⟩, encT b e)]) = pick (dueV ep) done := by
            rw [pick_snoc]; simp only; rw [HA.out]; simp
          refine ⟨done ++ [(⟨ke, kc, ki⟩, encT b e)], by simp, HI2.out.turned HT3.out (by simp) (by simp), ?_, Turned.below_of HT.out.out (HT2.out.trans HT3.out.nil_mono) (by intro i hi; simp only [List.mem_singleton] at hi; have := HB.out; omega)⟩
          rw [hps]
          exact owns_turned (owns_turned HO.out HT2.out (by intro i hi; simp only [List.mem_singleton] at hi; omega)) HT3.out (by simp)

end Go.Proofs.YtaikapgpkkpdjaaDoor.L
