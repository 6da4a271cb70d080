/- Maps of pages, and versions of them: lemmas, part 16 of 23. -/
import Derived.Test.YtmpbhoijkcanmaaGreatQ15

/- Versions as lists, the document's answer: the slots that are there. -/
namespace Go.Proofs.YtmpbhoijkcanmaaGreat.R
open Go.ChangeShapes Go.WideShapes Go.ChangeAt Go.RowKit Go.Maps Go.Proofs.YtmpbhoijkcanmaaGreat.G
set_option linter.unusedVariables false
set_option linter.unusedSimpArgs false
set_option linter.unnecessarySimpa false

variable {w ww w' wr : World} {xb mx last B n k : Nat} {E : List XE} {e : XE} {M : List (Slot × Value)} {C : Slot → Prop} {done : List (Nat × Value)}
/-- as the set is filled: the range stands at block r, the set at block s -/
structure XsI (ww wr : World) (s r mx : Nat) (E : List XE) (done : List (Nat × Value)) (C : Slot → Prop) (m : Nat) (M : List (Slot × Value)) : Prop where
  it : IterIs Tryz.prog 23 encU wr r mx (eM E) done
  map : MapIs Tryz.prog 45 encS wr s M
  iff : ∀ x, (mget M x).isSome = true ↔ C x
  len : M.length ≤ m
  bel : Below ww.heap.size ww wr
theorem XsI.put {s r m : Nat} {x : Slot} (h : XsI ww wr s r mx E done C m M) (hs : ww.heap.size ≤ s) (hsr : r ≠ s) (hmx : mx < ww.heap.size) (hm : MapIs Tryz.prog 45 encS w' s (mput M x (.bool true))) (t : Turned [s] wr w') : XsI ww w' s r mx E done (fun y => C y ∨ y = x) (m + 1) (mput M x (.bool true)) := by
  refine ⟨h.it.turned t (by simpa using hsr) (by simp; omega), hm, fun y => ?_, ?_, Turned.below_of h.bel t (by simpa using hs)⟩
  · rw [look_put]
    by_cases e : y = x
    · rw [if_pos e]; simp [e]
    · rw [if_neg e, h.iff]; simp [e]
  · have := length_put_le M x (.bool true)
    have := h.len
    omega
theorem XsI.cong {s r m m' : Nat} {C' : Slot → Prop} (h : XsI ww wr s r mx E done C m M) (hc : ∀ x, C x ↔ C' x) (hm : m ≤ m') : XsI ww wr s r mx E done C' m' M := ⟨h.it, h.map, fun x => (h.iff x).trans (hc x), Nat.le_trans h.len hm, h.bel⟩
theorem XsI.next {s r m : Nat} {done' : List (Nat × Value)} (h : XsI ww wr s r mx E done C m M) (hr : ww.heap.size ≤ r) (hsr : r ≠ s) (hi : IterIs Tryz.prog 23 encU w' r mx (eM E) done') (t : Turned [r] wr w') : XsI ww w' s r mx E done' C m M :=
  ⟨hi, h.map.turned t (by simpa using hsr.symm), h.iff, h.len, Turned.below_of h.bel t (by simpa using hr)⟩
/-- the slots of the versions that were gone over -/
def doneC (E : List XE) (done : List (Nat × Value)) (x : Slot) : Prop := ∃ e, e ∈ E ∧ e.n ∈ done.map (·.1) ∧ x ∈ e.l.map (·.2.s)
def XsO (ww wr : World) (s r mx : Nat) (E : List XE) : Prop := ∃ done M, XsI ww wr s r mx E done (doneC E done) (done.length * 4096) M
def xslotsPost (C : Slot → Prop) (ww : World) (e : Ending) (w' : World) : Prop := ∃ v zs, e = .returned v ∧ SlotsIs C zs ∧ w'.ownsRow ww.heap.size 45 3 v zs.length (flat zs) ∧ Below ww.heap.size ww w'
theorem doneC_more {v : Value} (hk : (E.map (·.n)).Nodup) (he : e ∈ E) (x : Slot) : (doneC E done x ∨ x ∈ (e.l.take e.l.length).map (·.2.s)) ↔ doneC E (done ++ [(e.n, v)]) x := by
  unfold doneC
  rw [List.take_length]
  constructor
  · rintro (⟨y, hy, h1, h2⟩ | h)
    · exact ⟨y, hy, by rw [List.map_append]; exact List.mem_append.2 (.inl h1), h2⟩
    · exact ⟨e, he, by simp, h⟩
  · rintro ⟨y, hy, h1, h2⟩
    rw [List.map_append] at h1
    rcases List.mem_append.1 h1 with h1 | h1
    · exact .inl ⟨y, hy, h1, h2⟩
    · simp only [List.map_cons, List.map_nil, List.mem_singleton] at h1
      obtain rfl := map_key_inj hk hy he h1
      exact .inr h2
set_option maxRecDepth 100000 in
set_option maxHeartbeats 4000000 in
theorem xslots_fn (h : XAt B ww xb mx last E) (hE : E.length ≤ 200) (hl : ∀ e, e ∈ E → e.l.length ≤ 4096 ∧ ∀ p, p ∈ e.l → p.2.s.ok) : Calls Tryz.prog 15 #[.pointer (some ⟨xb, 0, none⟩)] ww (xslotsPost (xslot E) ww) := by
  have hmm := @run_makeMap Tryz.prog
  have HX := Lib.hid h
  have HL := Lib.hid hl
  have hml := h.map.lt
  have HMap : Hid (MapIs Tryz.prog 23 encU (ww.alloc (.map #[] 0)) mx (eM E)) := h.map.alloc _
  have HM0 := Lib.hid (MapIs.made (P := Tryz.prog) (kt := 45) (enc := encS) ww)
  have c0 := (h.calm (w' := ww.alloc (.map #[] 0)) ((Turned.refl [] ww).alloc _).below).c0
  clear h hl
  go_enter Tryz.func15, Tryz.ntmps15
  go_wp2_with (first
    | (at_range; refine wp_range _ rfl _ 35 rfl Tryz.underlying35 mx (eM E) rfl HMap.out ?_; intro w0 hi0 ht0))
  obtain ⟨r, hr⟩ : ∃ r, (ww.alloc (.map #[] 0)).heap.size = r := ⟨_, rfl⟩
  have hrr : ww.heap.size < r := by rw [← hr]; simp
  rw [hr] at hi0
  rw [hr]
  have H0 : Hid (XsO ww w0 ww.heap.size r mx E) := ⟨[], [], hi0, HM0.out.turned ht0 (by simp), fun x => by simp [mget, doneC], by simp, ((Turned.refl [] ww).alloc _ |>.trans ht0).below⟩
  clear hi0 ht0 HMap HM0 hmm hr
  go_frame
  go_loopw [5] (fun _ wr => Hid (XsO ww wr ww.heap.size r mx E)) (fun _ wr => leftIn wr r mx)
  case atStart => exact H0.out
  case round =>
    clear H0
    obtain ⟨wr0, hwr0⟩ : ∃ wr0, wr = wr0 := ⟨_, rfl⟩
    rw [hwr0] at hrel
    rw [hwr0]
    clear hwr0
    obtain ⟨done, M, hI⟩ := hrel.out
    have HI := Lib.hid hI
    have HIt := Lib.hid hI.it
    clear hrel hI
    go_wp2_with (first
      | (at_next; refine wp_next _ rfl _ rfl r mx (eM E) done rfl HIt.out ?_ ?_))
    · intro hp
      have HP := Lib.hid hp
      clear hp
      have hdl : done.length ≤ 200 := by have := HIt.out.len_le; unfold eM at this; simp at this; omega
      have CS : Hid (Calls Tryz.prog 32 #[.map (some ww.heap.size)] wr0 (xslotsPost (xslot E) ww)) := by
        refine (sorted_fn ww.heap.size M wr0 HI.out.map (by have := HI.out.len; omega)).mono fun e w' ⟨v, zs, e1, e2, e3, e4⟩ => ⟨v, zs, e1, ⟨fun s => (e2.mem s).trans ?_, e2.nodup, e2.sorted⟩, owns_mono e3 HI.out.bel.size, HI.out.bel.trans (e4.mono HI.out.bel.size)⟩
        have h1 : s ∈ M.map (·.1) ↔ (mget M s).isSome = true := by
          constructor
          · intro hm
            obtain ⟨p, hp, rfl⟩ := List.mem_map.1 hm
            rw [look_of_mem HI.out.map.nodup hp]; rfl
          · intro hm
            obtain ⟨v, hv⟩ := Option.isSome_iff_exists.1 hm
            exact List.mem_map_of_mem (f := (·.1)) (mem_of_look hv)
        rw [h1, HI.out.iff]
        unfold doneC xslot
        constructor
        · rintro ⟨y, hy, _, h2⟩; exact ⟨y, hy, h2⟩
        · rintro ⟨y, hy, h2⟩
          refine ⟨y, hy, (HP.out.map (·.1)).mem_iff.2 ?_, h2⟩
          exact List.mem_map_of_mem (f := (·.1)) (List.mem_map_of_mem (f := fun e : XE => (e.n, ptrV e.b)) hy)
      clear HIt HI HP
      go_wp2_with (go_at_call 32; ((with_reducible refine CS.out.mono ?_); rintro e w1 ⟨v, zs, rfl, hz⟩; have HZ := Lib.hid hz; clear hz CS))
      go_ret
      exact ⟨_, zs, rfl, HZ.out⟩
    · rintro k v w2 hmem hi2 ht2 hsz hen
      obtain ⟨e, he, hee⟩ := List.mem_map.1 hmem
      simp only [Prod.mk.injEq] at hee
      obtain ⟨rfl, rfl⟩ := hee
      have H2 : Hid (XsI ww w2 ww.heap.size r mx E (done ++ [(e.n, ptrV e.b)]) (doneC E done) (done.length * 4096) M) := HI.out.next (by omega) (by omega) hi2 ht2
      have HLt : Hid (leftIn wr0 r mx = (eM E).length - done.length ∧ done.length < (eM E).length) := ⟨iter_left HIt.out, by have := hi2.len_le; simp at this; omega⟩
      have HEe := Lib.hid he
      have hv := HX.out.v0 he
      have hro := HX.out.row e he
      obtain ⟨a, cap, hsv, hsl, _⟩ := sl5_of_owns hro
      have HSl : Hid (Sl5 ww a e.l.length e.l) := hsl
      rw [hsv] at hv
      have hln := (HL.out e he).1
      have HOk := Lib.hid (HL.out e he).2
      have HEn : Hid (∀ wz, (∃ M, XsI ww wz ww.heap.size r mx E (done ++ [(e.n, ptrV e.b)]) (fun x => doneC E done x ∨ x ∈ (e.l.take e.l.length).map (·.2.s)) (done.length * 4096 + e.l.length) M) → XsO ww wz ww.heap.size r mx E ∧ leftIn wz r mx < leftIn wr0 r mx) := fun wz ⟨M, hM⟩ => ⟨⟨_, M, hM.cong (doneC_more HX.out.keys HEe.out) (by have := (HL.out e HEe.out).1; simp; omega)⟩, by
        rw [iter_left hM.it, HLt.out.1]
        have := HLt.out.2
        simp; omega⟩
      obtain ⟨ln, hlnE⟩ : ∃ ln, e.l.length = ln := ⟨_, rfl⟩
      rw [hlnE] at hv hln HSl HEn
      have HLn := Lib.hid hlnE
      have hv0 : Hid (∀ wz, Below ww.heap.size ww wz → wz.cell? ⟨e.b, 0, none⟩ = some (.slice a ln cap)) := fun wz hb => (Turned.of_below hb).cell hv (by simp)
      generalize he2 : e.l = el at *
      generalize e.b = eb at *
      clear hmem hi2 ht2 hsz he hro hsv hsl HI HIt hlnE he2 hv c0
      unfold ptrV encU at hen
      unfold ptrV at *
      go_wp2
      go_loopw [6] (fun jv wz => ∃ j : Nat, j ≤ ln ∧ jv = .int .i64 j ∧ Hid (∃ M, XsI ww wz ww.heap.size r mx E (done ++ [(e.n, .pointer (some ⟨eb, 0, none⟩))]) (fun x => doneC E done x ∨ x ∈ (el.take j).map (·.2.s)) (done.length * 4096 + j) M)) (fun jv _ => ln - (intOf jv).toNat)
      case atStart => exact ⟨0, Nat.zero_le _, rfl, M, H2.out.cong (fun x => by simp) (Nat.le_refl _)⟩
      case round =>
        clear H2
        obtain ⟨j, hj, rfl, hB⟩ := hrel
        obtain ⟨M2, hM⟩ := hB.out
        have hv := hv0.out wr hM.bel
        by_cases hlt : j < ln
        · have hjc : j < el.length := by rw [HLn.out]; exact hlt
          obtain ⟨pb, poff, rfl, q0, q1, q2, q3, q4⟩ := (HSl.out.turned (Turned.of_below hM.bel) (by simp)).at j hjc
          have hok := HOk.out _ (List.getElem_mem hjc)
          have HKy := Lib.hid (keyS _ hok)
          have HMap := Lib.hid hM.map
          have HPut : Hid (∀ w5, MapIs Tryz.prog 45 encS w5 ww.heap.size (mput M2 el[j].2.s (.bool true)) → Turned [ww.heap.size] wr w5 → ∃ M', XsI ww w5 ww.heap.size r mx E (done ++ [(e.n, .pointer (some ⟨eb, 0, none⟩))]) (fun x => doneC E done x ∨ x ∈ (el.take (j + 1)).map (·.2.s)) (done.length * 4096 + (j + 1)) M') := fun w5 hm5 ht5 =>
            ⟨_, (hM.put (Nat.le_refl _) (by omega) hml hm5 ht5).cong (fun x => by rw [List.take_succ_eq_append_getElem hjc, List.map_append, List.mem_append, or_assoc]; simp) (by omega)⟩
          generalize el[j] = pr at *
          obtain ⟨pn, ⟨⟨se, sc, si⟩, sg⟩⟩ := pr
          simp only at q1 q2 q3 HKy HPut
          unfold encS at HKy
          simp only at HKy
          obtain ⟨ky, hky⟩ := HKy.out
          have HKK := Lib.hid hky
          clear hok hM hky HKy hjc q0 q4 hB HEn HLt
          go_wp2_with (first
            | (at_mapUpdate; refine wp_put _ rfl _ _ _ 86 rfl keyedS encS_inj Tryz.underlying86 ww.heap.size M2 rfl HMap.out ⟨se, sc, si⟩ rfl _ rfl HKK.out ?_; intro w5 hm5 ht5; have H5 := Lib.hid (HPut.out w5 hm5 ht5); clear hm5 ht5 q1 q2 q3 hv))
          go_roundw
          case rel => exact ⟨j + 1, by omega, by go_num, H5.out⟩
          case measure => simp [intOf]; omega
        · obtain rfl : j = ln := by omega
          have HF := Lib.hid (HEn.out wr (by rw [← HLn.out] at hB ⊢; exact hB.out))
          clear hB hM HEn HLt
          go_wp2
          go_roundw
          all_goals first | exact HF.out.1 | exact HF.out.2
end Go.Proofs.YtmpbhoijkcanmaaGreat.R

/- The document's answer: the slots of one list that are not in the other. -/
namespace Go.Proofs.YtmpbhoijkcanmaaGreat.R
open Go.ChangeShapes Go.WideShapes Go.ChangeAt Go.RowKit Go.Maps Go.Proofs.YtmpbhoijkcanmaaGreat.G
set_option linter.unusedVariables false
set_option linter.unusedSimpArgs false
set_option linter.unnecessarySimpa false

variable {w ww w' wr : World} {s : Nat} {P : Slot → Prop}
/-- a set of slots, exactly -/
def SlSet (w : World) (s : Nat) (P : Slot → Prop) : Prop := ∃ M, MapIs Tryz.prog 45 encS w s M ∧ (∀ x v, mget M x = some v → v = .bool true) ∧ ∀ x, (mget M x).isSome = true ↔ P x
theorem SlSet.put {x : Slot} {M : List (Slot × Value)} (h1 : ∀ x v, mget M x = some v → v = .bool true) (h2 : ∀ x, (mget M x).isSome = true ↔ P x) (hm : MapIs Tryz.prog 45 encS w' s (mput M x (.bool true))) : SlSet w' s (fun y => P y ∨ y = x) := by
  refine ⟨_, hm, fun y v hv => ?_, fun y => ?_⟩
  · rw [look_put] at hv
    by_cases e : y = x
    · rw [if_pos e] at hv; exact (Option.some.inj hv).symm
    · rw [if_neg e] at hv; exact h1 y v hv
  · rw [look_put]
    by_cases e : y = x
    · rw [if_pos e]; simp [e]
    · rw [if_neg e, h2]; simp [e]
theorem SlSet.cong {Q : Slot → Prop} (h : SlSet w s P) (hc : ∀ x, P x ↔ Q x) : SlSet w s Q := by
  obtain ⟨M, h1, h2, h3⟩ := h
  exact ⟨M, h1, h2, fun x => (h3 x).trans (hc x)⟩
theorem SlSet.turned (h : SlSet w s P) {S : List Nat} (t : Turned S w w') (hs : s ∉ S) : SlSet w' s P := by
  obtain ⟨M, h1, h2, h3⟩ := h
  exact ⟨M, h1.turned t hs, h2, h3⟩
theorem zeroSB2 (w : World) : (zeroValue 4).run Tryz.prog w = .ok (.bool false) w := by kernel_rfl
theorem SlSet.look (h : SlSet w s P) {x : Slot} (hs : x.ok) {R : Bool} (hR : R = true ↔ P x) : (Instr.lookup 86 (.map (some s)) (.agg #[.int .i64 x.e, .int .i64 x.c, .int .i64 x.i]) false).run Tryz.prog w = .ok (.bool R) w := by
  obtain ⟨M, hM, h1, h2⟩ := h
  obtain ⟨k, hk⟩ := keyS x hs
  have := hM.run_look keyedS encS_inj Tryz.underlying86 (zeroSB2 w) x hk false
  have e : mget M x = if R = true then some (.bool true) else none := by
    cases e : mget M x with
    | none =>
      have h3 := h2 x
      rw [e] at h3
      rw [if_neg (by rw [hR, ← h3]; simp)]
    | some v =>
      have h3 := h2 x
      rw [e] at h3
      rw [if_pos (by rw [hR, ← h3]; simp), h1 x v e]
  rw [e] at this
  cases R
  · exact this
  · exact this
/-- behind some of the slots -/
structure GnI (w wr : World) (zs xs : List Slot) (i : Nat) (v : Value) : Prop where
  set : SlSet wr w.heap.size (fun x => x ∈ zs)
  own : wr.ownsRow (w.heap.size + 1) 45 3 v ((xs.take i).filter (fun x => decide (x ∉ zs))).length (flat ((xs.take i).filter (fun x => decide (x ∉ zs))))
  bel : Below w.heap.size w wr
  size : w.heap.size < wr.heap.size
theorem flat_snoc3 (xs : List Slot) (x : Slot) : flat (xs ++ [x]) = flat xs ++ encL x := by unfold flat; simp
theorem GnI.more {zs xs : List Slot} {i : Nat} {v v' : Value} {t : TypeId} (h : GnI w wr zs xs i v) (hi : i < xs.length) (hn : xs[i] ∉ zs) (hg : (wr.alloc (.cells (encL xs[i]).toArray t)).grownBy w' v.ownBlock)
    (ho : w'.ownsRow (w.heap.size + 1) 45 3 v' (((xs.take i).filter (fun x => decide (x ∉ zs))).length + 1) (flat ((xs.take i).filter (fun x => decide (x ∉ zs))) ++ encL xs[i])) : GnI w w' zs xs (i + 1) v' := by
  have hab := own_above h.own
  have t4 : Turned v.ownBlock.toList wr w' := (((Turned.refl [] wr).alloc _).nil_mono).grown hg fun k' hk' => .inl (by rw [hk']; simp)
  have hs : ∀ b, b ∈ v.ownBlock.toList → w.heap.size + 1 ≤ b := fun b hb => by
    cases e : v.ownBlock with
    | none => rw [e] at hb; simp at hb
    | some c => rw [e] at hb; simp at hb; have := hab c e; omega
  have e : (xs.take (i + 1)).filter (fun x => decide (x ∉ zs)) = (xs.take i).filter (fun x => decide (x ∉ zs)) ++ [xs[i]] := by
    rw [List.take_succ_eq_append_getElem hi, List.filter_append]
    simp [hn]
  exact ⟨h.set.turned t4 (fun hm => by have := hs _ hm; omega), by rw [e, flat_snoc3, List.length_append]; exact ho, Turned.below_of h.bel t4 fun b hb => by have := hs b hb; omega, by have := h.size; have := t4.size; omega⟩
theorem GnI.skip {zs xs : List Slot} {i : Nat} {v : Value} (h : GnI w wr zs xs i v) (hi : i < xs.length) (hn : xs[i] ∈ zs) : GnI w wr zs xs (i + 1) v := by
  have e : (xs.take (i + 1)).filter (fun x => decide (x ∉ zs)) = (xs.take i).filter (fun x => decide (x ∉ zs)) := by
    rw [List.take_succ_eq_append_getElem hi, List.filter_append]
    simp [hn]
  exact ⟨h.set, by rw [e]; exact h.own, h.bel, h.size⟩
set_option maxRecDepth 100000 in
set_option maxHeartbeats 2000000 in
theorem xgone_fn (xs zs : List Slot) (a b : Option Addr) (n m cap capb : Nat) (w : World) (h : Sl3s w a n xs) (h' : Sl3s w b m zs) (hn : n ≤ 1048576) (hm : m ≤ maxLen) (hxo : ∀ s, s ∈ xs → s.ok) (hzo : ∀ s, s ∈ zs → s.ok) :
    Calls Tryz.prog 43 #[.slice a n cap, .slice b m capb] w fun e w' => ∃ v, e = .returned v ∧ w'.ownsRow w.heap.size 45 3 v (xs.filter (fun x => decide (x ∉ zs))).length (flat (xs.filter (fun x => decide (x ∉ zs)))) ∧ Below w.heap.size w w' := by
  unfold maxLen at hm
  have hl := h.1
  have hl' := h'.1
  have H := Lib.hid (And.intro h hxo)
  have H' := Lib.hid (And.intro h' hzo)
  clear h h' hxo hzo
  have hmm := @run_makeMap Tryz.prog
  obtain ⟨i0, hi9, hz0, hz1, hz2⟩ := infoSl
  have HS0 : Hid (SlSet (w.alloc (.map #[] 0)) w.heap.size (fun s => s ∈ zs.take 0) ∧ Below w.heap.size w (w.alloc (.map #[] 0)) ∧ w.heap.size < (w.alloc (.map #[] 0)).heap.size) := ⟨⟨[], MapIs.made w, fun s v hv => by simp [mget] at hv, fun s => by simp [mget]⟩, ((Turned.refl [] w).alloc _).below, by simp⟩
  go_enter Tryz.func43, Tryz.ntmps43
  go_wp2
  generalize w.alloc (.map #[] 0) = w1 at *
  clear hmm
  go_loopw [6] (fun v wr => ∃ i : Nat, i ≤ m ∧ v = .int .i64 i ∧ Hid (SlSet wr w.heap.size (fun s => s ∈ zs.take i) ∧ Below w.heap.size w wr ∧ w.heap.size < wr.heap.size)) (fun v _ => m - (intOf v).toNat)
  case atStart => exact ⟨0, Nat.zero_le _, rfl, HS0.out⟩
  case round =>
    obtain ⟨i, hi, rfl, hB⟩ := hrel
    clear HS0
    by_cases hlt : i < m
    · have hiz : i < zs.length := by rw [hl']; exact hlt
      obtain ⟨pb, poff, rfl, c0, c1, c2⟩ := (H'.out.1.below hB.out.2.1).at i hiz
      have hzk := H'.out.2 _ (List.getElem_mem hiz)
      obtain ⟨M, hM, hmg, hmi⟩ := hB.out.1
      have HKy := Lib.hid (keyS _ hzk)
      have HMap := Lib.hid hM
      have HPut : Hid (∀ w5, MapIs Tryz.prog 45 encS w5 w.heap.size (mput M zs[i] (.bool true)) → Turned [w.heap.size] wr w5 → SlSet w5 w.heap.size (fun s => s ∈ zs.take (i + 1)) ∧ Below w.heap.size w w5 ∧ w.heap.size < w5.heap.size) := fun w5 hm5 ht5 => by
        refine ⟨(SlSet.put hmg hmi hm5).cong fun x => by rw [List.take_succ_eq_append_getElem hiz, List.mem_append]; simp, Turned.below_of hB.out.2.1 ht5 fun c hc => by simp only [List.mem_singleton] at hc; subst hc; exact Nat.le_refl _, Nat.lt_of_lt_of_le hB.out.2.2 ht5.size⟩
      generalize zs[i] = s at *
      obtain ⟨se, sc, si⟩ := s
      simp only at c0 c1 c2
      unfold encS at HKy
      simp only at HKy
      obtain ⟨ky, hky⟩ := HKy.out
      have HKK := Lib.hid hky
      clear hzk hM hmg hmi hky HKy hiz
      go_wp2_with (first
        | (at_mapUpdate; refine wp_put _ rfl _ _ _ 86 rfl keyedS encS_inj Tryz.underlying86 w.heap.size M rfl HMap.out ⟨se, sc, si⟩ rfl _ rfl HKK.out ?_; intro w5 hm5 ht5; have H5 := Lib.hid (HPut.out w5 hm5 ht5); clear hm5 ht5 c0 c1 c2))
      go_roundw
      case rel => exact ⟨i + 1, by omega, by go_num, H5.out⟩
      case measure => simp [intOf]; omega
    · obtain rfl : i = m := by omega
      have HZ : Hid (GnI w wr zs xs 0 (.slice none 0 0)) := ⟨hB.out.1.cong fun x => by rw [List.take_of_length_le (by omega)], ⟨rfl, .inl ⟨rfl, rfl⟩⟩, hB.out.2.1, hB.out.2.2⟩
      clear hB hlt
      go_wp2
      go_loopw [7, 8] (fun lv v wr => ∃ j : Nat, j ≤ n ∧ v = .int .i64 j ∧ Hid (GnI w wr zs xs j lv)) (fun _ v _ => n - (intOf v).toNat)
      case atStart => exact ⟨0, Nat.zero_le _, rfl, HZ.out⟩
      case round =>
        obtain ⟨j, hj, rfl, hB⟩ := hrel
        clear HZ
        by_cases hlt : j < n
        · have hjx : j < xs.length := by rw [hl]; exact hlt
          obtain ⟨pb, poff, rfl, c0, c1, c2⟩ := (H.out.1.below hB.out.bel).at j hjx
          have hxk := H.out.2 _ (List.getElem_mem hjx)
          obtain ⟨R, hR⟩ : ∃ R, decide (xs[j] ∈ zs) = R := ⟨_, rfl⟩
          have hlk := hB.out.set.look hxk (R := R) (by rw [← hR]; simp)
          have HSk : Hid (R = true → GnI w wr zs xs (j + 1) u7) := fun h => hB.out.skip hjx (by rw [h] at hR; simpa using hR)
          have HMo : Hid (R = false → ∀ v' w4, (wr.alloc (.cells (encL xs[j]).toArray 45)).grownBy w4 u7.ownBlock → w4.ownsRow (w.heap.size + 1) 45 3 v' (((xs.take j).filter (fun x => decide (x ∉ zs))).length + 1) (flat ((xs.take j).filter (fun x => decide (x ∉ zs))) ++ encL xs[j]) → GnI w w4 zs xs (j + 1) v') := fun h v' w4 h1 h2 => hB.out.more hjx (by rw [h] at hR; simpa using hR) h1 h2
          have HRow : Hid (∀ o, (wr.alloc o).ownsRow (w.heap.size + 1) 45 3 u7 ((xs.take j).filter (fun x => decide (x ∉ zs))).length (flat ((xs.take j).filter (fun x => decide (x ∉ zs))))) := fun o => owns_turned hB.out.own ((Turned.refl [] wr).alloc o) (by simp)
          have HLe : Hid (((xs.take j).filter (fun x => decide (x ∉ zs))).length ≤ 1048576) := by
            have h1 := List.length_filter_le (fun x => decide (x ∉ zs)) (xs.take j)
            have h2 : (xs.take j).length ≤ j := by simp; omega
            show _ ≤ _
            omega
          have HSz := Lib.hid hB.out.size
          generalize flat ((xs.take j).filter (fun x => decide (x ∉ zs))) = fl at *
          generalize ((xs.take j).filter (fun x => decide (x ∉ zs))).length = nf at *
          generalize xs[j] = x at *
          obtain ⟨se, sc, si⟩ := x
          simp only at c0 c1 c2 hlk
          clear hxk hB hjx hR
          cases R
          · go_wp2_with (first
              | (at_builtin; refine wpList_append_own _ rfl _ _ 42 rfl (w.heap.size + 1) 45 i0 (.agg #[.int .i64 0, .int .i64 0, .int .i64 0]) 3 24 Tryz.underlying42 hi9 hz0 hz1 hz2 rfl (by decide) _ _ _ rfl (HRow.out _) ⟨wr.heap.size, 0, none⟩ 1 1 (encL ⟨se, sc, si⟩) rfl rfl ?c1 ?c2 ?c3 ?c4 ?c5 ?_))
            case c1 => intro q u hu; first | exact hu | exact cells_new wr (encL ⟨se, sc, si⟩) 45 q u hu
            case c2 => intro u hu; simp [encL] at hu; rcases hu with rfl | rfl | rfl <;> rfl
            case c3 => have := HLe.out; unfold maxLen; omega
            case c4 => have := HLe.out; omega
            case c5 => have := HSz.out; simp; omega
            intro v' w4 hown' hgrow hnil
            have HA := Lib.hid (HMo.out (by first | rfl | trivial) v' w4 hgrow hown')
            clear hown' hgrow hnil
            go_wp2
            go_roundw
            case rel => exact ⟨j + 1, by omega, by go_num, HA.out⟩
            case measure => simp [intOf]; omega
          · go_wp2
            go_roundw
            case rel => exact ⟨j + 1, by omega, by go_num, HSk.out (by first | rfl | trivial)⟩
            case measure => simp [intOf]; omega
        · obtain rfl : j = n := by omega
          have HE : Hid (GnI w wr zs xs j u7) := hB.out
          have hxs : xs.take j = xs := List.take_of_length_le (by omega)
          have HF : Hid (wr.ownsRow w.heap.size 45 3 u7 (xs.filter (fun x => decide (x ∉ zs))).length (flat (xs.filter (fun x => decide (x ∉ zs)))) ∧ Below w.heap.size w wr) := by
            have h1 := HE.out.own
            rw [hxs] at h1
            exact ⟨owns_mono h1 (by omega), HE.out.bel⟩
          clear hB hlt HE hxs
          go_wp2
          go_ret
          exact ⟨_, rfl, HF.out⟩
end Go.Proofs.YtmpbhoijkcanmaaGreat.R

/- Versions as lists, the document's answer: letting go. -/
namespace Go.Proofs.YtmpbhoijkcanmaaGreat.R
open Go.ChangeShapes Go.WideShapes Go.ChangeAt Go.RowKit Go.Maps Go.Proofs.YtmpbhoijkcanmaaGreat.G
set_option linter.unusedVariables false
set_option linter.unusedSimpArgs false
set_option linter.unnecessarySimpa false

variable {w ww w' wr : World} {xb mx last B n k : Nat} {E E' : List XE} {e : XE} {C D : Slot → Prop} {xs zs : List Slot}
theorem SlotsIs.minus (h : SlotsIs C xs) (k : SlotsIs D zs) : SlotsIs (fun s => C s ∧ ¬ D s) (xs.filter fun x => decide (x ∉ zs)) :=
  ⟨fun s => by rw [List.mem_filter, h.mem, decide_eq_true_eq, k.mem], h.nodup.filter _, h.sorted.filter _⟩
/-- small lists, of slots that may be -/
structure XOk (E : List XE) : Prop where
  len : E.length ≤ 200
  l : ∀ e, e ∈ E → e.l.length ≤ 4096 ∧ ∀ p, p ∈ e.l → p.2.s.ok
theorem XOk.slot (h : XOk E) {s : Slot} (hs : xslot E s) : s.ok := by
  obtain ⟨e, he, hm⟩ := hs
  obtain ⟨p, hp, rfl⟩ := List.mem_map.1 hm
  exact (h.l e he).2 p hp
theorem XOk.hold (h : XOk E) (n k : Nat) : XOk (ehold E n k) := ⟨by unfold ehold; rw [List.length_map]; exact h.len, fun x hx => by
  obtain ⟨y, hy, q1, q2, q3, q4, q5⟩ := mem_ehold hx
  rw [q4]; exact h.l y hy⟩
theorem XOk.del (h : XOk E) (n : Nat) : XOk (edel E n) := ⟨Nat.le_trans (List.length_filter_le _ _) h.len, fun x hx => h.l x (mem_edel.1 hx).1⟩
theorem XOk.swp (h : XOk E) (last : Nat) (e : XE) : XOk (eswp E last e) := by
  unfold eswp
  split
  · exact h.del _
  · exact h
theorem xslot_hold (E : List XE) (n k : Nat) (s : Slot) : xslot (ehold E n k) s ↔ xslot E s := by
  constructor
  · rintro ⟨x, hx, hm⟩
    obtain ⟨y, hy, q1, q2, q3, q4, q5⟩ := mem_ehold hx
    exact ⟨y, hy, by rw [← q4]; exact hm⟩
  · rintro ⟨x, hx, hm⟩
    refine ⟨if x.n = n then { x with held := k } else x, List.mem_map.2 ⟨x, hx, rfl⟩, ?_⟩
    split <;> exact hm
theorem eget_hold (hv : eget E n = some e) (k : Nat) : eget (ehold E n k) n = some { e with held := k } := by
  obtain ⟨he, hn⟩ := eget_some hv
  unfold eget ehold at *
  rw [List.find?_map]
  have : E.find? ((fun e => decide (e.n = n)) ∘ fun e => if e.n = n then { e with held := k } else e) = E.find? fun e => decide (e.n = n) := by
    congr 1
    funext x
    simp only [Function.comp]
    split <;> rfl
  rw [this, hv]
  simp [hn]
/-- what goes with a call that lets go -/
def xgonePost (ww : World) (B xb mx last' : Nat) (E E' : List XE) (a : Option Addr) (len : Nat) (w' : World) : Prop := ∃ zs, Sl3s w' a len zs ∧ len ≤ maxLen ∧ SlotsIs (fun s => xslot E s ∧ ¬ xslot E' s) zs ∧ XAt B w' xb mx last' E' ∧ Turned (eB xb mx E) ww w'
theorem xgone_end {w2 : World} {v1 v2 : Value} {xs zs : List Slot} {b1 : Nat} (hO : XOk E) (hO' : XOk E') (h : XAt B w2 xb mx n E') (t : Turned (eB xb mx E) ww w2) (h1 : w2.ownsRow ww.heap.size 45 3 v1 xs.length (flat xs)) (hx : SlotsIs (xslot E) xs) (h2 : w2.ownsRow b1 45 3 v2 zs.length (flat zs)) (hz : SlotsIs (xslot E') zs) (hl : xs.length ≤ 1048576) :
    Calls Tryz.prog 43 #[v1, v2] w2 fun r w' => ∃ a len cap, r = .returned (.slice a len cap) ∧ xgonePost ww B xb mx n E E' a len w' := by
  obtain ⟨a1, c1, rfl, s1, _⟩ := sl3s_of_owns h1
  obtain ⟨a2, c2, rfl, s2, _⟩ := sl3s_of_owns h2
  refine (xgone_fn xs zs a1 a2 _ _ c1 c2 w2 s1 s2 hl (owns_le2 h2) (fun s hs => hO.slot ((hx.mem s).1 hs)) fun s hs => hO'.slot ((hz.mem s).1 hs)).mono fun r w' ⟨v, e1, e2, e3⟩ => ?_
  obtain ⟨a3, c3, rfl, s3, _⟩ := sl3s_of_owns e2
  exact ⟨a3, _, c3, e1, _, s3, owns_le2 e2, hx.minus hz, h.calm e3, t.trans ((Turned.of_below e3).mono fun _ _ h => by cases h)⟩
theorem slots_len (hO : XOk E) (hx : SlotsIs (xslot E) xs) : xs.length ≤ 819200 := by
  have h1 : xs.length ≤ (E.flatMap fun e => e.l.map (·.2.s)).length := hx.nodup.length_le_of_subset fun s hs => by
    obtain ⟨e, he, hm⟩ := (hx.mem s).1 hs
    exact List.mem_flatMap.2 ⟨e, he, hm⟩
  have h2 : ∀ E : List XE, (∀ e, e ∈ E → e.l.length ≤ 4096) → (E.flatMap fun e => e.l.map (·.2.s)).length ≤ E.length * 4096 := by
    intro E
    induction E with
    | nil => intro _; simp
    | cons x l ih =>
      intro h
      have h3 := ih fun e he => h e (List.mem_cons_of_mem _ he)
      have h4 := h x List.mem_cons_self
      rw [List.flatMap_cons, List.length_append, List.length_map, List.length_cons]
      omega
  have := h2 E fun e he => (hO.l e he).1
  have := hO.len
  omega
set_option maxRecDepth 100000 in
theorem xrel_no (h : XAt B ww xb mx last E) (hn : n < 2 ^ 64) (hv : eget E n = none ∨ ∃ e, eget E n = some e ∧ e.held = 0) : Calls Tryz.prog 27 #[.pointer (some ⟨xb, 0, none⟩), .int .u64 (n : Nat)] ww fun e w' => e = .returned (.tuple #[.slice none 0 0, .int .i64 3]) ∧ ww = w' := by
  have c0 := h.c0
  have hlk := h.look hn
  rcases hv with hv | ⟨e, hv, hh⟩
  · rw [hv] at hlk
    clear h hv
    go_enter Tryz.func27, Tryz.ntmps27
    go_wp2
    go_ret2
    exact ⟨rfl, rfl⟩
  · rw [hv] at hlk
    obtain ⟨he, rfl⟩ := eget_some hv
    have d1 := h.v1 he
    rw [hh] at d1
    unfold ptrV at hlk
    simp only at hlk
    generalize e.b = bn at *
    generalize e.n = nn at *
    clear h hv he hh
    go_enter Tryz.func27, Tryz.ntmps27
    go_wp2
    go_ret2
    exact ⟨rfl, rfl⟩
set_option maxRecDepth 100000 in
set_option maxHeartbeats 2000000 in
theorem xrel_yes {hd : Nat} (h : XAt B ww xb mx last E) (hO : XOk E) (hB : B ≤ ww.heap.size) (hn : n < 2 ^ 64) (hv : eget E n = some e) (hh : e.held = hd + 1) (hs : hd ≤ 2 ^ 40) : Calls Tryz.prog 27 #[.pointer (some ⟨xb, 0, none⟩), .int .u64 (n : Nat)] ww fun r w' => ∃ a len cap, r = .returned (.tuple #[.slice a len cap, .int .i64 0]) ∧
    xgonePost ww B xb mx last E (eswp (ehold E n hd) last { e with held := hd }) a len w' := by
  obtain ⟨he, hen⟩ := eget_some hv
  have HF : Hid (∀ wz, Below ww.heap.size ww wz → wz.cell? ⟨xb, 0, none⟩ = some (.map (some mx)) ∧ (Instr.lookup 35 (.map (some mx)) (.int .u64 (n : Nat)) false).run Tryz.prog wz = .ok (ptrV e.b) wz ∧ wz.cell? ⟨e.b, 1, none⟩ = some (.int .i64 ((hd + 1 : Nat) : Int)) ∧ wz.frozen? ⟨e.b, 1, none⟩ = false) := fun wz hb => by
    have hx := h.calm hb
    have hlk := hx.look hn
    rw [hv] at hlk
    exact ⟨hx.c0, hlk, by rw [← hh]; exact hx.v1 he, hx.vfz he 1⟩
  have CS1 : Hid (Calls Tryz.prog 15 #[.pointer (some ⟨xb, 0, none⟩)] ww (xslotsPost (xslot E) ww)) := xslots_fn h hO.len hO.l
  have HSt : Hid (∀ wz, Below ww.heap.size ww wz → XAt B (wz.setCell ⟨e.b, 1, none⟩ (.int .i64 (hd : Nat))) xb mx last (ehold E n hd) ∧ Turned (eB xb mx E) ww (wz.setCell ⟨e.b, 1, none⟩ (.int .i64 (hd : Nat)))) := fun wz hb => by
    have hx := h.calm hb
    have h1 := hx.setHeld he hd
    rw [hen] at h1
    exact ⟨h1, ((Turned.of_below hb).mono (fun _ _ h => by cases h)).setCell (.inl (hx.mem_b he)) _⟩
  have CSw : Hid (∀ wz, XAt B wz xb mx last (ehold E n hd) → Calls Tryz.prog 42 #[.pointer (some ⟨xb, 0, none⟩), .int .u64 (n : Nat)] wz fun r w' => r = .returned (.tuple #[]) ∧ XAt B w' xb mx last (eswp (ehold E n hd) last { e with held := hd }) ∧ Turned (eB xb mx E) wz w') := fun wz hx => by
    have h1 := xsweep_fn hx hn (eget_hold hv hd)
    have eb : eB xb mx (ehold E n hd) = eB xb mx E := by unfold eB; rw [ehold_b]
    rw [eb] at h1
    exact h1
  have CS2 : Hid (∀ wz, XAt B wz xb mx last (eswp (ehold E n hd) last { e with held := hd }) → Calls Tryz.prog 15 #[.pointer (some ⟨xb, 0, none⟩)] wz (xslotsPost (xslot (eswp (ehold E n hd) last { e with held := hd })) wz)) := fun wz hx => xslots_fn hx ((hO.hold n hd).swp last _).len ((hO.hold n hd).swp last _).l
  have HO := Lib.hid hO
  have HO2 : Hid (XOk (eswp (ehold E n hd) last { e with held := hd })) := (hO.hold n hd).swp last _
  have HOwn : Hid (∀ wz v1 xs, wz.ownsRow ww.heap.size 45 3 v1 (List.length xs) (flat xs) → ∀ w', Turned (eB xb mx E) wz w' → w'.ownsRow ww.heap.size 45 3 v1 xs.length (flat xs)) := fun wz v1 xs ho w' t => owns_turned ho t fun i hi => h.at_b hi
  have HBn := Lib.hid (h.mem_b he)
  obtain ⟨f0, f1, f2, f3⟩ := HF.out ww (Below.refl _ _)
  generalize eswp (ehold E n hd) last { e with held := hd } = E2 at *
  generalize ehold E n hd = E1 at *
  generalize e.b = bn at *
  unfold ptrV at *
  obtain ⟨h1, hh1⟩ : ∃ h1, hd + 1 = h1 := ⟨_, rfl⟩
  have hw1 : IntKind.i64.wrap ((h1 : Int) - 1) = ((hd : Nat) : Int) := by rw [IntWalk.i64_in _ (by omega)]; omega
  have hbd : ((h1 : Int) == 0) = false := by simp; omega
  rw [hh1] at HF f2
  clear h hO hv he hen hh hh1
  go_enter Tryz.func27, Tryz.ntmps27
  go_upto_region 4 with (first
    | (go_at_call 15; ((with_reducible refine CS1.out.mono ?_); rintro r w1 ⟨v1, xs, rfl, hx1, ho1, hb1⟩; have X1 := Lib.hid (And.intro hx1 (And.intro ho1 hb1)); clear hx1 ho1 hb1 CS1)))
  obtain ⟨g0, g1, g2, g3⟩ := HF.out w1 X1.out.2.2
  clear f0 f1 f2 f3 HF
  have S1 := Lib.hid (HSt.out w1 X1.out.2.2)
  have T1 : Hid (Turned (eB xb mx E) w1 (w1.setCell ⟨bn, 1, none⟩ (.int .i64 (hd : Nat)))) := (Turned.refl _ w1).setCell (p := ⟨bn, 1, none⟩) (.inl HBn.out) _
  go_upto_region 5 with fail
  generalize w1.setCell ⟨bn, 1, none⟩ (.int .i64 (hd : Nat)) = w2 at *
  clear g0 g1 g2 g3 HSt
  go_wp2_with (first
    | (go_at_call 42; ((with_reducible refine (CSw.out _ S1.out.1).mono ?_); rintro r w3 ⟨rfl, hx3, ht3⟩; have S3 := Lib.hid (And.intro hx3 ht3); clear hx3 ht3 CSw))
    | (go_at_call 15; ((with_reducible refine (CS2.out _ S3.out.1).mono ?_); rintro r w4 ⟨v2, zs, rfl, hz4, ho4, hb4⟩; have S4 := Lib.hid (And.intro hz4 (And.intro ho4 hb4)); clear hz4 ho4 hb4 CS2))
    | (go_at_call 43; (have hh := (xgone_end HO.out HO2.out (S3.out.1.calm S4.out.2.2) ((S1.out.2.trans S3.out.2).trans ((Turned.of_below S4.out.2.2).mono fun _ _ h => by cases h)) (HOwn.out w1 _ _ X1.out.2.1 _ ((T1.out.trans S3.out.2).trans ((Turned.of_below S4.out.2.2).mono fun _ _ h => by cases h))) X1.out.1 S4.out.2.1 S4.out.1 (Nat.le_trans (slots_len HO.out X1.out.1) (by omega))); (with_reducible refine hh.mono ?_); clear hh; rintro r w5 ⟨a5, len5, cap5, rfl, hp5⟩; have S5 := Lib.hid hp5; clear hp5)))
  go_ret2
  exact ⟨a5, len5, cap5, rfl, S5.out⟩
end Go.Proofs.YtmpbhoijkcanmaaGreat.R

/- Versions as lists, the document's answer: publishing. -/
namespace Go.Proofs.YtmpbhoijkcanmaaGreat.R
open Go.ChangeShapes Go.WideShapes Go.ChangeAt Go.RowKit Go.Maps Go.Proofs.YtmpbhoijkcanmaaGreat.G Go.Joins
set_option linter.unusedVariables false
set_option linter.unusedSimpArgs false
set_option linter.unnecessarySimpa false

variable {w ww w' wr : World} {xb mx last B n k : Nat} {E E' : List XE} {e : XE}
theorem encP_one (l : List Pr) : ∀ u ∈ flatP l, u.oneCell' = true := by
  intro u hu
  obtain ⟨c, _, hc⟩ := List.mem_flatMap.1 hu
  simp only [encP, List.mem_cons, List.not_mem_nil, or_false] at hc
  rcases hc with rfl | rfl | rfl | rfl | rfl <;> rfl
theorem prs_cells {g cap n m : Nat} {l : List Pr} {cur : Array Value} (hh : w.heap[g]? = some (.cells cur 88 (0, 0))) (ht : cur.toList.take m = flatP l) : ∀ j u, (flatP l)[j]? = some u → w.cell? ((⟨g, 0, none⟩ : Addr).add j) = some u := fun j u hu => by
  have h1 : (cur.toList.take m)[j]? = some u := by rw [ht]; exact hu
  rw [List.getElem?_take] at h1
  split at h1
  · rw [addr_add_none, Nat.zero_add]
    simp [World.cell?, hh]
    simpa using h1
  · cases h1
theorem info_prs : (Tryz.prog.info? 88).map (fun i => (i.zero, i.size, i.bytes)) = some (some (.agg #[.int .i64 0, .int .i64 0, .int .i64 0, .int .i64 0, .int .i64 0]), 5, 40) := by kernel_rfl
/-- a list is copied -/
theorem wpList_append_prs {ops : Array Oper} {rest : List Oper} {o : Oper} {a : Act} {Q : Exit → Act → World → Prop} (hgd : o.guard = none) (s x : Operand)
    (ho : o.op = .call { callee := .builtin .append, args := #[s, x], argTypes := #[53, 53] }) (base : Nat) (v : Value) (hs : a.eval s = v) (hown : w.ownsRow base 88 5 v 0 [])
    (B : Nat) (xv : Value) (len : Nat) (l : List Pr) (hx : a.eval x = xv) (hl : w.ownsRow B 88 5 xv len (flatP l)) (hn : len ≤ 1048576) (hbase : base ≤ w.heap.size)
    (h : ∀ v' w', w'.ownsRow base 88 5 v' len (flatP l) → w.grownBy w' v.ownBlock → wpList Tryz.prog ops Q rest (a.put o.dst v') w') : wpList Tryz.prog ops Q (o :: rest) a w := by
  obtain ⟨i0, hi, hz0, hz1, hz2⟩ := info_parts info_prs
  obtain ⟨hll, hl⟩ := hl
  rcases hl with ⟨e1, e2⟩ | ⟨g, cap, cur, e1, hg, hh, hnc, hc, hsz, ht⟩
  · subst e2
    obtain hf : flatP l = [] := List.length_eq_zero_iff.1 (by omega)
    rw [hf] at h
    exact wpList_append_own_none hgd s x 53 ho base 88 i0 5 Tryz.underlying53 hi v 0 [] hs hown (hx.trans e1) (h v w hown ⟨rfl, rfl, rfl, Nat.le_refl _, fun k _ _ => rfl⟩)
  · exact wpList_append_own_at _ hgd s x 53 ho base 88 i0 _ 5 40 Tryz.underlying53 hi hz0 hz1 hz2 rfl (by decide) v 0 [] hs hown ⟨g, 0, none⟩ len cap (flatP l) (hx.trans e1) (by omega) (prs_cells (n := 0) (cap := 0) hh ht) (encP_one l) (by unfold maxLen; omega) (by omega) hbase (fun v' w' h1 h2 _ _ => h v' w' (by rw [Nat.zero_add, List.nil_append] at h1; exact h1) h2)
theorem owns_emptyp (w : World) : (w.alloc (.cells #[] 88)).ownsRow w.heap.size 88 5 (.slice (some ⟨w.heap.size, 0, none⟩) 0 0) 0 [] := owns_empty w 88 5
set_option maxRecDepth 100000 in
theorem xpub_stale (h : XAt B ww xb mx last E) {base : Nat} (hb : base ≠ last) (a : Option Addr) (len cap : Nat) :
    Calls Tryz.prog 25 #[.pointer (some ⟨xb, 0, none⟩), .int .u64 (base : Nat), .slice a len cap] ww fun e w' => e = .returned (.tuple #[.int .u64 0, .slice none 0 0, .int .i64 240]) ∧ ww = w' := by
  have c1 := h.c1
  have hq : ((base : Int) == (last : Int)) = false := by simp; omega
  have hq2 := bne_of hq
  clear h hb
  go_enter Tryz.func25, Tryz.ntmps25
  go_wp2
  go_ret3
  exact ⟨rfl, rfl⟩
set_option maxRecDepth 100000 in
set_option maxHeartbeats 1000000 in
theorem xpub_bad (h : XAt B ww xb mx last E) (a : Option Addr) (len cap : Nat) (l : List ChD) (hl : ChsAt ww a len l) (hn : len ≤ maxLen) (hval : ¬ ∀ x, x ∈ l → x.val) :
    Calls Tryz.prog 25 #[.pointer (some ⟨xb, 0, none⟩), .int .u64 (last : Nat), .slice a len cap] ww fun e w' => e = .returned (.tuple #[.int .u64 0, .slice none 0 0, .int .i64 2]) ∧ Below ww.heap.size ww w' := by
  have c1 := h.c1
  have HL := Lib.hid (And.intro hl hval)
  have HB0 := Lib.hid (Below.refl ww.heap.size ww)
  unfold maxLen at hn
  clear h hl hval
  go_enter Tryz.func25, Tryz.ntmps25
  go_wp2
  go_loopw [9] (fun v wr => ∃ k : Nat, k ≤ len ∧ v = .int .i64 k ∧ wr = ww ∧ Hid (∀ j x, j < k → l[j]? = some x → x.val)) (fun v _ => len - (intOf v).toNat)
  case atStart => exact ⟨0, Nat.zero_le _, rfl, rfl, fun j x hj => by omega⟩
  case round =>
    obtain ⟨k, hk, rfl, hww, hB⟩ := hrel
    rw [hww]
    clear hww
    by_cases hlt : k < len
    · obtain ⟨pb, poff, x, rfl, hpb, hx, k0, k1, k2, k3, k4, k5⟩ := ChsAt.cells HL.out.1 k hlt
      have H2 : Hid (x.val → ∀ j y, j < k + 1 → l[j]? = some y → y.val) := fun hv j y hj hy => by
        by_cases e : j = k
        · subst e; rw [hx] at hy; obtain rfl := Option.some.inj hy; exact hv
        · exact hB.out j y (by omega) hy
      obtain ⟨pn, ⟨⟨xe, xc, xi⟩, xg⟩, gone⟩ := x
      simp only at k0
      clear k1 k2 k3 k4 k5 hx
      by_cases h0 : pn < 0
      · have b0 : decide (pn < 0) = true := by simpa using h0
        clear H2
        go_wp2
        go_ret3
        exact ⟨rfl, HB0.out⟩
      · have b0 : decide (pn < 0) = false := by simpa using h0
        by_cases h1 : 4095 < pn
        · have b1 : decide (4095 < pn) = true := by simpa using h1
          clear H2
          go_wp2
          go_ret3
          exact ⟨rfl, HB0.out⟩
        · have b1 : decide (4095 < pn) = false := by simpa using h1
          have H3 := Lib.hid (H2.out ⟨by simp only; omega, by simp only; omega⟩)
          clear H2
          go_wp2
          go_roundw
          case rel => exact ⟨k + 1, by omega, by go_num, trivial, H3.out⟩
          case measure => simp [intOf]; omega
    · obtain rfl : k = len := by omega
      exact absurd (fun x hx => by
        obtain ⟨j, hj, rfl⟩ := List.mem_iff_getElem.1 hx
        exact hB.out j _ (by have := HL.out.1.1; omega) (List.getElem?_eq_getElem hj)) HL.out.2
/-- behind some changes -/
structure PbI (w1 wr : World) (c : List Pr) (l : List ChD) (j : Nat) (v : Value) : Prop where
  own : wr.ownsRow w1.heap.size 88 5 v (withs c (l.take j)).length (flatP (withs c (l.take j)))
  bel : Below w1.heap.size w1 wr
def xpubPost (ww : World) (B xb mx last : Nat) (E : List XE) (e : XE) (l : List ChD) (r : Ending) (w' : World) : Prop :=
  ∃ (a : Option Addr) (len cap b : Nat) (sv : Value), r = .returned (.tuple #[.int .u64 ((last + 1 : Nat) : Int), .slice a len cap, .int .i64 0]) ∧ xgonePost ww B xb mx (last + 1) E (eswp (E ++ [⟨last + 1, b, sv, withs e.l l, 0⟩]) (last + 1) e) a len w' ∧
    ∀ c, xown xb mx (eswp (E ++ [⟨last + 1, b, sv, withs e.l l, 0⟩]) (last + 1) e) c → xown xb mx E c ∨ ww.heap.size ≤ c
theorem eB_app (xb mx : Nat) (E : List XE) (x : XE) : eB xb mx (E ++ [x]) = eB xb mx E ++ [x.b] := by unfold eB; simp
theorem eget_app (hv : eget E n = some e) (x : XE) : eget (E ++ [x]) n = some e := by
  unfold eget at *
  rw [List.find?_append, hv]; rfl
theorem XOk.app (h : XOk E) (hE : E.length ≤ 150) {x : XE} (hx : x.l.length ≤ 4096 ∧ ∀ p, p ∈ x.l → p.2.s.ok) : XOk (E ++ [x]) := ⟨by simp; omega, fun y hy => by
  rcases List.mem_append.1 hy with hy | hy
  · exact h.l y hy
  · simp only [List.mem_singleton] at hy; subst hy; exact hx⟩
set_option maxRecDepth 100000 in
set_option maxHeartbeats 8000000 in
theorem xpub_fn (h : XAt B ww xb mx last E) (hO : XOk E) (hE : E.length ≤ 150) (hB : B ≤ ww.heap.size) (hlast : last ≤ 2 ^ 40) (hlt : ∀ x, x ∈ E → x.n ≤ last) (hv : eget E last = some e) (a : Option Addr) (len cap : Nat) (l : List ChD) (hl : ChsAt ww a len l) (hok : ∀ x, x ∈ l → x.ok) (hn : len ≤ 1048576) (hval : ∀ x, x ∈ l → x.val)
    (hw : ∀ j, (withs e.l (l.take j)).length ≤ 4096 ∧ ∀ p, p ∈ withs e.l (l.take j) → p.2.s.ok) :
    Calls Tryz.prog 25 #[.pointer (some ⟨xb, 0, none⟩), .int .u64 (last : Nat), .slice a len cap] ww (xpubPost ww B xb mx last E e l) := by
  obtain ⟨he, hen⟩ := eget_some hv
  have c1 := h.c1
  have HX := Lib.hid h
  have HL := Lib.hid (And.intro hl (And.intro hok hval))
  have hll := hl.1
  have HW := Lib.hid hw
  have CS1 : Hid (Calls Tryz.prog 15 #[.pointer (some ⟨xb, 0, none⟩)] ww (xslotsPost (xslot E) ww)) := xslots_fn h hO.len hO.l
  have HF : Hid (∀ wz, Below ww.heap.size ww wz → wz.cell? ⟨xb, 0, none⟩ = some (.map (some mx)) ∧ (Instr.lookup 35 (.map (some mx)) (.int .u64 (last : Nat)) false).run Tryz.prog wz = .ok (.pointer (some ⟨e.b, 0, none⟩)) wz ∧ wz.cell? ⟨e.b, 0, none⟩ = some e.sv ∧ wz.ownsRow B 88 5 e.sv e.l.length (flatP e.l)) := fun wz hb => by
    have hx := h.calm hb
    have hlk := hx.look (n := last) (by omega)
    rw [hv] at hlk
    exact ⟨hx.c0, hlk, hx.v0 he, hx.row e he⟩
  have HE := Lib.hid (And.intro he (And.intro hen hlt))
  have HO := Lib.hid hO
  have hel := (hO.l e he).1
  have hbl := hB
  clear h hO hv he hen hl hok hval hw hlt
  go_enter Tryz.func25, Tryz.ntmps25
  go_wp2
  go_loopw [9] (fun v wr => ∃ k : Nat, k ≤ len ∧ v = .int .i64 k ∧ wr = ww) (fun v _ => len - (intOf v).toNat)
  case atStart => exact ⟨0, Nat.zero_le _, rfl, rfl⟩
  case round =>
    obtain ⟨k, hk, rfl, hww⟩ := hrel
    rw [hww]
    clear hww
    by_cases hlt : k < len
    · obtain ⟨pb, poff, x, rfl, hpb, hx, k0, k1, k2, k3, k4, k5⟩ := ChsAt.cells HL.out.1 k hlt
      obtain ⟨v0, v1⟩ := HL.out.2.2 _ (List.mem_of_getElem? hx)
      obtain ⟨pn, ⟨⟨xe, xc, xi⟩, xg⟩, gone⟩ := x
      simp only at k0 v0 v1
      have b0 : decide (pn < 0) = false := by simpa using v0
      have b1 : decide (4095 < pn) = false := by simp; omega
      clear k1 k2 k3 k4 k5 hx
      go_wp2
      go_roundw
      case rel => exact ⟨k + 1, by omega, by go_num, trivial⟩
      case measure => simp [intOf]; omega
    · obtain rfl : k = len := by omega
      clear hlt hk c1
      go_upto_region 9 with (first
        | (go_at_call 15; ((with_reducible refine CS1.out.mono ?_); rintro r w1 ⟨v1, xs, rfl, hx1, ho1, hb1⟩; have X1 := Lib.hid (And.intro hx1 (And.intro ho1 hb1)); clear hx1 ho1 hb1 CS1)))
      obtain ⟨f0, f1, f2, f3⟩ := HF.out (w1.alloc (.cells #[] 88)) (X1.out.2.2.trans (((Turned.refl [] w1).alloc _).below.mono X1.out.2.2.size))
      have HFr := Lib.hid f3
      clear f3
      go_wp2_with (first
        | (at_builtin; refine wpList_append_prs rfl _ _ rfl w1.heap.size _ rfl (owns_emptyp w1) B e.sv e.l.length e.l rfl HFr.out (by omega) (by simp) ?_; intro v3 w3 ho3 hg3; have P3 : Hid (PbI w1 w3 e.l l 0 v3) := ⟨ho3, below_app2 hg3⟩; clear ho3 hg3 f0 f1 f2))
      go_loopw [11, 12] (fun xv v wr => ∃ j : Nat, j ≤ k ∧ v = .int .i64 j ∧ Hid (PbI w1 wr e.l l j xv)) (fun _ v _ => k - (intOf v).toNat)
      case atStart => exact ⟨0, Nat.zero_le _, rfl, P3.out⟩
      case round =>
        obtain ⟨j, hj, rfl, hB⟩ := hrel
        clear P3
        have HBw : Hid (Below ww.heap.size ww wr) := X1.out.2.2.trans (hB.out.bel.mono X1.out.2.2.size)
        by_cases hlt : j < k
        · obtain ⟨pb, poff, x, rfl, hpb, hx, k0, k1, k2, k3, k4, k5⟩ := ChsAt.cells (RowsAt.below HL.out.1 HBw.out) j hlt
          obtain ⟨v0, v1⟩ := HL.out.2.2 _ (List.mem_of_getElem? hx)
          have hsn := take_snoc hx
          obtain ⟨a5, cap5, rfl, hsl, _⟩ := sl5_of_owns hB.out.own
          have hwl := (HW.out j).1
          obtain ⟨pz, ⟨⟨xe, xc, xi⟩, xg⟩, gone⟩ := x
          simp only at k0 k1 k2 k3 k4 k5 v0 v1
          obtain ⟨pn, rfl⟩ : ∃ pn : Nat, pz = pn := ⟨pz.toNat, by omega⟩
          have CW : Hid (Calls Tryz.prog 41 #[.slice a5 (withs e.l (l.take j)).length cap5, .agg #[.int .i64 (pn : Nat), .int .i64 xe, .int .i64 xc, .int .i64 xi, .int .i64 xg, .bool gone]] wr fun r w' => ∃ v, r = .returned v ∧ PbI w1 w' e.l l (j + 1) v) := by
            refine (xwith_fn a5 _ cap5 (withs e.l (l.take j)) pn ⟨⟨xe, xc, xi⟩, xg⟩ gone wr hsl (by omega)).mono fun r w' ⟨v, e1, e2, e3, e4⟩ => ⟨v, e1, ?_, hB.out.bel.trans (e4.mono hB.out.bel.size)⟩
            rw [hsn, withs_snoc]
            exact owns_mono e2 hB.out.bel.size
          generalize (withs e.l (l.take j)).length = wl at *
          clear hB hsn hsl hx hwl
          go_wp2_with (go_at_call 41; ((with_reducible refine CW.out.mono ?_); rintro r w5 ⟨v5, rfl, h5⟩; have P5 := Lib.hid h5; clear h5 CW))
          go_roundw
          case rel => exact ⟨j + 1, by omega, by go_num, P5.out⟩
          case measure => simp [intOf]; omega
        · obtain rfl : j = k := by omega
          have hlk : l.take j = l := List.take_of_length_le (by omega)
          have hown := hB.out.own
          have hwl := HW.out j
          rw [hlk] at hown hwl
          obtain ⟨a5, cap5, rfl, _, hblk⟩ := sl5_of_owns hown
          have hXr := HX.out.calm HBw.out
          have hXl := hXr.setLast (last + 1)
          rw [← cast_succU] at hXl
          have tl : Turned (eB xb mx E) wr (wr.setCell ⟨xb, 1, none⟩ (.int .u64 ((last : Int) + 1))) := (Turned.refl _ wr).setCell (p := ⟨xb, 1, none⟩) (.inl (by simp [eB])) _
          have g1 := hXr.c1
          have z1 := hXr.fz 1
          have hwu : IntKind.u64.wrap ((last : Int) + 1) = (last : Int) + 1 := by rw [wrapU]; omega
          have HWl := Lib.hid hwl
          have HXl := Lib.hid hXl
          have HTl := Lib.hid tl
          have HOw := Lib.hid hown
          have HBk := Lib.hid hblk
          have HBb := Lib.hid hB.out.bel
          clear hown hwl hblk hXr hXl tl hlk hB hlt hj
          go_upto_region 15 with fail
          have hws : (wr.setCell ⟨xb, 1, none⟩ (.int .u64 ((last : Int) + 1))).heap.size = wr.heap.size := by simp [World.setCell]
          generalize wr.setCell ⟨xb, 1, none⟩ (.int .u64 ((last : Int) + 1)) = wn at *
          clear g1 z1
          have hXn := HXl.out
          have d0 := hXn.c0
          have d1 := hXn.c1
          rw [← cast_succU] at d1
          have hmapB : MapIs Tryz.prog 23 encU (wn.alloc (xvobj (.slice a5 (withs e.l l).length cap5) 0)).drew mx (eM E) := (hXn.map.alloc _).drew
          obtain ⟨ky, hky⟩ := keyU (last + 1) (by omega)
          obtain ⟨w6, hrun, hm6, ht6⟩ := hmapB.run_put keyedU encU_inj Tryz.underlying35 (last + 1) hky (ptrV wn.heap.size)
          have hrun2 : (Instr.mapUpdate 35 (.map (some mx)) (.int .u64 ((last : Int) + 1)) (.pointer (some ⟨wn.heap.size, 0, none⟩))).run Tryz.prog (wn.alloc (.cells #[.slice a5 (withs e.l l).length cap5, .int .i64 0] 58)).drew = .ok () w6 := by
            rw [cast_succU]; exact hrun
          have htn : Turned [mx] wn w6 := (((Turned.refl [mx] wn).alloc (xvobj (.slice a5 (withs e.l l).length cap5) 0)).drew).trans ht6
          have hmne : mx ≠ wn.heap.size := by have := hXn.map.lt; omega
          have hB6 : w6.heap[wn.heap.size]? = some (xvobj (.slice a5 (withs e.l l).length cap5) 0) := ht6.at (World.alloc_heap_new wn _) (by simpa using hmne.symm)
          have hmxB : mx ∈ eB xb mx E := by simp [eB]
          have hsz1 : ww.heap.size ≤ w1.heap.size := X1.out.2.2.size
          have hszr : w1.heap.size ≤ wr.heap.size := HBb.out.size
          have heBlt : ∀ c, c ∈ eB xb mx E → c < ww.heap.size := fun c hc => HX.out.at_b hc
          have ho5 : ∀ c, (Value.slice a5 (withs e.l l).length cap5).ownBlock = some c → w1.heap.size ≤ c ∧ c < wr.heap.size := fun c hc => by
            cases a5 with
            | none => simp [Value.ownBlock] at hc
            | some p => simp only [Value.ownBlock, Option.some.injEq] at hc; subst hc; exact HBk.out p rfl
          have tn6 : Turned (eB xb mx E) wr w6 := HTl.out.trans (htn.mono fun c _ hc => by simp only [List.mem_singleton] at hc; subst hc; exact hmxB)
          have hrow6 : w6.ownsRow B 88 5 (.slice a5 (withs e.l l).length cap5) (withs e.l l).length (flatP (withs e.l l)) := owns_mono (owns_same HOw.out fun c hc => tn6.block c (ho5 c hc).2 fun hm => by have := heBlt c hm; have := (ho5 c hc).1; omega) (by omega)
          have hX6 := hXn.add (n := last + 1) (fun x hx => by have := HE.out.2.2 x hx; omega) htn (Nat.le_refl _) hB6 hm6 hrow6 (fun c hc => ⟨fun hm => by have := heBlt c hm; have := (ho5 c hc).1; omega, by have := (ho5 c hc).2; omega⟩) (by omega)
          have hv6 : eget (E ++ [⟨last + 1, wn.heap.size, .slice a5 (withs e.l l).length cap5, withs e.l l, 0⟩]) last = some e := eget_app (by rw [← HE.out.2.1]; exact eget_mem HX.out.keys HE.out.1) _
          have T16 : Turned (eB xb mx E) w1 w6 := ((Turned.of_below HBb.out).mono (fun _ _ h => by cases h)).trans tn6
          have K6 : Hid (w6.cell? ⟨xb, 0, none⟩ = some (.map (some mx)) ∧ w6.cell? ⟨xb, 1, none⟩ = some (.int .u64 ((last : Int) + 1))) := ⟨hX6.c0, by rw [cast_succU]; exact hX6.c1⟩
          have HO2 : Hid (XOk (eswp (E ++ [⟨last + 1, wn.heap.size, .slice a5 (withs e.l l).length cap5, withs e.l l, 0⟩]) (last + 1) e)) := (HO.out.app hE HWl.out).swp _ _
          have CSw : Hid (Calls Tryz.prog 42 #[.pointer (some ⟨xb, 0, none⟩), .int .u64 (last : Nat)] w6 fun r w' => r = .returned (.tuple #[]) ∧ w'.cell? ⟨xb, 1, none⟩ = some (.int .u64 ((last : Int) + 1)) ∧ XAt B w' xb mx (last + 1) (eswp (E ++ [⟨last + 1, wn.heap.size, .slice a5 (withs e.l l).length cap5, withs e.l l, 0⟩]) (last + 1) e) ∧ Turned (eB xb mx E) w1 w') := by
            refine (xsweep_fn hX6 (by omega) hv6).mono fun r w' ⟨e1, e2, e3⟩ => ⟨e1, by rw [cast_succU]; exact e2.c1, e2, ?_⟩
            rw [eB_app] at e3
            exact ((T16.mono (fun _ _ h => List.mem_append.2 (.inl h))).trans e3).mono fun c hc hm => by
              rcases List.mem_append.1 hm with hm | hm
              · exact hm
              · simp only [List.mem_singleton] at hm; omega
          have CS2 : Hid (∀ wz, XAt B wz xb mx (last + 1) (eswp (E ++ [⟨last + 1, wn.heap.size, .slice a5 (withs e.l l).length cap5, withs e.l l, 0⟩]) (last + 1) e) → Calls Tryz.prog 15 #[.pointer (some ⟨xb, 0, none⟩)] wz (xslotsPost (xslot (eswp (E ++ [⟨last + 1, wn.heap.size, .slice a5 (withs e.l l).length cap5, withs e.l l, 0⟩]) (last + 1) e)) wz)) := fun wz hx => xslots_fn hx HO2.out.len HO2.out.l
          have HOwn : Hid (∀ w', Turned (eB xb mx E) w1 w' → w'.ownsRow ww.heap.size 45 3 v1 xs.length (flat xs)) := fun w' t => owns_turned X1.out.2.1 t fun c hc => heBlt c hc
          have HNew : Hid (∀ c, xown xb mx (eswp (E ++ [⟨last + 1, wn.heap.size, .slice a5 (withs e.l l).length cap5, withs e.l l, 0⟩]) (last + 1) e) c → xown xb mx E c ∨ ww.heap.size ≤ c) := fun c hc => by
            rcases xown_eswp hc with hc | ⟨y, hy, hc⟩
            · rw [eB_app] at hc
              rcases List.mem_append.1 hc with hc | hc
              · exact .inl (.inl hc)
              · simp only [List.mem_singleton] at hc; right; omega
            · rcases List.mem_append.1 hy with hy | hy
              · exact .inl (.inr ⟨y, hy, hc⟩)
              · simp only [List.mem_singleton] at hy; subst hy
                have := (ho5 c hc).1
                right; omega
          have c6 := K6.out.2
          have HPst : Hid (∀ a len cap w', xgonePost ww B xb mx (last + 1) E (eswp (E ++ [⟨last + 1, wn.heap.size, .slice a5 (withs e.l l).length cap5, withs e.l l, 0⟩]) (last + 1) e) a len w' → xpubPost ww B xb mx last E e l (.returned (.tuple #[.int .u64 ((last : Int) + 1), .slice a len cap, .int .i64 0])) w') := fun a len cap w' hp => ⟨a, len, cap, _, _, by rw [cast_succU], hp, HNew.out⟩
          have HTw : Hid (Turned (eB xb mx E) ww w1) := (Turned.of_below X1.out.2.2).mono fun _ _ h => by cases h
          generalize eswp (E ++ [⟨last + 1, wn.heap.size, .slice a5 (withs e.l l).length cap5, withs e.l l, 0⟩]) (last + 1) e = E2 at *
          clear hXn hmapB hky hrun htn hmne hB6 hmxB hsz1 hszr heBlt ho5 tn6 hrow6 hX6 hv6 T16 hm6 ht6 c6 hws HOw HBk HWl HXl HTl HBb HBw HNew HW HE HX HF HL HFr
          go_region_held3 (fun w' => w'.cell? ⟨xb, 0, none⟩ = some (.map (some mx)) ∧ w'.cell? ⟨xb, 1, none⟩ = some (.int .u64 ((last : Int) + 1))) (first | exact K6.out | go_keep) (fail)
          clear hrun2 d0 d1
          have c6 := K6.out.2
          go_upto_region 17 with (first
            | (go_at_call 42; ((with_reducible refine CSw.out.mono ?_); rintro r w7 ⟨rfl, hc7, hx7, ht7⟩; have S7 := Lib.hid (And.intro hc7 (And.intro hx7 ht7)); clear hx7 ht7 CSw)))
          have c7 := S7.out.1
          have HX7 : Hid (XAt B w7.drew xb mx (last + 1) E2) := S7.out.2.1.calm (Turned.refl [] w7).drew.below
          have T7 : Hid (Turned (eB xb mx E) w1 w7.drew) := S7.out.2.2.drew
          clear c6 K6 hc7
          go_region_held3 (fun w' => w'.cell? ⟨xb, 1, none⟩ = some (.int .u64 ((last : Int) + 1))) (first | exact K9.out | exact K8.out | go_keep)
            (first
              | (go_at_call 15; ((with_reducible refine (CS2.out _ HX7.out).mono ?_); rintro r w8 ⟨v2, zs, rfl, hz8, ho8, hb8⟩; have S8 := Lib.hid (And.intro hz8 (And.intro ho8 hb8)); have K8 : Hid (w8.cell? ⟨xb, 1, none⟩ = some (.int .u64 ((last : Int) + 1))) := (by have h8 := (HX7.out.calm S8.out.2.2).c1; rw [← cast_succU] at h8; exact h8); clear hz8 ho8 hb8 CS2))
              | (go_at_call 43; (have hT8 : Turned (eB xb mx E) w1 w8 := T7.out.trans ((Turned.of_below S8.out.2.2).mono fun _ _ h => (by cases h))); (have hh := xgone_end HO.out HO2.out (HX7.out.calm S8.out.2.2) (HTw.out.trans hT8) (HOwn.out _ hT8) X1.out.1 S8.out.2.1 S8.out.1 (Nat.le_trans (slots_len HO.out X1.out.1) (by omega))); (with_reducible refine hh.mono ?_); clear hh; rintro r w9 ⟨a9, len9, cap9, rfl, hp9⟩; have S9 := Lib.hid (HPst.out a9 len9 cap9 w9 hp9); have K9 : Hid (w9.cell? ⟨xb, 1, none⟩ = some (.int .u64 ((last : Int) + 1))) := (by obtain ⟨_, _, _, _, hq, _⟩ := hp9; have h9 := hq.c1; rw [← cast_succU] at h9; exact h9); clear hp9))
          go_wp2
          go_ret3
          exact S9.out
end Go.Proofs.YtmpbhoijkcanmaaGreat.R
