/- Maps of pages, and versions of them: lemmas, part 14 of 23. -/
import Derived.Deep.QuietTactic
import Derived.Test.YtmpbhoijkcanmaaGreatQ13

/- Versions as lists, the document's answer: the first one; holding; the sweep; getting. -/
namespace Go.Proofs.YtmpbhoijkcanmaaGreat.R
open Go.ChangeShapes Go.WideShapes Go.ChangeAt Go.RowKit Go.Maps Go.Proofs.YtmpbhoijkcanmaaGreat.G Go.Joins
set_option linter.unusedVariables false
set_option linter.unusedSimpArgs false
set_option linter.unnecessarySimpa false

variable {w ww w' : World} {xb mx last B n k : Nat} {E : List XE} {e : XE}
theorem xown_one {xb mx b : Nat} {c : Nat} (h : xown xb mx [⟨0, b, .slice none 0 0, [], 0⟩] c) : c = xb ∨ c = mx ∨ c = b := by
  rcases h with h | ⟨x, hx, hb⟩
  · simpa [eB] using h
  · simp only [List.mem_singleton] at hx; subst hx; simp [Value.ownBlock] at hb
theorem xnew_at {w1 w3 : World} (hB : B ≤ w.heap.size) (hm : MapIs Tryz.prog 23 encU w3 w.heap.size (mput ([] : List (Nat × Value)) 0 (ptrV (w.heap.size + 2)))) (h1 : ((w.alloc (.map #[] 0)).alloc (xobj w.heap.size 0)).alloc (xvobj (.slice none 0 0) 0) = w1) (t : Turned [w.heap.size] w1 w3) :
    XAt B w3 (w.heap.size + 1) w.heap.size 0 [⟨0, w.heap.size + 2, .slice none 0 0, [], 0⟩] ∧ Below w.heap.size w w3 := by
  have e1 : w1.heap[w.heap.size + 1]? = some (xobj w.heap.size 0) := by
    rw [← h1]
    have := World.alloc_heap_new (w.alloc (.map #[] 0)) (xobj w.heap.size 0)
    rw [World.size_alloc] at this
    exact ((Turned.refl [] _).alloc (xvobj (.slice none 0 0) 0)).at this (by simp)
  have e2 : w1.heap[w.heap.size + 2]? = some (xvobj (.slice none 0 0) 0) := by
    rw [← h1]
    have := World.alloc_heap_new ((w.alloc (.map #[] 0)).alloc (xobj w.heap.size 0)) (xvobj (.slice none 0 0) 0)
    rw [World.size_alloc, World.size_alloc] at this
    exact this
  refine ⟨⟨t.at e1 (by simp), hm, fun e he => ?_, fun e he => ?_, by simp [eB], fun e he b hb => ?_, fun b hb => ?_⟩, ?_⟩
  · simp only [List.mem_singleton] at he; subst he; exact t.at e2 (by simp)
  · simp only [List.mem_singleton] at he; subst he; exact ⟨rfl, .inl ⟨rfl, rfl⟩⟩
  · simp only [List.mem_singleton] at he; subst he; simp [Value.ownBlock] at hb
  · simp [eB] at hb; omega
  · have hb : Below w.heap.size w w1 := by rw [← h1]; exact (((Turned.refl [] w).alloc _).alloc _).alloc _ |>.below
    exact Turned.below_of hb t (by simp)
set_option maxRecDepth 100000 in
theorem xnew_fn (B : Nat) (w : World) (hB : B ≤ w.heap.size) : Calls Tryz.prog 7 #[] w fun e w' => ∃ xb mx b, e = .returned (.pointer (some ⟨xb, 0, none⟩)) ∧ XAt B w' xb mx 0 [⟨0, b, .slice none 0 0, [], 0⟩] ∧ Below w.heap.size w w' ∧ ∀ c, xown xb mx [⟨0, b, .slice none 0 0, [], 0⟩] c → w.heap.size ≤ c := by
  have hmm := @run_makeMap Tryz.prog
  have HM : Hid (MapIs Tryz.prog 23 encU (((w.alloc (.map #[] 0)).alloc (xobj w.heap.size 0)).alloc (xvobj (.slice none 0 0) 0)) w.heap.size ([] : List (Nat × Value))) := ((MapIs.made w).alloc _).alloc _
  obtain ⟨ky, hky⟩ := keyU 0 (by omega)
  have HKK := Lib.hid hky
  have HE : Hid (∀ w3, MapIs Tryz.prog 23 encU w3 w.heap.size (mput ([] : List (Nat × Value)) 0 (ptrV (w.heap.size + 2))) → Turned [w.heap.size] (((w.alloc (.map #[] 0)).alloc (xobj w.heap.size 0)).alloc (xvobj (.slice none 0 0) 0)) w3 → XAt B w3 (w.heap.size + 1) w.heap.size 0 [⟨0, w.heap.size + 2, .slice none 0 0, [], 0⟩] ∧ Below w.heap.size w w3) := fun w3 h1 h2 => xnew_at hB h1 rfl h2
  clear hky
  go_enter Tryz.func7, Tryz.ntmps7
  go_wp2_with (first
    | (at_mapUpdate; refine wp_put _ rfl _ _ _ 35 rfl keyedU encU_inj Tryz.underlying35 w.heap.size [] rfl HM.out 0 rfl _ rfl HKK.out ?_; intro w3 hm3 ht3; have S3 := Lib.hid (HE.out w3 hm3 ht3); clear hm3 ht3))
  go_ret
  exact ⟨_, _, _, rfl, S3.out.1, S3.out.2, fun c hc => by rcases xown_one hc with rfl | rfl | rfl <;> omega⟩
set_option maxRecDepth 100000 in
theorem xhold_no (h : XAt B ww xb mx last E) (hn : n < 2 ^ 64) (hv : eget E n = none) : Calls Tryz.prog 26 #[.pointer (some ⟨xb, 0, none⟩), .int .u64 (n : Nat)] ww fun e w' => e = .returned (.int .i64 3) ∧ ww = w' := by
  have c0 := h.c0
  have hlk := h.look hn
  rw [hv] at hlk
  clear h hv
  go_enter Tryz.func26, Tryz.ntmps26
  go_wp2
  go_ret
  exact ⟨rfl, rfl⟩
set_option maxRecDepth 100000 in
theorem xhold_yes (h : XAt B ww xb mx last E) (hn : n < 2 ^ 64) (hv : eget E n = some e) (hs : e.held ≤ 2 ^ 40) : Calls Tryz.prog 26 #[.pointer (some ⟨xb, 0, none⟩), .int .u64 (n : Nat)] ww fun r w' => r = .returned (.int .i64 0) ∧ XAt B w' xb mx last (ehold E n (e.held + 1)) ∧ Turned (eB xb mx E) ww w' := by
  have c0 := h.c0
  have hlk := h.look hn
  rw [hv] at hlk
  obtain ⟨he, rfl⟩ := eget_some hv
  have d1 := h.v1 he
  have f1 := h.vfz he 1
  have HS : Hid (XAt B (ww.setCell ⟨e.b, 1, none⟩ (.int .i64 ((e.held : Int) + 1))) xb mx last (ehold E e.n (e.held + 1)) ∧ Turned (eB xb mx E) ww (ww.setCell ⟨e.b, 1, none⟩ (.int .i64 ((e.held : Int) + 1)))) := by
    have h1 := h.setHeld he (e.held + 1)
    rw [← cast_succ] at h1
    exact ⟨h1, (Turned.refl _ ww).setCell (.inl (h.mem_b he)) _⟩
  have hw1 : IntKind.i64.wrap ((e.held : Int) + 1) = (e.held : Int) + 1 := IntWalk.i64_in _ (by omega)
  unfold ptrV at hlk
  simp only at hlk
  generalize ehold E e.n (e.held + 1) = E' at *
  generalize eB xb mx E = bs at *
  generalize e.b = bn at *
  generalize e.held = hd at *
  generalize e.n = nn at *
  clear h hv he
  go_enter Tryz.func26, Tryz.ntmps26
  go_wp2
  go_ret
  exact ⟨rfl, HS.out⟩
/-- the sweep -/
def eswp (E : List XE) (last : Nat) (e : XE) : List XE := if e.n ≠ last ∧ e.held = 0 then edel E e.n else E
theorem xown_eswp {b : Nat} (h : xown xb mx (eswp E last e) b) : xown xb mx E b := by
  unfold eswp at h
  split at h
  · exact xown_edel h
  · exact h
set_option maxRecDepth 100000 in
set_option maxHeartbeats 1000000 in
theorem xsweep_fn (h : XAt B ww xb mx last E) (hn : n < 2 ^ 64) (hv : eget E n = some e) : Calls Tryz.prog 42 #[.pointer (some ⟨xb, 0, none⟩), .int .u64 (n : Nat)] ww fun r w' => r = .returned (.tuple #[]) ∧ XAt B w' xb mx last (eswp E last e) ∧ Turned (eB xb mx E) ww w' := by
  have c0 := h.c0
  have c1 := h.c1
  have hlk := h.look hn
  rw [hv] at hlk
  obtain ⟨he, rfl⟩ := eget_some hv
  have d1 := h.v1 he
  have HK : Hid (∀ m, ¬ (e.n ≠ last ∧ e.held = 0) → XAt B (ww.drewN m) xb mx last (eswp E last e) ∧ Turned (eB xb mx E) ww (ww.drewN m)) := fun m hc => by
    unfold eswp
    rw [if_neg hc]
    exact ⟨h.calm ((Turned.refl [] ww).drewN m).below, (Turned.refl _ ww).drewN m⟩
  obtain ⟨ky, hky⟩ := keyU e.n hn
  have HKy := Lib.hid hky
  have HM := Lib.hid h.map
  have HD : Hid (∀ w2, (e.n ≠ last ∧ e.held = 0) → MapIs Tryz.prog 23 encU w2 mx (mdel (eM E) e.n) → Turned [mx] ww w2 → XAt B w2 xb mx last (eswp E last e) ∧ Turned (eB xb mx E) ww w2) := fun w2 hc hm ht => by
    unfold eswp
    rw [if_pos hc]
    exact ⟨h.del ht hm, ht.mono fun k _ hk => by simp at hk; subst hk; simp [eB]⟩
  unfold ptrV at hlk
  simp only at hlk
  generalize eswp E last e = E' at *
  generalize eB xb mx E = bs at *
  generalize e.b = bn at *
  generalize e.held = hd at *
  generalize e.n = nn at *
  clear h hv he hky
  by_cases hen : nn = last
  · have hbq : ((nn : Int) == (last : Int)) = true := by simp [hen]
    have HP := Lib.hid (fun m => HK.out m (by omega))
    clear HK HD
    go_enter Tryz.func42, Tryz.ntmps42
    go_wp2
    go_end0
    exact ⟨rfl, HP.out 0⟩
  have hbq : ((nn : Int) == (last : Int)) = false := by simp; omega
  by_cases hh : hd = 0
  · subst hh
    have HP := Lib.hid (fun w2 => HD.out w2 ⟨hen, rfl⟩)
    clear HK HD
    go_enter Tryz.func42, Tryz.ntmps42
    go_wp2_with (at_delete; refine wp_del _ rfl _ _ 35 23 rfl keyedU encU_inj Tryz.underlying35 mx (eM E) rfl HM.out nn rfl HKy.out ?_; intro w2 hm2 ht2; have S2 := Lib.hid (HP.out w2 hm2 ht2); clear hm2 ht2)
    go_end0
    exact ⟨rfl, S2.out⟩
  · have hbd : ((hd : Int) == 0) = false := by simp; omega
    have HP := Lib.hid (fun m => HK.out m (by omega))
    clear HK HD
    go_enter Tryz.func42, Tryz.ntmps42
    go_wp2
    go_end0
    exact ⟨rfl, HP.out 0⟩
/-- an entry of a list -/
def pget (l : List Pr) (pg : Int) : Option Ent := (l.find? fun p => decide ((p.1 : Int) = pg)).map (·.2)
theorem pget_at {l : List Pr} {pg : Int} {i : Nat} (hi : i < l.length) (h0 : ∀ j (h : j < l.length), j < i → (l[j].1 : Int) ≠ pg) (h : (l[i].1 : Int) = pg) : pget l pg = some l[i].2 := by
  unfold pget
  have : (l.find? fun p => decide ((p.1 : Int) = pg)) = some l[i] := by
    rw [List.find?_eq_some_iff_getElem]
    exact ⟨by simpa using h, i, hi, rfl, fun j hj => by simpa using h0 j (by omega) hj⟩
  rw [this]; rfl
theorem pget_none {l : List Pr} {pg : Int} (h0 : ∀ j (h : j < l.length), (l[j].1 : Int) ≠ pg) : pget l pg = none := by
  unfold pget
  have : (l.find? fun p => decide ((p.1 : Int) = pg)) = none := by
    rw [List.find?_eq_none]
    intro p hp
    obtain ⟨j, hj, rfl⟩ := List.mem_iff_getElem.1 hp
    simpa using h0 j hj
  rw [this]; rfl
/-- behind the result's variable -/
structure GvAt (ww w1 : World) (xb mx n : Nat) (v : Value) : Prop where
  c0 : w1.cell? ⟨xb, 0, none⟩ = some (.map (some mx))
  lk : (Instr.lookup 35 (.map (some mx)) (.int .u64 (n : Nat)) false).run Tryz.prog w1 = .ok v w1
  ea : EntAt w1 ww.heap.size ⟨⟨0, 0, 0⟩, 0⟩
  fz : ∀ j, w1.frozen? ⟨ww.heap.size, j, none⟩ = false
  bl : Below ww.heap.size ww w1
theorem XAt.gv (h : XAt B ww xb mx last E) (hn : n < 2 ^ 64) : GvAt ww (ww.alloc (varE 0 0 0 0)) xb mx n (match eget E n with | some e => ptrV e.b | none => .pointer none) := by
  have h1 : XAt B (ww.alloc (varE 0 0 0 0)) xb mx last E := h.calm ((Turned.refl [] ww).alloc _).below
  exact ⟨h1.c0, h1.look hn, ent_new ww 47 ⟨⟨0, 0, 0⟩, 0⟩, fun j => unfrozen_of_block (World.alloc_heap_new ww (varE 0 0 0 0)) j, ((Turned.refl [] ww).alloc _).below⟩
set_option maxRecDepth 100000 in
set_option maxHeartbeats 1000000 in
theorem xget_no (h : XAt B ww xb mx last E) (hn : n < 2 ^ 64) (pg : Int) (hv : eget E n = none) : Calls Tryz.prog 17 #[.pointer (some ⟨xb, 0, none⟩), .int .u64 (n : Nat), .int .i64 pg] ww (rgetPost ww zeroE false 3) := by
  have h1 := h.gv hn
  rw [hv] at h1
  have H1 := Lib.hid h1
  clear h h1 hv
  go_enter Tryz.func17, Tryz.ntmps17
  go_upto_region 1 with fail
  generalize ww.alloc (varE 0 0 0 0) = w1 at *
  obtain ⟨B9, hB9⟩ : ∃ B9, ww.heap.size = B9 := ⟨_, rfl⟩
  have HB9 := Lib.hid hB9
  have c0 := H1.out.c0
  have hlk := H1.out.lk
  have hnw := H1.out.ea
  have f0 := H1.out.fz
  have HBl := Lib.hid H1.out.bl
  rw [hB9] at hnw f0
  rw [hB9]
  clear H1 hB9
  have hp1 := hnw.put ⟨⟨0, 0, 0⟩, 0⟩
  have g0 := hnw.c0
  have g1 := hnw.c1
  have g2 := hnw.c2
  have g3 := hnw.c3
  simp only at g0 g1 g2 g3
  have q0 := f0 0
  have q1 := f0 1
  have q2 := f0 2
  have q3 := f0 3
  obtain ⟨p0, p1, p2, p3⟩ := hp1.1
  have HT := Lib.hid hp1.2
  unfold putE at p0 p1 p2 p3 HT
  simp only at p0 p1 p2 p3 HT
  clear hnw hp1 f0
  go_wp2
  have hbl := Turned.below_of HBl.out HT.out (by simp; have := HB9.out; omega)
  exact bodyPost_ret (v := .tuple #[.agg #[.int .i64 0, .int .i64 0, .int .i64 0, .int .i64 0], .bool false, .int .i64 3]) (by simp [results, Tryz.results17, go_sem, p0, p1, p2, p3]) rfl ⟨rfl, hbl⟩
set_option maxRecDepth 100000 in
set_option maxHeartbeats 2000000 in
theorem xget_yes (h : XAt B ww xb mx last E) (hn : n < 2 ^ 64) (pg : Int) (hv : eget E n = some e) (hl : e.l.length ≤ 1048576) : Calls Tryz.prog 17 #[.pointer (some ⟨xb, 0, none⟩), .int .u64 (n : Nat), .int .i64 pg] ww (rgetPost ww ((pget e.l pg).getD zeroE) (pget e.l pg).isSome 0) := by
  have h1 := h.gv hn
  rw [hv] at h1
  obtain ⟨he, -⟩ := eget_some hv
  have d0 := h.v0 he
  obtain ⟨a, cap, hsv, hsl, _⟩ := sl5_of_owns (h.row e he)
  rw [hsv] at d0
  have HSl : Hid (Sl5 ww a e.l.length e.l ∧ ww.cell? ⟨e.b, 0, none⟩ = some (.slice a e.l.length cap)) := ⟨hsl, d0⟩
  have h1 : GvAt ww (ww.alloc (varE 0 0 0 0)) xb mx n (.pointer (some ⟨e.b, 0, none⟩)) := h1
  have H1 := Lib.hid h1
  generalize e.l = l at *
  generalize e.b = bn at *
  obtain ⟨ln, hln⟩ : ∃ ln, l.length = ln := ⟨_, rfl⟩
  rw [hln] at HSl hl
  have HLn := Lib.hid hln
  clear h h1 hv he d0 hsv hsl hln
  go_enter Tryz.func17, Tryz.ntmps17
  go_upto_region 1 with fail
  generalize ww.alloc (varE 0 0 0 0) = w1 at *
  have HSl1 : Hid (Sl5 w1 a ln l) := HSl.out.1.turned (Turned.of_below H1.out.bl) (by simp)
  have d0 := (Turned.of_below H1.out.bl).cell HSl.out.2 (by simp)
  obtain ⟨B9, hB9⟩ : ∃ B9, ww.heap.size = B9 := ⟨_, rfl⟩
  have HB9 := Lib.hid hB9
  have c0 := H1.out.c0
  have hlk := H1.out.lk
  have hnw := H1.out.ea
  have f0 := H1.out.fz
  have HBl := Lib.hid H1.out.bl
  rw [hB9] at hnw f0
  rw [hB9]
  clear H1 hB9 HSl
  have HNw := Lib.hid hnw
  have g0 := hnw.c0
  have g1 := hnw.c1
  have g2 := hnw.c2
  have g3 := hnw.c3
  simp only at g0 g1 g2 g3
  have q0 := f0 0
  have q1 := f0 1
  have q2 := f0 2
  have q3 := f0 3
  clear hnw f0
  go_wp2
  go_loopw [10] (fun v wr => ∃ i : Nat, i ≤ ln ∧ v = .int .i64 (i : Nat) ∧ wr = w1 ∧ Hid (∀ j (h : j < l.length), j < i → (l[j].1 : Int) ≠ pg)) (fun v _ => ln - (intOf v).toNat)
  case atStart => exact ⟨0, Nat.zero_le _, rfl, rfl, fun j h hj => by omega⟩
  case round =>
    obtain ⟨i, hi, rfl, hww, h0⟩ := hrel
    rw [hww]
    clear hww
    by_cases hlt : i < ln
    · have hil : i < l.length := by rw [HLn.out]; exact hlt
      obtain ⟨b, off, rfl, k0, k1, k2, k3, k4⟩ := HSl1.out.at i hil
      by_cases hpg : (l[i].1 : Int) = pg
      · have HP : Hid (pget l pg = some l[i].2) := pget_at hil h0.out hpg
        have hpb : ((l[i].1 : Int) == pg) = true := by simpa using hpg
        generalize l[i] = x at *
        obtain ⟨xn, ⟨⟨xe, xc, xi⟩, xg⟩⟩ := x
        simp only at k0 k1 k2 k3 k4 hpb hpg HP
        subst hpg
        have hp1 := HNw.out.put ⟨⟨xe, xc, xi⟩, xg⟩
        obtain ⟨p0, p1, p2, p3⟩ := hp1.1
        have HT := Lib.hid hp1.2
        unfold putE at p0 p1 p2 p3 HT
        simp only at p0 p1 p2 p3 HT
        clear hp1 h0
        go_wp2
        have hbl := Turned.below_of HBl.out HT.out (by simp; have := HB9.out; omega)
        refine bodyPost_ret (v := .tuple #[.agg #[.int .i64 xe, .int .i64 xc, .int .i64 xi, .int .i64 xg], .bool true, .int .i64 0]) (by simp [results, Tryz.results17, go_sem, p0, p1, p2, p3]) rfl ?_
        rw [HP.out]
        exact ⟨rfl, hbl⟩
      · have hpb : ((l[i].1 : Int) == pg) = false := by simpa using hpg
        have H2 : Hid (∀ j (h : j < l.length), j < i + 1 → (l[j].1 : Int) ≠ pg) := fun j h hj => by
          by_cases e : j = i
          · subst e; exact hpg
          · exact h0.out j h (by omega)
        generalize l[i] = x at *
        obtain ⟨xn, ⟨⟨xe, xc, xi⟩, xg⟩⟩ := x
        simp only at k0 k1 k2 k3 k4 hpb
        clear hpg h0
        go_wp2
        go_roundw
        case rel => exact ⟨i + 1, by omega, by go_num, trivial, H2.out⟩
        case measure => simp [intOf]; omega
    · obtain rfl : i = ln := by omega
      have HP : Hid (pget l pg = none) := pget_none fun j hj => h0.out j hj (by rw [← HLn.out]; exact hj)
      have hp1 := HNw.out.put ⟨⟨0, 0, 0⟩, 0⟩
      obtain ⟨p0, p1, p2, p3⟩ := hp1.1
      have HT := Lib.hid hp1.2
      unfold putE at p0 p1 p2 p3 HT
      simp only at p0 p1 p2 p3 HT
      clear hp1 h0
      go_wp2
      have hbl := Turned.below_of HBl.out HT.out (by simp; have := HB9.out; omega)
      refine bodyPost_ret (v := .tuple #[.agg #[.int .i64 0, .int .i64 0, .int .i64 0, .int .i64 0], .bool false, .int .i64 0]) (by simp [results, Tryz.results17, go_sem, p0, p1, p2, p3]) rfl ?_
      rw [HP.out]
      exact ⟨rfl, hbl⟩
end Go.Proofs.YtmpbhoijkcanmaaGreat.R

/- Versions as lists, the document's answer: a list with one entry otherwise. -/
namespace Go.Proofs.YtmpbhoijkcanmaaGreat.R
open Go.ChangeShapes Go.WideShapes Go.ChangeAt Go.RowKit Go.Maps Go.Proofs.YtmpbhoijkcanmaaGreat.G
set_option linter.unusedVariables false
set_option linter.unusedSimpArgs false
set_option linter.unnecessarySimpa false

variable {w ww w' : World}
/-- one entry of the list, what is made of it -/
def wone (pg : Nat) (x : Ent) (s : List Pr × Bool) (q : Nat) : List Pr × Bool := if (!s.2 && decide (pg ≤ q)) = true then (s.1 ++ [(pg, x)], true) else s
def wstep (pg : Nat) (x : Ent) (s : List Pr × Bool) (p : Pr) : List Pr × Bool := if p.1 = pg then wone pg x s p.1 else ((wone pg x s p.1).1 ++ [p], (wone pg x s p.1).2)
def wfold (pg : Nat) (x : Ent) (gone : Bool) (l : List Pr) : List Pr × Bool := l.foldl (wstep pg x) ([], gone)
def withL (pg : Nat) (x : Ent) (gone : Bool) (l : List Pr) : List Pr := if (wfold pg x gone l).2 = true then (wfold pg x gone l).1 else (wfold pg x gone l).1 ++ [(pg, x)]
theorem wfold_take (pg : Nat) (x : Ent) (gone : Bool) (l : List Pr) (i : Nat) (h : i < l.length) : wfold pg x gone (l.take (i + 1)) = wstep pg x (wfold pg x gone (l.take i)) l[i] := by
  unfold wfold
  rw [List.take_succ_eq_append_getElem h, List.foldl_append]
  rfl
abbrev boxC (pg : Nat) (x : Ent) (gone : Bool) : Obj := .cells #[.int .i64 (pg : Nat), .int .i64 x.s.e, .int .i64 x.s.c, .int .i64 x.s.i, .int .i64 x.g, .bool gone] 64 (0, 0)
structure WiS (w wr : World) (pg : Nat) (x : Ent) (gone : Bool) (v : Value) (o : List Pr) (m : Nat) : Prop where
  own : wr.ownsRow (w.heap.size + 1) 88 5 v o.length (flatP o)
  len : o.length ≤ m
  bel : Below (w.heap.size + 1) (w.alloc (boxC pg x gone)) wr
variable {pg m : Nat} {x : Ent} {gone : Bool} {v : Value} {o : List Pr} {wr : World}
theorem WiS.turn (h : WiS w wr pg x gone v o m) (t : Below wr.heap.size wr w') : WiS w w' pg x gone v o m :=
  ⟨owns_turned h.own (Turned.of_below t) (by simp), h.len, h.bel.trans (t.mono (by have := h.bel.size; simpa using this))⟩
theorem WiS.drewN (h : WiS w wr pg x gone v o m) (k : Nat) : WiS w (wr.drewN k) pg x gone v o m := h.turn ((Turned.refl [] wr).drewN k).below
theorem WiS.box (h : WiS w wr pg x gone v o m) : wr.heap[w.heap.size]? = some (boxC pg x gone) := by
  rw [h.bel.block _ (by omega)]
  exact World.alloc_heap_new w _
theorem WiS.old (h : WiS w wr pg x gone v o m) : Below w.heap.size w wr := by
  have h1 : Below w.heap.size w (w.alloc (boxC pg x gone)) := ((Turned.refl [] w).alloc _).below
  exact h1.trans (h.bel.mono (by omega))
theorem WiS.cells (h : WiS w wr pg x gone v o m) : wr.cell? ⟨w.heap.size, 0, none⟩ = some (.int .i64 (pg : Nat)) ∧ wr.cell? ⟨w.heap.size, 1, none⟩ = some (.int .i64 x.s.e) ∧ wr.cell? ⟨w.heap.size, 2, none⟩ = some (.int .i64 x.s.c) ∧ wr.cell? ⟨w.heap.size, 3, none⟩ = some (.int .i64 x.s.i) ∧ wr.cell? ⟨w.heap.size, 4, none⟩ = some (.int .i64 x.g) ∧ wr.cell? ⟨w.heap.size, 5, none⟩ = some (.bool gone) := by
  have hb := h.box
  simp [World.cell?, hb]
/-- a pair more -/
theorem WiS.more (h : WiS w wr pg x gone v o m) {p : Pr} {v' : Value} {t : TypeId} (hg : (wr.alloc (.cells (encP p).toArray t)).grownBy w' v.ownBlock) (ho : w'.ownsRow (w.heap.size + 1) 88 5 v' (o.length + 1) (flatP o ++ encP p)) : WiS w w' pg x gone v' (o ++ [p]) (m + 1) := by
  have hb : Below (w.heap.size + 1) (w.alloc (boxC pg x gone)) (wr.alloc (.cells (encP p).toArray t)) := h.bel.trans (((Turned.refl [] wr).alloc _).below.mono (by have := h.bel.size; simpa using this))
  exact ⟨by rw [flatP_snoc, List.length_append]; exact ho, by have := h.len; simp; omega, hb.grown hg (by have := hb.size; simpa using this) (own_above h.own)⟩
set_option maxRecDepth 100000 in
set_option maxHeartbeats 4000000 in
theorem xwith_fn (a : Option Addr) (n cap : Nat) (l : List Pr) (pg : Nat) (x : Ent) (gone : Bool) (w : World) (hl : Sl5 w a n l) (hn : n ≤ 1048576) :
    Calls Tryz.prog 41 #[.slice a n cap, .agg #[.int .i64 (pg : Nat), .int .i64 x.s.e, .int .i64 x.s.c, .int .i64 x.s.i, .int .i64 x.g, .bool gone]] w fun e w' => ∃ v, e = .returned v ∧ w'.ownsRow w.heap.size 88 5 v (withL pg x gone l).length (flatP (withL pg x gone l)) ∧ (withL pg x gone l).length ≤ n + n + 1 ∧ Below w.heap.size w w' := by
  obtain ⟨i0, hi, hz0, hz1, hz2⟩ := infoPr
  have HL := Lib.hid hl
  have hll := hl.1
  have S0 : Hid (WiS w (w.alloc (boxC pg x gone)) pg x gone (.slice none 0 0) [] 0) := ⟨⟨rfl, .inl ⟨rfl, rfl⟩⟩, Nat.le_refl _, Below.refl _ _⟩
  have HF0 : Hid (wfold pg x gone (l.take 0) = ([], gone)) := Lib.hid rfl
  obtain ⟨⟨xe, xc, xi⟩, xg⟩ := x
  clear hl
  go_enter Tryz.func41, Tryz.ntmps41
  go_wp2
  go_loopw [5, 6, 7] (fun v5 v6 v7 wr => ∃ (i : Nat) (o : List Pr) (d : Bool), i ≤ n ∧ v6 = .bool d ∧ v7 = .int .i64 (i : Nat) ∧ Hid (wfold pg ⟨⟨xe, xc, xi⟩, xg⟩ gone (l.take i) = (o, d)) ∧ Hid (WiS w wr pg ⟨⟨xe, xc, xi⟩, xg⟩ gone v5 o (i + i))) (fun _ _ v7 _ => n - (intOf v7).toNat)
  case atStart => exact ⟨0, [], gone, Nat.zero_le _, rfl, rfl, HF0.out, S0.out⟩
  case round =>
    obtain ⟨i, o, d, hin, rfl, rfl, hF, hS⟩ := hrel
    clear S0 HF0
    by_cases hlt : i < n
    · have hil : i < l.length := by omega
      have HT := Lib.hid (wfold_take pg ⟨⟨xe, xc, xi⟩, xg⟩ gone l i hil)
      rw [hF.out] at HT
      obtain ⟨b, off, rfl, c0, c1, c2, c3, c4⟩ := (HL.out.turned (Turned.of_below hS.out.old) (by simp)).at i hil
      have hbl : b < w.heap.size := by
        obtain ⟨b', off', e, c0', _⟩ := HL.out.at i hil
        simp only [Option.some.injEq, Addr.mk.injEq] at e
        rw [e.1]; exact lt_of_cell c0'
      have HC : Hid (∀ wx v' o' m', WiS w wx pg ⟨⟨xe, xc, xi⟩, xg⟩ gone v' o' m' → wx.cell? ⟨b, off + i * 5, none⟩ = some (.int .i64 (l[i].1 : Nat)) ∧ wx.cell? ⟨b, off + i * 5 + 1, none⟩ = some (.int .i64 l[i].2.s.e) ∧ wx.cell? ⟨b, off + i * 5 + 2, none⟩ = some (.int .i64 l[i].2.s.c) ∧ wx.cell? ⟨b, off + i * 5 + 3, none⟩ = some (.int .i64 l[i].2.s.i) ∧ wx.cell? ⟨b, off + i * 5 + 4, none⟩ = some (.int .i64 l[i].2.g)) := fun wx v' o' m' h => by
        obtain ⟨b', off', e, hc⟩ := (HL.out.turned (Turned.of_below h.old) (by simp)).at i hil
        simp only [Option.some.injEq, Addr.mk.injEq] at e
        rw [e.1, e.2.1]; exact hc
      obtain ⟨p, hp⟩ : ∃ p, l[i] = p := ⟨_, rfl⟩
      rw [hp] at c0 c1 c2 c3 c4 HT HC
      obtain ⟨q, ⟨⟨qe, qc, qi⟩, qg⟩⟩ := p
      simp only at c0 c1 c2 c3 c4 HT HC
      obtain ⟨k0, k1, k2, k3, k4, k5⟩ := hS.out.cells
      simp only at k1 k2 k3 k4
      obtain ⟨B, hB⟩ : ∃ B, decide (pg ≤ q) = B := ⟨_, rfl⟩
      have hB2 : decide ((pg : Int) ≤ (q : Int)) = B := by rw [← hB]; simp
      have HWo : Hid (wone pg ⟨⟨xe, xc, xi⟩, xg⟩ (o, d) q = if (!d && B) = true then (o ++ [(pg, ⟨⟨xe, xc, xi⟩, xg⟩)], true) else (o, d)) := by unfold wone; rw [hB]; rfl
      clear hp hF
      go_upto_region 6 with fail
      go_cut [27] (fun s wx => s = .bool (!d && B) ∧ Hid (WiS w wx pg ⟨⟨xe, xc, xi⟩, xg⟩ gone u5 o (i + i)))
      case first =>
        have HE : Hid (∀ k, WiS w (wr.drewN k) pg ⟨⟨xe, xc, xi⟩, xg⟩ gone u5 o (i + i)) := fun k => hS.out.drewN k
        clear hS HC HT HWo
        cases d
        · cases B
          all_goals
            go_quiet (fail)
            go_wp2
            go_meet
            exact ⟨by simp, HE.out _⟩
        · go_quiet (fail)
          go_wp2
          go_meet
          exact ⟨by simp, HE.out _⟩
      case rest =>
        clear hS
        obtain ⟨rfl, hS⟩ := hcut
        obtain ⟨B2, hB2⟩ : ∃ B2, (!d && B) = B2 := ⟨_, rfl⟩
        rw [hB2] at HWo
        rw [hB2]
        have HRow : Hid (∀ o1, (wc.alloc o1).ownsRow (w.heap.size + 1) 88 5 u5 o.length (flatP o)) := fun o1 => owns_turned hS.out.own ((Turned.refl [] wc).alloc o1) (by simp)
        have hol : o.length ≤ i + i := hS.out.len
        obtain ⟨k0, k1, k2, k3, k4, k5⟩ := hS.out.cells
        simp only at k1 k2 k3 k4
        go_upto_if 27 with fail
        go_cut [5, 6] (fun v5 v6 wy => ∃ (o' : List Pr) (d' : Bool), v6 = .bool d' ∧ wone pg ⟨⟨xe, xc, xi⟩, xg⟩ (o, d) q = (o', d') ∧ Hid (WiS w wy pg ⟨⟨xe, xc, xi⟩, xg⟩ gone v5 o' (i + i + 1)))
        case first =>
          cases B2
          · have HE : Hid (wone pg ⟨⟨xe, xc, xi⟩, xg⟩ (o, d) q = (o, d) ∧ WiS w wc pg ⟨⟨xe, xc, xi⟩, xg⟩ gone u5 o (i + i + 1)) := ⟨by rw [HWo.out]; rfl, hS.out.own, by omega, hS.out.bel⟩
            clear hS HRow
            go_wp2
            go_meet
            exact ⟨o, d, rfl, HE.out.1, HE.out.2⟩
          · have HMo : Hid (∀ v' w4, (wc.alloc (.cells (encP (pg, ⟨⟨xe, xc, xi⟩, xg⟩)).toArray 88)).grownBy w4 u5.ownBlock → w4.ownsRow (w.heap.size + 1) 88 5 v' (o.length + 1) (flatP o ++ encP (pg, ⟨⟨xe, xc, xi⟩, xg⟩)) → wone pg ⟨⟨xe, xc, xi⟩, xg⟩ (o, d) q = (o ++ [(pg, ⟨⟨xe, xc, xi⟩, xg⟩)], true) ∧ WiS w w4 pg ⟨⟨xe, xc, xi⟩, xg⟩ gone v' (o ++ [(pg, ⟨⟨xe, xc, xi⟩, xg⟩)]) (i + i + 1)) := fun v' w4 h1 h2 => ⟨by rw [HWo.out]; rfl, hS.out.more h1 h2⟩
            have hsz9 : w.heap.size + 1 ≤ wc.heap.size := by have := hS.out.bel.size; simpa using this
            have HSz := Lib.hid hsz9
            clear hsz9
            generalize flatP o = fo at *
            generalize hno : o.length = no at *
            clear hS
            go_wp2_with (first
              | (at_builtin; refine wpList_append_own _ rfl _ _ 53 rfl (w.heap.size + 1) 88 i0 (.agg #[.int .i64 0, .int .i64 0, .int .i64 0, .int .i64 0, .int .i64 0]) 5 40 Tryz.underlying53 hi hz0 hz1 hz2 rfl (by decide) _ _ _ rfl (HRow.out _) ⟨wc.heap.size, 0, none⟩ 1 1 (encP (pg, ⟨⟨xe, xc, xi⟩, xg⟩)) rfl rfl ?c1 ?c2 ?c3 ?c4 ?c5 ?_))
            case c1 => intro q' u hu; first | exact hu | exact cells_new wc (encP (pg, ⟨⟨xe, xc, xi⟩, xg⟩)) 88 q' u hu
            case c2 => intro u hu; simp [encP] at hu; rcases hu with rfl | rfl | rfl | rfl | rfl <;> rfl
            case c3 => unfold maxLen; omega
            case c4 => omega
            case c5 => have := HSz.out; simp; omega
            intro v' w4 hown' hgrow hnil
            have HA := Lib.hid (HMo.out v' w4 hgrow hown')
            clear hown' hgrow hnil
            go_wp2
            go_meet
            exact ⟨_, true, rfl, HA.out.1, HA.out.2⟩
        case rest =>
          clear hS HRow
          obtain ⟨o', d', rfl, hwo, hS⟩ := hcut
          obtain ⟨R, hR⟩ : ∃ R, decide (q = pg) = R := ⟨_, rfl⟩
          have hR1 : ((q : Int) == (pg : Int)) = R := by
            rw [← hR]
            by_cases e : q = pg
            · simp [e]
            · simp [e]; omega
          have hR2 : decide ((q : Int) = (pg : Int)) = R := by
            rw [← hR]
            by_cases e : q = pg
            · simp [e]
            · simp [e]; omega
          have hR3 : (q == pg) = R := by rw [← hR]; by_cases e : q = pg <;> simp [e]
          have hfn : (wfold pg ⟨⟨xe, xc, xi⟩, xg⟩ gone (l.take (i + 1)) = if R = true then (o', d') else (o' ++ [(q, ⟨⟨qe, qc, qi⟩, qg⟩)], d')) := by
            rw [HT.out]
            unfold wstep
            simp only [hwo]
            rw [← hR]
            by_cases e : q = pg <;> simp [e]
          have HFn := Lib.hid hfn
          have HR2 := Lib.hid hR2
          clear hwo HWo HT hB hB2 hR hfn
          obtain ⟨c0, c1, c2, c3, c4⟩ := HC.out _ _ _ _ hS.out
          obtain ⟨k0, k1, k2, k3, k4, k5⟩ := hS.out.cells
          simp only at k1 k2 k3 k4
          go_upto_region 9 with fail
          go_cut [43] (fun s wz => s = .bool (!R) ∧ Hid (WiS w wz pg ⟨⟨xe, xc, xi⟩, xg⟩ gone u5 o' (i + i + 1)))
          case first =>
            have HE : Hid (∀ k, WiS w (wc.drewN k) pg ⟨⟨xe, xc, xi⟩, xg⟩ gone u5 o' (i + i + 1)) := fun k => hS.out.drewN k
            clear hS HC
            cases R
            all_goals
              go_quiet (fail)
              go_wp2
              go_meet
              exact ⟨by have := HR2.out; simpa using this, HE.out _⟩
          case rest =>
            clear hS c0 c1 c2 c3 c4 k0 k1 k2 k3 k4 k5 hR1 hR2 hR3
            obtain ⟨rfl, hS⟩ := hcut
            obtain ⟨c0, c1, c2, c3, c4⟩ := HC.out _ _ _ _ hS.out
            have hol : o'.length ≤ i + i + 1 := hS.out.len
            cases R
            · have HMo : Hid (∀ v' w4, (wc.alloc (.cells (encP (q, ⟨⟨qe, qc, qi⟩, qg⟩)).toArray 88)).grownBy w4 u5.ownBlock → w4.ownsRow (w.heap.size + 1) 88 5 v' (o'.length + 1) (flatP o' ++ encP (q, ⟨⟨qe, qc, qi⟩, qg⟩)) → WiS w w4 pg ⟨⟨xe, xc, xi⟩, xg⟩ gone v' (o' ++ [(q, ⟨⟨qe, qc, qi⟩, qg⟩)]) (i + 1 + (i + 1))) := fun v' w4 h1 h2 => by
                have := hS.out.more h1 h2
                rw [show i + i + 1 + 1 = i + 1 + (i + 1) by omega] at this
                exact this
              have HRow : Hid (∀ o1, (wc.alloc o1).ownsRow (w.heap.size + 1) 88 5 u5 o'.length (flatP o')) := fun o1 => owns_turned hS.out.own ((Turned.refl [] wc).alloc o1) (by simp)
              have hsz9 : w.heap.size + 1 ≤ wc.heap.size := by have := hS.out.bel.size; simpa using this
              have HSz := Lib.hid hsz9
              clear hsz9
              have HFe : Hid (wfold pg ⟨⟨xe, xc, xi⟩, xg⟩ gone (l.take (i + 1)) = (o' ++ [(q, ⟨⟨qe, qc, qi⟩, qg⟩)], d')) := HFn.out
              generalize flatP o' = fo at *
              generalize hno : o'.length = no at *
              clear hS HC HFn
              go_wp2_with (first
                | (at_builtin; refine wpList_append_own _ rfl _ _ 53 rfl (w.heap.size + 1) 88 i0 (.agg #[.int .i64 0, .int .i64 0, .int .i64 0, .int .i64 0, .int .i64 0]) 5 40 Tryz.underlying53 hi hz0 hz1 hz2 rfl (by decide) _ _ _ rfl (HRow.out _) ⟨wc.heap.size, 0, none⟩ 1 1 (encP (q, ⟨⟨qe, qc, qi⟩, qg⟩)) rfl rfl ?c1 ?c2 ?c3 ?c4 ?c5 ?_))
              case c1 => intro q' u hu; exact cells_new wc (encP (q, ⟨⟨qe, qc, qi⟩, qg⟩)) 88 q' u hu
              case c2 => intro u hu; simp [encP] at hu; rcases hu with rfl | rfl | rfl | rfl | rfl <;> rfl
              case c3 => unfold maxLen; omega
              case c4 => omega
              case c5 => have := HSz.out; simp; omega
              intro v' w4 hown' hgrow hnil
              have HA := Lib.hid (HMo.out v' w4 hgrow hown')
              clear hown' hgrow hnil
              go_wp2
              go_roundw
              case rel => exact ⟨i + 1, _, d', by omega, rfl, by go_num, HFe.out, HA.out⟩
              case measure => simp [intOf]; omega
            · have HA : Hid (wfold pg ⟨⟨xe, xc, xi⟩, xg⟩ gone (l.take (i + 1)) = (o', d') ∧ WiS w wc pg ⟨⟨xe, xc, xi⟩, xg⟩ gone u5 o' (i + 1 + (i + 1))) := ⟨HFn.out, hS.out.own, by omega, hS.out.bel⟩
              clear hS HC HFn
              go_wp2
              go_roundw
              case rel => exact ⟨i + 1, o', d', by omega, rfl, by go_num, HA.out.1, HA.out.2⟩
              case measure => simp [intOf]; omega
    · obtain rfl : i = n := by omega
      have hlt2 : l.take i = l := List.take_of_length_le (by omega)
      rw [hlt2] at hF
      have hol : o.length ≤ i + i := hS.out.len
      obtain ⟨k0, k1, k2, k3, k4, k5⟩ := hS.out.cells
      simp only at k1 k2 k3 k4
      cases d
      · have HMo : Hid (∀ v' w4, (wr.alloc (.cells (encP (pg, ⟨⟨xe, xc, xi⟩, xg⟩)).toArray 88)).grownBy w4 u5.ownBlock → w4.ownsRow (w.heap.size + 1) 88 5 v' (o.length + 1) (flatP o ++ encP (pg, ⟨⟨xe, xc, xi⟩, xg⟩)) → w4.ownsRow w.heap.size 88 5 v' (withL pg ⟨⟨xe, xc, xi⟩, xg⟩ gone l).length (flatP (withL pg ⟨⟨xe, xc, xi⟩, xg⟩ gone l)) ∧ (withL pg ⟨⟨xe, xc, xi⟩, xg⟩ gone l).length ≤ i + i + 1 ∧ Below w.heap.size w w4) := fun v' w4 h1 h2 => by
          have h3 := hS.out.more h1 h2
          have e : withL pg ⟨⟨xe, xc, xi⟩, xg⟩ gone l = o ++ [(pg, ⟨⟨xe, xc, xi⟩, xg⟩)] := by unfold withL; rw [hF.out]; rfl
          rw [e]
          exact ⟨owns_mono h3.own (by omega), h3.len, h3.old⟩
        have HRow : Hid (∀ o1, (wr.alloc o1).ownsRow (w.heap.size + 1) 88 5 u5 o.length (flatP o)) := fun o1 => owns_turned hS.out.own ((Turned.refl [] wr).alloc o1) (by simp)
        have hsz9 : w.heap.size + 1 ≤ wr.heap.size := by have := hS.out.bel.size; simpa using this
        have HSz := Lib.hid hsz9
        clear hsz9
        generalize flatP o = fo at *
        generalize hno : o.length = no at *
        clear hS hF hlt2 hlt
        go_wp2_with (first
          | (at_builtin; refine wpList_append_own _ rfl _ _ 53 rfl (w.heap.size + 1) 88 i0 (.agg #[.int .i64 0, .int .i64 0, .int .i64 0, .int .i64 0, .int .i64 0]) 5 40 Tryz.underlying53 hi hz0 hz1 hz2 rfl (by decide) _ _ _ rfl (HRow.out _) ⟨wr.heap.size, 0, none⟩ 1 1 (encP (pg, ⟨⟨xe, xc, xi⟩, xg⟩)) rfl rfl ?c1 ?c2 ?c3 ?c4 ?c5 ?_))
        case c1 => intro q' u hu; exact cells_new wr (encP (pg, ⟨⟨xe, xc, xi⟩, xg⟩)) 88 q' u hu
        case c2 => intro u hu; simp [encP] at hu; rcases hu with rfl | rfl | rfl | rfl | rfl <;> rfl
        case c3 => unfold maxLen; omega
        case c4 => omega
        case c5 => have := HSz.out; simp; omega
        intro v' w4 hown' hgrow hnil
        have HA := Lib.hid (HMo.out v' w4 hgrow hown')
        clear hown' hgrow hnil
        go_wp2
        go_ret
        exact ⟨_, rfl, HA.out⟩
      · have HA : Hid (wr.ownsRow w.heap.size 88 5 u5 (withL pg ⟨⟨xe, xc, xi⟩, xg⟩ gone l).length (flatP (withL pg ⟨⟨xe, xc, xi⟩, xg⟩ gone l)) ∧ (withL pg ⟨⟨xe, xc, xi⟩, xg⟩ gone l).length ≤ i + i + 1 ∧ Below w.heap.size w wr) := by
          have e : withL pg ⟨⟨xe, xc, xi⟩, xg⟩ gone l = o := by unfold withL; rw [hF.out]; rfl
          rw [e]
          exact ⟨owns_mono hS.out.own (by omega), by omega, hS.out.old⟩
        clear hS hF hlt2 hlt
        go_wp2
        go_ret
        exact ⟨_, rfl, HA.out⟩
end Go.Proofs.YtmpbhoijkcanmaaGreat.R

/- A list of pairs with one entry otherwise: the plain law. -/
namespace Go.Proofs.YtmpbhoijkcanmaaGreat.R
set_option linter.unusedVariables false
set_option linter.unusedSimpArgs false
set_option linter.unnecessarySimpa false

variable {g : Nat → Option Ent} {pg k n : Nat} {x : Ent} {gone : Bool}
def noAt (g : Nat → Option Ent) (pg q : Nat) : Option Ent := if q = pg then none else g q
def updAt (g : Nat → Option Ent) (pg : Nat) (o : Option Ent) (q : Nat) : Option Ent := if q = pg then o else g q
def opt (x : Ent) (gone : Bool) : Option Ent := if gone = true then none else some x
theorem noAt_lt (h : k ≤ pg) (o : Option Ent) : allL (noAt g pg) k = allL (updAt g pg o) k := allL_congr k fun q hq => by
  unfold noAt updAt
  rw [if_neg (by omega), if_neg (by omega)]
theorem upd_tail (o : Ent) : ∀ k, pg < k → (∀ q, pg ≤ q → q < k → g q = none) → allL (updAt g pg (some o)) k = allL (noAt g pg) k ++ [(pg, o)] := by
  intro k
  induction k with
  | zero => intro h; omega
  | succ k ih =>
    intro hk hn
    rw [allL_succ, allL_succ (noAt g pg)]
    by_cases e : k = pg
    · subst e
      have h1 : updAt g k (some o) k = some o := if_pos rfl
      have h2 : noAt g k k = none := if_pos rfl
      rw [h1, h2, noAt_lt (Nat.le_refl _) (some o)]
      simp
    · have h0 : g k = none := hn k (by omega) (by omega)
      have h1 : updAt g pg (some o) k = none := by unfold updAt; rw [if_neg e, h0]
      have h2 : noAt g pg k = none := by unfold noAt; rw [if_neg e, h0]
      rw [h1, h2, ih (by omega) fun q h1 h2 => hn q h1 (by omega)]
      simp
/-- behind the entries of the pages below k -/
def WSt (g : Nat → Option Ent) (pg : Nat) (x : Ent) (gone : Bool) (k : Nat) (s : List Pr × Bool) : Prop :=
  (s.2 = true ∧ s.1 = allL (updAt g pg (opt x gone)) k ∧ (gone = true ∨ pg < k)) ∨ (s.2 = false ∧ gone = false ∧ s.1 = allL (noAt g pg) k ∧ ∀ q, pg ≤ q → q < k → g q = none)
theorem wst_all : ∀ k, WSt g pg x gone k (wfold pg x gone (allL g k)) := by
  intro k
  induction k with
  | zero =>
    cases gone
    · exact .inr ⟨rfl, rfl, rfl, fun q _ h => by omega⟩
    · exact .inl ⟨rfl, rfl, .inl rfl⟩
  | succ k ih =>
    rw [allL_succ]
    cases hg : g k with
    | none =>
      simp only [List.append_nil]
      rcases ih with ⟨h1, h2, h3⟩ | ⟨h1, h2, h3, h4⟩
      · refine .inl ⟨h1, ?_, h3.imp id (by omega)⟩
        rw [h2, allL_succ]
        have : updAt g pg (opt x gone) k = none := by
          unfold updAt
          by_cases e : k = pg
          · rw [if_pos e]
            rcases h3 with h3 | h3
            · unfold opt; rw [if_pos h3]
            · omega
          · rw [if_neg e, hg]
        rw [this]; simp
      · refine .inr ⟨h1, h2, ?_, fun q q1 q2 => ?_⟩
        · rw [h3, allL_succ]
          have : noAt g pg k = none := by unfold noAt; split <;> first | rfl | exact hg
          rw [this]; simp
        · by_cases e : q = k
          · rw [e]; exact hg
          · exact h4 q q1 (by omega)
    | some e =>
      simp only
      have hf : wfold pg x gone (allL g k ++ [(k, e)]) = wstep pg x (wfold pg x gone (allL g k)) (k, e) := by unfold wfold; rw [List.foldl_append]; rfl
      rw [hf]
      generalize wfold pg x gone (allL g k) = s at *
      obtain ⟨o, d⟩ := s
      unfold wstep wone
      simp only
      rcases ih with ⟨h1, h2, h3⟩ | ⟨h1, h2, h3, h4⟩
      · simp only at h1 h2
        subst h1
        simp only [Bool.not_true, Bool.false_and, Bool.false_eq_true, if_false]
        by_cases ek : k = pg
        · rw [if_pos ek]
          refine .inl ⟨rfl, ?_, .inr (by omega)⟩
          simp only
          rw [h2, allL_succ]
          have hgo : gone = true := h3.resolve_right (by omega)
          have : updAt g pg (opt x gone) k = none := by unfold updAt opt; rw [if_pos ek, if_pos hgo]
          rw [this]; simp
        · rw [if_neg ek]
          refine .inl ⟨rfl, ?_, h3.imp id (by omega)⟩
          simp only
          rw [h2, allL_succ]
          have : updAt g pg (opt x gone) k = some e := by unfold updAt; rw [if_neg ek, hg]
          rw [this]
      · simp only at h1 h3
        subst h1
        subst h2
        simp only [Bool.not_false, Bool.true_and, decide_eq_true_eq]
        have ho : opt x false = some x := rfl
        by_cases ek : k = pg
        · rw [if_pos ek, if_pos (by omega)]
          refine .inl ⟨rfl, ?_, .inr (by omega)⟩
          simp only
          rw [h3, allL_succ, noAt_lt (by omega) (opt x false)]
          have : updAt g pg (opt x false) k = some x := by unfold updAt; rw [if_pos ek, ho]
          rw [this, ek]
        · rw [if_neg ek]
          by_cases hle : pg ≤ k
          · rw [if_pos hle]
            refine .inl ⟨rfl, ?_, .inr (by omega)⟩
            simp only
            rw [h3, allL_succ]
            have : updAt g pg (opt x false) k = some e := by unfold updAt; rw [if_neg ek, hg]
            rw [this, ho, upd_tail x k (by omega) h4]
          · rw [if_neg hle]
            refine .inr ⟨rfl, rfl, ?_, fun q q1 q2 => by omega⟩
            simp only
            rw [h3, allL_succ]
            have : noAt g pg k = some e := by unfold noAt; rw [if_neg ek, hg]
            rw [this]
theorem withL_all (h : pg < n) : withL pg x gone (allL g n) = allL (updAt g pg (opt x gone)) n := by
  unfold withL
  rcases wst_all (g := g) (pg := pg) (x := x) (gone := gone) n with ⟨h1, h2, h3⟩ | ⟨h1, h2, h3, h4⟩
  · rw [if_pos h1, h2]
  · rw [if_neg (by rw [h1]; decide), h3, h2, show opt x false = some x from rfl, upd_tail x n h h4]
theorem chg_upd (g : Nat → Option Ent) (c : ChD) (pg : Nat) (h : c.page = (pg : Int)) (q : Nat) : chg g c q = updAt g pg (opt c.x c.gone) q := by
  unfold chg updAt opt
  rw [h]
  by_cases e : q = pg
  · rw [if_pos (by omega), if_pos e]
  · rw [if_neg (by omega), if_neg e]
end Go.Proofs.YtmpbhoijkcanmaaGreat.R

/- Roots: what versions are held, call by call: the plain law. -/
namespace Go.Proofs.YtmpbhoijkcanmaaGreat.R
open Go.ChangeShapes Go.WideShapes Go.ChangeAt Go.RowKit Go.Maps Go.Proofs.YtmpbhoijkcanmaaGreat.G
set_option linter.unusedVariables false
set_option linter.unusedSimpArgs false
set_option linter.unnecessarySimpa false

variable {R R' : Ro} {F G : Fo} {L L' T n : Nat} {v : Vr} {l : List ChD} {ys : List Slot} {f : Nat → Nat}
def hcnt (R : Ro) (n : Nat) : Nat := ((vget R.vs n).map Vr.held).getD 0
structure StQ (R : Ro) (F : Fo) (L T : Nat) (f : Nat → Nat) : Prop where
  ok : RoOk R F T
  fo : Ok F L
  cnts : ∀ n, hcnt R n = f n
theorem vget_iff {vs : List (Nat × Vr)} (hn : (keysV vs).Nodup) {n : Nat} {v : Vr} : vget vs n = some v ↔ (n, v) ∈ vs := ⟨vget_some, vget_mem hn⟩
theorem hcnt_some (h : vget R.vs n = some v) : hcnt R n = v.held := by unfold hcnt; rw [h]; rfl
theorem hcnt_none (h : vget R.vs n = none) : hcnt R n = 0 := by unfold hcnt; rw [h]; rfl
theorem StQ.yes (h : StQ R F L T f) (hf : 0 < f n) : ∃ v, vget R.vs n = some v ∧ v.held = f n := by
  cases e : vget R.vs n with
  | none => have := h.cnts n; rw [hcnt_none e] at this; omega
  | some v => exact ⟨v, rfl, by rw [← h.cnts n, hcnt_some e]⟩
theorem StQ.hold (h : StQ R F L T f) (hv : vget R.vs n = some v) : StQ ⟨vset R.vs n ⟨v.root, v.held + 1⟩, R.now⟩ F L (T + 1) (fun m => if m = n then f m + 1 else f m) := by
  have ho := h.ok.hold hv
  refine ⟨ho, h.fo, fun m => ?_⟩
  by_cases e : m = n
  · subst e
    rw [if_pos rfl, ← h.cnts, hcnt_some hv, hcnt_some (R := ⟨vset R.vs m ⟨v.root, v.held + 1⟩, R.now⟩) (vget_vset h.ok.keys hv)]
  · rw [if_neg e, ← h.cnts]
    have key : vget (vset R.vs n ⟨v.root, v.held + 1⟩) m = vget R.vs m := by
      cases e2 : vget R.vs m with
      | some u => exact (vget_iff ho.keys).2 (mem_vset.2 (.inr ⟨vget_some e2, e⟩))
      | none =>
        cases e3 : vget (vset R.vs n ⟨v.root, v.held + 1⟩) m with
        | none => rfl
        | some u =>
          rcases mem_vset.1 (vget_some e3) with ⟨h1, _⟩ | ⟨h1, _⟩
          · simp only [Prod.mk.injEq] at h1; exact absurd h1.1 e
          · rw [(vget_iff h.ok.keys).2 h1] at e2; cases e2
    unfold hcnt
    simp only [key]
theorem StQ.rel {hd : Nat} (h : StQ R F L T f) (hv : vget R.vs n = some v) (hh : v.held = hd + 1) (r : RelIs R F n v hd T R' G L ys) : StQ R' G L T (fun m => if m = n then f m - 1 else f m) := by
  refine ⟨r.ok, r.fo, fun m => ?_⟩
  by_cases e : m = n
  · subst e
    rw [if_pos rfl, ← h.cnts, hcnt_some hv, hh]
    cases e2 : vget R'.vs m with
    | some u =>
      rw [hcnt_some e2]
      have := r.at_n _ (vget_some e2) rfl
      simp only [Prod.mk.injEq, true_and] at this
      rw [this]; simp
    | none =>
      rw [hcnt_none e2]
      have : ¬ (m = R.now ∨ 0 < hd) := fun hc => by
        have := r.self.2 hc
        rw [(vget_iff r.ok.keys).2 this] at e2; cases e2
      omega
  · rw [if_neg e, ← h.cnts]
    cases e2 : vget R'.vs m with
    | some u => rw [hcnt_some e2, hcnt_some ((vget_iff h.ok.keys).2 (r.old _ (vget_some e2) e))]
    | none =>
      rw [hcnt_none e2]
      cases e3 : vget R.vs m with
      | none => rw [hcnt_none e3]
      | some u =>
        rw [(vget_iff r.ok.keys).2 (r.kept _ (vget_some e3) e)] at e2
        cases e2
theorem StQ.pub (h : StQ R F L T f) (p : PubIs R F v l T R' G L' ys) : StQ R' G L' (T + 1) f := by
  refine ⟨p.ok, p.fo, fun m => ?_⟩
  rw [← h.cnts]
  by_cases e : m = R.now + 1
  · subst e
    obtain ⟨r, hr, _⟩ := p.new
    rw [hcnt_some hr]
    cases e2 : vget R.vs (R.now + 1) with
    | none => rw [hcnt_none e2]
    | some u =>
      have := h.ok.le _ (List.mem_map_of_mem (f := (·.1)) (vget_some e2))
      simp only at this
      omega
  · cases e2 : vget R'.vs m with
    | some u => rw [hcnt_some e2, hcnt_some ((vget_iff h.ok.keys).2 (p.old _ (vget_some e2) e).1)]
    | none =>
      rw [hcnt_none e2]
      cases e3 : vget R.vs m with
      | none => rw [hcnt_none e3]
      | some u =>
        rw [hcnt_some e3]
        by_cases hc : m ≠ R.now ∨ 0 < u.held
        · rw [(vget_iff p.ok.keys).2 (p.kept _ (vget_some e3) hc)] at e2
          cases e2
        · omega
theorem mapL_cong {r r' : Nat} (h : ∀ q, getL 2 G r' q = getL 2 F r q) : mapL G r' = mapL F r := allL_congr 4096 fun q _ => h q
/-- a version that is held stays as it was -/
theorem StQ.pub_keep {u : Vr} (h : StQ R F L T f) (p : PubIs R F v l T R' G L' ys) (hu : vget R.vs n = some u) (hh : 0 < u.held) : vget R'.vs n = some u ∧ mapL G u.root = mapL F u.root := by
  have hm := p.kept _ (vget_some hu) (.inr hh)
  have hn : n ≠ R.now + 1 := fun e => by
    have := h.ok.le _ (List.mem_map_of_mem (f := (·.1)) (vget_some hu))
    simp only at this
    omega
  exact ⟨(vget_iff p.ok.keys).2 hm, mapL_cong (p.old _ hm hn).2⟩
theorem StQ.rel_keep {hd m : Nat} {u : Vr} (h : StQ R F L T f) (r : RelIs R F n v hd T R' G L ys) (hv : vget R.vs n = some v) (hu : vget R.vs m = some u) (hh : m = n → 0 < hd) : ∃ u', vget R'.vs m = some u' ∧ mapL G u'.root = mapL F u.root := by
  by_cases e : m = n
  · subst e
    have hm := r.self.2 (.inr (hh rfl))
    rw [hv] at hu
    obtain rfl := Option.some.inj hu
    exact ⟨_, (vget_iff r.ok.keys).2 hm, mapL_cong (r.maps _ hm)⟩
  · have hm := r.kept _ (vget_some hu) e
    exact ⟨_, (vget_iff r.ok.keys).2 hm, mapL_cong (r.maps _ hm)⟩
/-- nobody holds anything: the newest version alone is there -/
theorem StQ.alone (h : StQ R F L T f) (hf : ∀ n, f n = 0) : ∃ r, R.vs = [(R.now, ⟨r, 0⟩)] ∧ Solo R F L T R.now r (getL 2 F r) := by
  have all : ∀ x, x ∈ R.vs → x.1 = R.now ∧ x.2.held = 0 := fun x hx => by
    have h1 : x.2.held = 0 := by
      have := h.cnts x.1
      rw [hcnt_some ((vget_iff h.ok.keys).2 hx), hf] at this
      exact this
    exact ⟨(h.ok.swept x hx).resolve_right (by omega), h1⟩
  have hk := h.ok.keys
  have hnow := h.ok.now
  obtain ⟨vs, now⟩ := R
  simp only at *
  match vs, all, hk, hnow with
  | [], _, _, hnow => simp [keysV] at hnow
  | [x], all, _, _ =>
    obtain ⟨m, r, hd⟩ := x
    obtain ⟨e1, e2⟩ := all _ List.mem_cons_self
    simp only at e1 e2
    subst e1; subst e2
    exact ⟨r, rfl, h.ok, h.fo, rfl, fun y hy => by simpa using hy, (vget_iff h.ok.keys).2 List.mem_cons_self, fun _ _ => rfl⟩
  | x :: y :: l, all, hk, _ =>
    have e1 := (all x List.mem_cons_self).1
    have e2 := (all y (List.mem_cons_of_mem _ List.mem_cons_self)).1
    unfold keysV at hk
    rw [List.map_cons, List.map_cons, List.nodup_cons] at hk
    exact absurd (by rw [e1, ← e2]; exact List.mem_cons_self) hk.1
/-- the count that is kept in a map -/
def NumW (H : List (Nat × Value)) (T : Nat) : Prop := ∀ n v, mget H n = some v → ∃ m : Nat, m ≤ T ∧ v = .int .i64 m
theorem NumW.get {H : List (Nat × Value)} (h : NumW H T) (n : Nat) : (mget H n).getD (.int .i64 0) = .int .i64 (cnt H n) ∧ cnt H n ≤ T := by
  unfold cnt
  cases e : mget H n with
  | none => exact ⟨rfl, Nat.zero_le _⟩
  | some v =>
    obtain ⟨m, hm, rfl⟩ := h n v e
    exact ⟨by simp [natAt], by simpa [natAt] using hm⟩
theorem NumW.put {H : List (Nat × Value)} (h : NumW H T) (n m T' : Nat) (hT : T ≤ T') (hm : m ≤ T') : NumW (mput H n (.int .i64 m)) T' := fun a v hv => by
  rw [look_put] at hv
  by_cases e : a = n
  · rw [if_pos e] at hv; exact ⟨m, hm, (Option.some.inj hv).symm⟩
  · rw [if_neg e] at hv
    obtain ⟨k, hk, e⟩ := h a v hv
    exact ⟨k, by omega, e⟩
theorem NumW.mono {H : List (Nat × Value)} (h : NumW H T) {T' : Nat} (hT : T ≤ T') : NumW H T' := fun a v hv => by
  obtain ⟨k, hk, e⟩ := h a v hv
  exact ⟨k, by omega, e⟩
theorem cnt_putN (H : List (Nat × Value)) (n m a : Nat) : cnt (mput H n (.int .i64 m)) a = if a = n then m else cnt H a := cnt_put H n m a
/-- what stands at a round: counts, the version that is kept, what it had -/
structure StW (R : Ro) (F : Fo) (L T : Nat) (H : List (Nat × Value)) (kp : Option Nat) (c : List Pr) : Prop where
  q : StQ R F L T (fun n => cnt H n + if kp = some n then 1 else 0)
  num : NumW H T
  lst : ∀ kn, kp = some kn → ∃ v, vget R.vs kn = some v ∧ mapL F v.root = c
variable {H : List (Nat × Value)} {kp : Option Nat} {c : List Pr}
theorem StQ.cong {f' : Nat → Nat} (h : StQ R F L T f) (e : ∀ n, f n = f' n) : StQ R F L T f' := ⟨h.ok, h.fo, fun n => (h.cnts n).trans (e n)⟩
theorem StW.pub (h : StW R F L T H kp c) (p : PubIs R F v l T R' G L' ys) : StW R' G L' (T + 1) H kp c :=
  ⟨h.q.pub p, h.num.mono (by omega), fun kn e => by
    obtain ⟨u, hu, hc⟩ := h.lst kn e
    have hh : 0 < u.held := by
      have := h.q.cnts kn
      rw [hcnt_some hu, if_pos e] at this
      omega
    obtain ⟨k1, k2⟩ := h.q.pub_keep p hu hh
    exact ⟨u, k1, k2.trans hc⟩⟩
theorem vget_vset_root {vs : List (Nat × Vr)} (hn : (keysV vs).Nodup) {n m : Nat} {v u : Vr} {k : Nat} (hv : vget vs n = some v) (hu : vget vs m = some u) : ∃ u', vget (vset vs n ⟨v.root, k⟩) m = some u' ∧ u'.root = u.root := by
  by_cases e : m = n
  · subst e
    rw [hv] at hu
    obtain rfl := Option.some.inj hu
    exact ⟨_, vget_vset hn hv, rfl⟩
  · exact ⟨u, vget_mem (by rw [keys_vset]; exact hn) (mem_vset.2 (.inr ⟨vget_some hu, e⟩)), rfl⟩
theorem StW.hold (h : StW R F L T H kp c) (hv : vget R.vs n = some v) : StW ⟨vset R.vs n ⟨v.root, v.held + 1⟩, R.now⟩ F L (T + 1) (mput H n (.int .i64 ((cnt H n + 1 : Nat) : Int))) kp c :=
  ⟨(h.q.hold hv).cong fun m => by
      rw [cnt_putN]
      by_cases e : m = n
      · rw [if_pos e, if_pos e, e]; omega
      · rw [if_neg e, if_neg e], h.num.put n _ _ (by omega) (by have := (h.num.get n).2; omega), fun kn e => by
    obtain ⟨u, hu, hc⟩ := h.lst kn e
    obtain ⟨u', k1, k2⟩ := vget_vset_root h.q.ok.keys (k := v.held + 1) hv hu
    exact ⟨u', k1, by rw [k2]; exact hc⟩⟩
/-- the kept one is held -/
theorem StW.keep (h : StW R F L T H none c) (hv : vget R.vs n = some v) : StW ⟨vset R.vs n ⟨v.root, v.held + 1⟩, R.now⟩ F L (T + 1) H (some n) (mapL F v.root) :=
  ⟨(h.q.hold hv).cong fun m => by
      by_cases e : m = n
      · rw [if_pos e, e]; simp
      · rw [if_neg e, if_neg (by simp), if_neg (by simp; exact fun h => e h.symm)], h.num.mono (by omega), fun kn e => by
    obtain rfl := Option.some.inj e
    exact ⟨_, vget_vset h.q.ok.keys hv, rfl⟩⟩
theorem StW.rel {hd : Nat} (h : StW R F L T H kp c) (hv : vget R.vs n = some v) (hh : v.held = hd + 1) (hc : 0 < cnt H n) (r : RelIs R F n v hd T R' G L ys) : StW R' G L T (mput H n (.int .i64 ((cnt H n - 1 : Nat) : Int))) kp c :=
  ⟨(h.q.rel hv hh r).cong fun m => by
      rw [cnt_putN]
      by_cases e : m = n
      · rw [if_pos e, if_pos e, e]; omega
      · rw [if_neg e, if_neg e], h.num.put n _ _ (Nat.le_refl _) (by have := (h.num.get n).2; omega), fun kn e => by
    obtain ⟨u, hu, hcc⟩ := h.lst kn e
    obtain ⟨u', k1, k2⟩ := h.q.rel_keep r hv hu (fun e2 => by
      have := h.q.cnts n
      rw [hcnt_some hv, hh, if_pos (by rw [e, e2])] at this
      omega)
    exact ⟨u', k1, k2.trans hcc⟩⟩
/-- what is counted at last -/
theorem StW.last {kn : Nat} (h : StW R F L T H (some kn) c) : StQ R F L T (fun n => cnt (mput H kn (.int .i64 ((cnt H kn + 1 : Nat) : Int))) n) :=
  h.q.cong fun m => by
    rw [cnt_putN]
    by_cases e : m = kn
    · rw [if_pos e, e]; simp
    · rw [if_neg e, if_neg (by simp; exact fun h => e h.symm)]; rfl
theorem StW.start : StW ro0 fo0 0 0 [] none [] := ⟨⟨ro0_ok, fo0_ok, fun n => by
  by_cases e : n = 0
  · subst e; rfl
  · have : vget ro0.vs n = none := by unfold vget ro0; simp; omega
    rw [hcnt_none this]; rfl⟩, fun n v hv => by simp [mget] at hv, fun kn e => by cases e⟩
end Go.Proofs.YtmpbhoijkcanmaaGreat.R
