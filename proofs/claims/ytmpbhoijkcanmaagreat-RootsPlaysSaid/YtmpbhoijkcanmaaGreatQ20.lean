/- Maps of pages, and versions of them: lemmas, part 20 of 23. -/
import Derived.Deep.RegionHeld3
import Derived.Deep.DeepCutAuto
import Derived.Test.YtmpbhoijkcanmaaGreatQ19

/- Versions' numbers, sorted: the document's answer. -/
namespace Go.Proofs.YtmpbhoijkcanmaaGreat.R
open Go.ChangeShapes Go.WideShapes Go.ChangeAt Go.RowKit Go.Maps Go.Proofs.YtmpbhoijkcanmaaGreat.G Go.Joins
set_option linter.unusedVariables false
set_option linter.unusedSimpArgs false
set_option linter.unnecessarySimpa false

variable {w ww w' wr : World} {xb mx last B n m b g cap p q : Nat} {E : List XE} {L : List (Nat × Value)} {f h : Nat → Nat}
theorem FU.owns {base : Nat} (hF : FU w g cap n h) (hg : base ≤ g) (hc : cap ≤ maxLen) : w.ownsRow base 23 1 (.slice (some ⟨g, 0, none⟩) n cap) n ((lstF h n).map encU) := by
  obtain ⟨cur, h1, h2, h3, h4⟩ := hF
  refine ⟨by rw [List.length_map, lstF_len]; omega, .inr ⟨g, cap, cur, rfl, hg, h1, h3, hc, by omega, ?_⟩⟩
  refine List.ext_getElem (by simp [lstF_len, h2]; omega) fun i q1 q2 => ?_
  simp only [List.length_map, lstF_len] at q2
  have h5 := h4 i q2
  rw [List.getElem_take, List.getElem_map, lstF_get, Array.getElem_toList]
  rw [Array.getElem?_eq_getElem (by omega)] at h5
  exact Option.some.inj h5
/-- between two numbers of the map -/
def NoR (w wr : World) (b r : Nat) (L : List (Nat × Value)) (v : Value) : Prop := ∃ (done : List (Nat × Value)) (xs : List Nat), IterIs Tryz.prog 23 encU wr r b L done ∧ wr.ownsRow (w.heap.size + 1) 23 1 v xs.length (xs.map encU) ∧ xs.Perm (done.map (·.1)) ∧ xs.Pairwise (· ≤ ·) ∧ Below w.heap.size w wr
/-- as a number is put in its place -/
structure NoI (w wr : World) (b r : Nat) (L done : List (Nat × Value)) (g cap m : Nat) (f : Nat → Nat) (p : Nat) (h : Nat → Nat) : Prop where
  it : IterIs Tryz.prog 23 encU wr r b L done
  row : FU wr g cap (m + 1) h
  sim : Sim 0 (m + 1) f h
  ins : InsP 0 m p h
  bel : Below w.heap.size w wr
theorem NoI.calm {r : Nat} {done : List (Nat × Value)} (hi : NoI w wr b r L done g cap m f p h) (t : Below wr.heap.size wr w') : NoI w w' b r L done g cap m f p h :=
  ⟨hi.it.turned (Turned.of_below t) (by simp) (by simp), hi.row.turned (Turned.of_below t) (by simp), hi.sim, hi.ins, hi.bel.trans (t.mono hi.bel.size)⟩
theorem NoI.swap {r : Nat} {done : List (Nat × Value)} (hi : NoI w wr b r L done g cap m f (q + 1) h) (hq : q + 1 ≤ m) (hlt : h (q + 1) < h q) (hg : w.heap.size + 1 ≤ g) (hr : r = w.heap.size) (hb : b < w.heap.size) :
    NoI w ((wr.setCell ⟨g, q + 1, none⟩ (.int .u64 ((h q : Nat) : Int))).setCell ⟨g, q, none⟩ (.int .u64 ((h (q + 1) : Nat) : Int))) b r L done g cap m f q (swp h (q + 1) q) := by
  have t := swap_turned wr g (q + 1) q (.int .u64 ((h q : Nat) : Int)) (.int .u64 ((h (q + 1) : Nat) : Int))
  exact ⟨hi.it.turned t (by simp; omega) (by simp; omega), hi.row.swap (by omega) (by omega), hi.sim.trans (Sim.swap ⟨Nat.zero_le _, by omega⟩ ⟨Nat.zero_le _, by omega⟩), hi.ins.step (Nat.zero_le _) hq hlt, Turned.below_of hi.bel t (by simp; omega)⟩
theorem NoI.done {r k : Nat} {v : Value} {done : List (Nat × Value)} {xs : List Nat} (hi : NoI w wr b r L (done ++ [(k, v)]) g cap m f p h) (hf : lstF f (m + 1) = xs ++ [k]) (hp : xs.Perm (done.map (·.1))) (hpm : p ≤ m) (h1 : p = 0 ∨ ∃ q, p = q + 1 ∧ h q ≤ h p) (hg : w.heap.size + 1 ≤ g) (hc : cap ≤ maxLen) :
    NoR w wr b r L (.slice (some ⟨g, 0, none⟩) (m + 1) cap) := by
  refine ⟨_, lstF h (m + 1), hi.it, ?_, ?_, (hi.ins.done (Nat.zero_le _) hpm h1).pairs, hi.bel⟩
  · rw [lstF_len]; exact hi.row.owns hg hc
  · have := hi.sim.perm
    rw [hf] at this
    rw [List.map_append]
    exact this.trans (hp.append_right _)
theorem info_u : ∃ i0, Tryz.prog.info? 23 = some i0 ∧ i0.zero = some (.int .u64 0) ∧ i0.size = 1 ∧ i0.bytes = 8 := by
  have h : (Tryz.prog.info? 23).map (fun i => (i.zero, i.size, i.bytes)) = some (some (.int .u64 0), 1, 8) := by kernel_rfl
  exact info_parts h
set_option maxRecDepth 100000 in
set_option maxHeartbeats 4000000 in
theorem xvers_fn (h : XAt B ww xb mx last E) (hE : E.length ≤ 200) : Calls Tryz.prog 12 #[.pointer (some ⟨xb, 0, none⟩)] ww (numsPost (fun k => k ∈ E.map (·.n)) ww) := by
  obtain ⟨i0, hi9, hz0, hz1, hz2⟩ := info_u
  have HMap := Lib.hid h.map
  have HND := Lib.hid h.map.nodup
  have hbl := h.map.lt
  have c0 := h.c0
  have HKe : Hid ((eM E).map (·.1) = E.map (·.n) ∧ (eM E).length ≤ 200) := ⟨by unfold eM; rw [List.map_map]; rfl, by unfold eM; simp; omega⟩
  clear h
  generalize eM E = M at *
  go_enter Tryz.func12, Tryz.ntmps12
  go_wp2_with (first
    | (at_range; refine wp_range _ rfl _ 35 rfl Tryz.underlying35 mx M rfl HMap.out ?_; intro w0 hi0 ht0))
  have H0 : Hid (NoR ww w0 mx ww.heap.size M (.slice none 0 0)) := ⟨[], [], hi0, ⟨rfl, .inl ⟨rfl, rfl⟩⟩, by simp, List.Pairwise.nil, ht0.below⟩
  clear hi0 ht0 HMap
  go_frame
  go_loopw [3] (fun v wr => Hid (NoR ww wr mx ww.heap.size M v)) (fun _ wr => leftIn wr ww.heap.size mx)
  case atStart => exact H0.out
  case round =>
    clear H0
    obtain ⟨wr0, hwr0⟩ : ∃ wr0, wr = wr0 := ⟨_, rfl⟩
    rw [hwr0] at hrel
    rw [hwr0]
    clear hwr0
    obtain ⟨done, xs, hit, how, hpm, hso, hbl2⟩ := hrel.out
    have HIt := Lib.hid hit
    have HOw := Lib.hid how
    have HPm := Lib.hid (And.intro hpm (And.intro hso hbl2))
    clear hrel hit how hpm hso hbl2
    go_wp2_with (first
      | (at_next; refine wp_next _ rfl _ rfl ww.heap.size mx M done rfl HIt.out ?_ ?_))
    · intro hp
      have HP := Lib.hid hp
      clear hp
      have hpm2 := HPm.out.1.trans (HP.out.map _)
      have hl : xs.length ≤ 200 := by
        have h1 := hpm2.length_eq
        have h2 := HKe.out.2
        simp at h1
        omega
      have HF : Hid (∃ a cap, u3 = .slice a xs.length cap ∧ NumsIs (fun k => k ∈ E.map (·.n)) xs ∧ Nm wr0 a xs.length xs ∧ xs.length ≤ maxLen ∧ Below ww.heap.size ww wr0) := by
        have hns : NumsIs (fun k => k ∈ E.map (·.n)) xs := ⟨fun k => by rw [hpm2.mem_iff, HKe.out.1], strict_of HPm.out.2.1 (hpm2.nodup_iff.2 HND.out)⟩
        by_cases h0 : 0 < xs.length
        · obtain ⟨g, cap, e, hg, hc, hF⟩ := FU.of_owns HOw.out h0
          have := hF.nm
          rw [lst_getD] at this
          exact ⟨_, cap, e, hns, this, by unfold maxLen; omega, HPm.out.2.2⟩
        · obtain ⟨a, cap, e⟩ := slice_of_owns HOw.out
          exact ⟨a, cap, e, hns, ⟨rfl, .inl (by omega)⟩, by unfold maxLen; omega, HPm.out.2.2⟩
      clear hpm2
      obtain ⟨a, cap, rfl, h1⟩ := HF.out
      have H1 := Lib.hid h1
      clear h1 HF HOw HIt HPm
      go_wp2
      go_ret
      exact ⟨_, _, _, xs, rfl, H1.out⟩
    · rintro k v w2 hmem hi2 ht2 hsz hen
      have hr : ww.heap.size + 1 ≤ w2.heap.size := hi2.lt.1
      have HI2 := Lib.hid hi2
      have HO2 : Hid (∀ o', (w2.alloc o').ownsRow (ww.heap.size + 1) 23 1 u3 xs.length (xs.map encU)) := fun o' => owns_turned (owns_turned HOw.out ht2 (by simp)) ((Turned.refl [] w2).alloc o') (by simp)
      have HB2 : Hid (Below ww.heap.size ww w2) := Turned.below_of HPm.out.2.2 ht2 (by simp)
      have hlen : xs.length + 1 ≤ 1048576 := by
        have h1 := hi2.len_le
        have h2 := HPm.out.1.length_eq
        have h3 := HKe.out.2
        simp at h1 h2
        omega
      have HSz := Lib.hid hr
      have HLt : Hid (leftIn wr0 ww.heap.size mx = M.length - done.length ∧ done.length < M.length) := ⟨iter_left HIt.out, by have := hi2.len_le; simp at this; omega⟩
      obtain ⟨nx, hnx⟩ : ∃ nx, xs.length = nx := ⟨_, rfl⟩
      rw [hnx] at hlen HO2
      have HNx := Lib.hid hnx
      unfold encU at hen
      clear hmem hi2 ht2 hsz hr HOw HIt hnx
      go_wp2_with (first
        | (at_builtin; refine wpList_append_own_at _ rfl _ _ 39 rfl (ww.heap.size + 1) 23 i0 (.int .u64 0) 1 8 Tryz.underlying39 hi9 hz0 hz1 hz2 rfl (by decide) _ _ _ rfl (HO2.out _) ⟨w2.heap.size, 0, none⟩ 1 1 [encU k] rfl rfl ?c1 ?c2 ?c3 ?c4 ?c5 ?_))
      case c1 => intro q u hu; first | exact hu | exact cells_new w2 [encU k] 23 q u hu
      case c2 => intro u hu; simp [encU] at hu; subst hu; rfl
      case c3 => unfold maxLen; omega
      case c4 => omega
      case c5 => have := HSz.out; simp; omega
      intro v' w4 hown' hgrow hnil hblk
      have hob := own_above (HO2.out (.cells #[] 0))
      have ht4 : Turned u3.ownBlock.toList w2 w4 := (((Turned.refl [] w2).alloc _).nil_mono).grown hgrow fun k' hk' => .inl (by rw [hk']; simp)
      have hab : ∀ i, i ∈ u3.ownBlock.toList → ww.heap.size + 1 ≤ i := fun i hi => by
        cases e : u3.ownBlock with
        | none => rw [e] at hi; simp at hi
        | some c => rw [e] at hi; simp at hi; have := hob c e; omega
      have hit4 : IterIs Tryz.prog 23 encU w4 ww.heap.size mx M (done ++ [(k, v)]) := HI2.out.turned ht4 (fun hm => by have := hab _ hm; omega) (fun hm => by have := hab _ hm; omega)
      have hb4 : Below ww.heap.size ww w4 := Turned.below_of HB2.out ht4 fun i hi => by have := hab _ hi; omega
      have hxl : (xs ++ [k]).length = nx + 1 := by simp [HNx.out]
      have hown2 : w4.ownsRow (ww.heap.size + 1) 23 1 v' (xs ++ [k]).length ((xs ++ [k]).map encU) := by rw [hxl, List.map_append]; exact hown'
      obtain ⟨g, cap, rfl, hg, hcap, hrow⟩ := FU.of_owns hown2 (by omega)
      have hf := lst_getD (xs ++ [k])
      rw [hxl] at hrow hf
      rw [hxl]
      obtain ⟨f, hfE⟩ : ∃ f : Nat → Nat, (fun i => (xs ++ [k]).getD i 0) = f := ⟨_, rfl⟩
      rw [hfE] at hrow hf
      have hsrt : SortedOn 0 nx f := fun a c h1 h2 h3 => by
        rw [← hfE]
        have ha : (xs ++ [k])[a]? = xs[a]? := List.getElem?_append_left (by rw [HNx.out]; omega)
        have hc : (xs ++ [k])[c]? = xs[c]? := List.getElem?_append_left (by rw [HNx.out]; omega)
        simp only [List.getD, ha, hc]
        rw [List.getElem?_eq_getElem (by rw [HNx.out]; omega), List.getElem?_eq_getElem (by rw [HNx.out]; omega)]
        exact List.pairwise_iff_getElem.1 HPm.out.2.1 a c _ _ h2
      have S0 : Hid (∃ h, NoI ww w4 mx ww.heap.size M (done ++ [(k, v)]) g cap nx f nx h) := ⟨f, hit4, hrow, Sim.refl _ _ _, InsP.start hsrt, hb4⟩
      have HG : Hid (ww.heap.size + 1 ≤ g ∧ cap ≤ maxLen) := ⟨hg, hcap⟩
      have HEx : Hid (∀ wr' p h, p ≤ nx → NoI ww wr' mx ww.heap.size M (done ++ [(k, v)]) g cap nx f p h → (p = 0 ∨ ∃ q, p = q + 1 ∧ h q ≤ h p) → NoR ww wr' mx ww.heap.size M (.slice (some ⟨g, 0, none⟩) (nx + 1) cap) ∧ leftIn wr' ww.heap.size mx < leftIn wr0 ww.heap.size mx) := fun wr' p h hp hi h1 => ⟨hi.done hf HPm.out.1 hp h1 hg hcap, by
        rw [iter_left hi.it, HLt.out.1]
        have := HLt.out.2
        simp; omega⟩
      obtain ⟨m1, hm1⟩ : ∃ m1, nx + 1 = m1 := ⟨_, rfl⟩
      rw [hm1]
      rw [hm1] at HEx
      have hwm : IntKind.i64.wrap ((m1 : Int) - 1) = ((nx : Nat) : Int) := by rw [IntWalk.i64_in _ (by omega)]; omega
      have hnm : nx < m1 := by omega
      clear hown' hown2 hgrow hnil hblk hob ht4 hab hit4 hb4 hg hcap hrow HO2 HI2 HB2 HLt hf hfE hxl hsrt HSz hm1
      go_wp2
      go_loopw [5] (fun pv wr => ∃ p : Nat, p ≤ nx ∧ pv = .int .i64 p ∧ Hid (∃ h, NoI ww wr mx ww.heap.size M (done ++ [(k, v)]) g cap nx f p h)) (fun pv _ => (intOf pv).toNat)
      case atStart => exact ⟨nx, Nat.le_refl _, rfl, S0.out⟩
      case round =>
        obtain ⟨p, hp, rfl, hB⟩ := hrel
        clear S0
        obtain ⟨h, hN⟩ := hB.out
        by_cases h0 : p = 0
        · subst h0
          have HE : Hid (∀ n, NoR ww (wr.drewN n) mx ww.heap.size M (.slice (some ⟨g, 0, none⟩) m1 cap) ∧ leftIn (wr.drewN n) ww.heap.size mx < leftIn wr0 ww.heap.size mx) := fun n => HEx.out _ 0 h hp (hN.calm ((Turned.refl [] wr).drewN n).below) (.inl rfl)
          clear HEx hB hN
          rw [show ((0 : Nat) : Int) = 0 from rfl]
          go_upto_region 7 with fail
          go_quiet (fail)
          go_wp2
          go_roundw
          all_goals first | exact (HE.out _).1 | exact (HE.out _).2
        · obtain ⟨q, hpq⟩ : ∃ q, p = q + 1 := ⟨p - 1, by omega⟩
          have hp0 : decide ((0 : Int) < (p : Int)) = true := by simp; omega
          have hp1 : decide (0 < p) = true := by simp; omega
          have hwp : IntKind.i64.wrap ((p : Int) - 1) = (q : Nat) := by rw [IntWalk.i64_in _ (by omega)]; omega
          have hpm : p < m1 := by omega
          have hqm : q < m1 := by omega
          have hqp : q < p := by omega
          obtain ⟨x, hx⟩ : ∃ x, h p = x := ⟨_, rfl⟩
          obtain ⟨y, hy⟩ : ∃ y, h q = y := ⟨_, rfl⟩
          have cp := hN.row.cell (i := p) (by omega)
          have cq := hN.row.cell (i := q) (by omega)
          rw [hx] at cp
          rw [hy] at cq
          have fp := hN.row.frozen p
          have fq := hN.row.frozen q
          by_cases hlt : x < y
          · have hb1 : decide ((x : Int) < (y : Int)) = true := by simp; omega
            have hb2 : decide (x < y) = true := by simpa using hlt
            have HS : Hid (∀ wz, Below wr.heap.size wr wz → (∃ h, NoI ww ((wz.setCell ⟨g, p, none⟩ (.int .u64 ((y : Nat) : Int))).setCell ⟨g, q, none⟩ (.int .u64 ((x : Nat) : Int))) mx ww.heap.size M (done ++ [(k, v)]) g cap nx f q h) ∧ wz.cell? ⟨g, p, none⟩ = some (.int .u64 (x : Nat)) ∧ wz.cell? ⟨g, q, none⟩ = some (.int .u64 (y : Nat)) ∧ wz.frozen? ⟨g, p, none⟩ = false ∧ wz.frozen? ⟨g, q, none⟩ = false) := fun wz hb => by
              have hN2 := hN.calm hb
              have k1 := hN2.row.cell (i := p) (by omega)
              have k2 := hN2.row.cell (i := q) (by omega)
              rw [hx] at k1
              rw [hy] at k2
              have hs := hN2
              rw [hpq] at hs
              have := hs.swap (by omega) (by rw [← hpq, hx, hy]; exact hlt) HG.out.1 rfl hbl
              rw [← hpq, hx, hy] at this
              exact ⟨⟨_, this⟩, k1, k2, hN2.row.frozen p, hN2.row.frozen q⟩
            clear HEx hB hN h0 hpq hx hy hlt
            go_upto_region 7 with fail
            go_cut [36] (fun s wz => s = .bool true ∧ Hid (Below wr.heap.size wr wz))
            case first =>
              have HBe : Hid (∀ z, Below wr.heap.size wr (wr.drewN z)) := fun z => ((Turned.refl [] wr).drewN z).below
              clear HS
              go_quiet (fail)
              go_wp2
              go_meet
              exact ⟨by simp, HBe.out _⟩
            case rest =>
              obtain ⟨rfl, hbz⟩ := hcut
              clear cp cq fp fq
              obtain ⟨hs2, cp, cq, fp, fq⟩ := HS.out _ hbz.out
              have HS2 := Lib.hid hs2
              clear HS hs2 hbz
              go_wp2
              go_roundw
              all_goals first | exact ⟨q, by omega, by go_num, HS2.out⟩ | (simp [intOf]; omega)
          · have hb1 : decide ((x : Int) < (y : Int)) = false := by simp; omega
            have hb2 : decide (x < y) = false := by simpa using hlt
            have HE : Hid (∀ n, NoR ww (wr.drewN n) mx ww.heap.size M (.slice (some ⟨g, 0, none⟩) m1 cap) ∧ leftIn (wr.drewN n) ww.heap.size mx < leftIn wr0 ww.heap.size mx) := fun n => HEx.out _ p h hp (hN.calm ((Turned.refl [] wr).drewN n).below) (.inr ⟨q, hpq, by rw [hx, hy]; omega⟩)
            clear HEx hB hN h0 hpq hx hy hlt fp fq
            go_upto_region 7 with fail
            go_quiet (fail)
            go_wp2
            go_roundw
            all_goals first | exact (HE.out _).1 | exact (HE.out _).2
end Go.Proofs.YtmpbhoijkcanmaaGreat.R

/- Versions of both kinds side by side: each call, of both. -/
namespace Go.Proofs.YtmpbhoijkcanmaaGreat.R
open Go.ChangeShapes Go.WideShapes Go.ChangeAt Go.RowKit Go.Maps Go.Proofs.YtmpbhoijkcanmaaGreat.G Go.Joins
set_option linter.unusedVariables false
set_option linter.unusedSimpArgs false
set_option linter.unnecessarySimpa false

variable {w ww w' w1 wr : World} {rb xb mx last L L' T n : Nat} {R R' : Ro} {F G : Fo} {K K' : List (Nat × Obj)} {E E' : List XE} {e : XE}
theorem XSt.bel (h : XSt w wr rb L R F xb last E) : Below w.heap.size w wr := by
  obtain ⟨mx, K, h1, h2, h3⟩ := h
  exact h1.bel
/-- with one block beside -/
theorem XSt.alloc (h : XSt w wr rb L R F xb last E) (o : Obj) : ∃ K, RtM w (wr.alloc o) rb L R F ((wr.heap.size, o) :: K) ∧ ∀ w' L' R' G, RtM w w' rb L' R' G ((wr.heap.size, o) :: K) → XSt w w' rb L' R' G xb last E ∧ w'.heap[wr.heap.size]? = some o := by
  obtain ⟨mx, K, h1, h2, h3⟩ := h
  have hnd := h1.nodup
  refine ⟨K, h1.put o, fun w' L' R' G h => ⟨⟨mx, K, h.sub (fun x hx => List.mem_cons_of_mem _ hx) hnd, h2.same fun b hb => ?_, h3⟩, h.at (x := (wr.heap.size, o)) List.mem_cons_self⟩⟩
  obtain ⟨o', ho'⟩ := mem_keysK.1 (h3 b hb)
  rw [h.at (List.mem_cons_of_mem _ ho'), h1.at ho']
/-- a block that is none of theirs stays as the document's answer changes -/
theorem XSt.refb (h : XSt w wr rb L R F xb last E) : ∃ mx, XAt w.heap.size wr xb mx last E ∧ ∀ b, b ∈ eB xb mx E → w.heap.size ≤ b ∧ b < wr.heap.size := by
  obtain ⟨mx, K, h1, h2, h3⟩ := h
  exact ⟨mx, h2, fun b hb => ⟨h2.base b hb, h2.at_b hb⟩⟩
theorem rt_stale (h : RtM w ww rb L R F K) {base : Nat} (hb : base ≠ R.now) (a : Option Addr) (len cap : Nat) :
    Calls Tryz.prog 20 #[.pointer (some ⟨rb, 0, none⟩), .int .u64 (base : Nat), .slice a len cap] ww fun e w' => e = .returned (.tuple #[.int .u64 0, .slice none 0 0, .int .i64 240]) ∧ RtM w w' rb L R F K := by
  obtain ⟨f, mb, mo, blk, h⟩ := h
  exact (rpub_stale h hb a len cap).mono fun e w' ⟨e1, e2⟩ => ⟨e1, e2 ▸ ⟨f, mb, mo, blk, h⟩⟩
theorem rt_bad (h : RtM w ww rb L R F K) (a : Option Addr) (len cap : Nat) (l : List ChD) (hl : ChsAt ww a len l) (hok : ∀ x, x ∈ l → x.ok) (hn : len ≤ maxLen) (hval : ¬ ∀ x, x ∈ l → x.val) :
    Calls Tryz.prog 20 #[.pointer (some ⟨rb, 0, none⟩), .int .u64 (R.now : Nat), .slice a len cap] ww fun e w' => e = .returned (.tuple #[.int .u64 0, .slice none 0 0, .int .i64 2]) ∧ RtM w w' rb L R F K := by
  obtain ⟨f, mb, mo, blk, h⟩ := h
  exact (rpub_loop h a len cap l hl hok hn hval).mono fun e w' ⟨e1, e2⟩ => ⟨e1, ⟨f, mb, mo, blk, h.calm e2⟩⟩
theorem rt_pub {l : List ChD} (h : RtM w w1 rb L R F K) (hR : RoOk R F T) (hF : Ok F L) (hT : T ≤ 2 ^ 34) (hL : L ≤ 2 ^ 33) {a : Option Addr} {len cap : Nat} (b : Below w1.heap.size w1 ww) (hrow : ww.ownsRow w1.heap.size 64 6 (.slice a len cap) len (l.flatMap encCh))
    (hok : ∀ x, x ∈ l → x.ok) (hn : len ≤ 1048576) (hval : ∀ x, x ∈ l → x.val) {v : Vr} (hv : vget R.vs R.now = some v) :
    Calls Tryz.prog 20 #[.pointer (some ⟨rb, 0, none⟩), .int .u64 (R.now : Nat), .slice a len cap] ww fun e w' => ∃ (a' : Option Addr) (len' cap' : Nat) (R' : Ro) (G : Fo) (ys : List Slot), e = .returned (.tuple #[.int .u64 ((R.now + 1 : Nat) : Int), .slice a' len' cap', .int .i64 0]) ∧ PubIs R F v l T R' G (L + 1 + 3 * l.length) ys ∧ SlotsIs (fun s => HasS F s ∧ ¬ HasS G s) ys ∧ len' = ys.length ∧ w'.ownsRow w.heap.size 45 3 (.slice a' len' cap') len' (flat ys) ∧ RtM w w' rb (L + 1 + 3 * l.length) R' G K := by
  have hnd := h.nodup
  obtain ⟨K2, h3, r3⟩ := h.row b hrow
  obtain ⟨f, mb, mo, blk, h3⟩ := h3
  refine (rpub_ok h3 hR hT hL a len cap l (chsK_row r3 (fun x hx => List.mem_append.2 (.inl hx)) rfl) hok hn hval hv).mono fun e w' ⟨a', len', cap', F', r, R', G, ys, e1, e2, e3, e4, e4', e5, e6, e7⟩ => ?_
  exact ⟨a', len', cap', R', G, ys, e2, pub_is hR hv e3 e4 e5, pub_gone hR hF hv e3 e4 e5, e1, e6, e7.sub (fun x hx => List.mem_append.2 (.inr hx)) hnd⟩
theorem rt_hold_no (h : RtM w ww rb L R F K) (hn : n < 2 ^ 64) (hv : vget R.vs n = none) : Calls Tryz.prog 21 #[.pointer (some ⟨rb, 0, none⟩), .int .u64 (n : Nat)] ww fun e w' => e = .returned (.int .i64 3) ∧ RtM w w' rb L R F K := by
  obtain ⟨f, mb, mo, blk, h⟩ := h
  exact (rhold_no h hn hv).mono fun e w' ⟨e1, e2⟩ => ⟨e1, e2 ▸ ⟨f, mb, mo, blk, h⟩⟩
theorem rt_hold (h : RtM w ww rb L R F K) (hn : n < 2 ^ 64) {v : Vr} (hv : vget R.vs n = some v) (hs : v.held ≤ 2 ^ 40) : Calls Tryz.prog 21 #[.pointer (some ⟨rb, 0, none⟩), .int .u64 (n : Nat)] ww fun e w' => e = .returned (.int .i64 0) ∧ RtM w w' rb L ⟨vset R.vs n ⟨v.root, v.held + 1⟩, R.now⟩ F K := by
  obtain ⟨f, mb, mo, blk, h⟩ := h
  exact (rhold_yes h hn hv hs).mono fun e w' ⟨e1, e2⟩ => ⟨e1, ⟨f, mb, mo, blk, e2⟩⟩
theorem rt_rel_no (h : RtM w ww rb L R F K) (hn : n < 2 ^ 64) (hv : vget R.vs n = none ∨ ∃ v, vget R.vs n = some v ∧ v.held = 0) : Calls Tryz.prog 22 #[.pointer (some ⟨rb, 0, none⟩), .int .u64 (n : Nat)] ww fun e w' => e = .returned (.tuple #[.slice none 0 0, .int .i64 3]) ∧ RtM w w' rb L R F K := by
  obtain ⟨f, mb, mo, blk, h⟩ := h
  rcases hv with hv | ⟨v, hv, h0⟩
  · exact (rrel_none h hn hv).mono fun e w' ⟨e1, e2⟩ => ⟨e1, e2 ▸ ⟨f, mb, mo, blk, h⟩⟩
  · exact (rrel_zero h hn hv h0).mono fun e w' ⟨e1, e2⟩ => ⟨e1, e2 ▸ ⟨f, mb, mo, blk, h⟩⟩
theorem rt_rel {hd : Nat} (h : RtM w ww rb L R F K) (hR : RoOk R F T) (hF : Ok F L) (hL : L ≤ 2 ^ 34) (hn : n < 2 ^ 64) {v : Vr} (hv : vget R.vs n = some v) (hh : v.held = hd + 1) (hs : v.held ≤ 2 ^ 40) :
    Calls Tryz.prog 22 #[.pointer (some ⟨rb, 0, none⟩), .int .u64 (n : Nat)] ww fun e w' => ∃ (a : Option Addr) (len cap : Nat) (R' : Ro) (G : Fo) (ys : List Slot), e = .returned (.tuple #[.slice a len cap, .int .i64 0]) ∧ RelIs R F n v hd T R' G L ys ∧ len = ys.length ∧ w'.ownsRow w.heap.size 45 3 (.slice a len cap) len (flat ys) ∧ RtM w w' rb L R' G K := by
  obtain ⟨f, mb, mo, blk, h1⟩ := h
  refine (rrel_yes h1 hL hn hR.keys hv hh hs (hR.root hv)).mono fun e w' ⟨a, len, cap, R', G, ys, mo', e1, e2, e3, e4, e5⟩ => ?_
  exact ⟨a, len, cap, R', G, ys, e2, rel_is hR hF hv hh e3, e1, e4, ⟨f, mb, mo', blk, e5⟩⟩
/-- bounds, and all that goes with the two -/
structure XB (R : Ro) (F : Fo) (L T last : Nat) (E : List XE) : Prop where
  rl : Rl R F L T last E
  vs : R.vs.length ≤ T + 1
theorem Rl.len (h : Rl R F L T last E) : E.length = R.vs.length := by
  have h1 : (E.map (·.n)).Perm (keysV R.vs) := (List.perm_ext_iff_of_nodup h.keys h.ok.keys).2 fun m => by
    constructor
    · intro hm
      obtain ⟨e, he, rfl⟩ := List.mem_map.1 hm
      obtain ⟨v, hv, _⟩ := h.fw e he
      exact vget_key hv
    · intro hm
      obtain ⟨e, he, rfl⟩ := h.bk m hm
      exact List.mem_map_of_mem (f := fun e : XE => e.n) he
  have := h1.length_eq
  unfold keysV at this
  simpa using this
theorem mapL_ok (hF : Ok F L) (h : RoOk R F T) {v : Vr} (hv : vget R.vs n = some v) : (mapL F v.root).length ≤ 4096 ∧ ∀ p, p ∈ mapL F v.root → p.2.s.ok := by
  have hl : (mapL F v.root).length ≤ 4096 := by unfold mapL; exact allL_len _ 4096
  refine ⟨hl, fun p hp => ?_⟩
  have h1 : p.2.s ∈ (mapL F v.root).map (·.2.s) := List.mem_map.2 ⟨p, hp, rfl⟩
  have h2 : InMap F v.root p.2.s := in_mapL.2 h1
  have hs : HasS F p.2.s := (slots_iff h.pre hF p.2.s).2 ⟨(n, v), vget_some hv, h2⟩
  exact HasS.ok hF hs
theorem Rl.xok (h : Rl R F L T last E) (hv : R.vs.length ≤ 200) : XOk E := ⟨by rw [h.len]; exact hv, fun e he => by
  obtain ⟨v, hv, h1, h2⟩ := h.fw e he
  rw [h1]
  exact mapL_ok h.fo h.ok hv⟩
end Go.Proofs.YtmpbhoijkcanmaaGreat.R

/- Versions of both kinds side by side: what each call of both leaves. -/
namespace Go.Proofs.YtmpbhoijkcanmaaGreat.R
open Go.ChangeShapes Go.WideShapes Go.ChangeAt Go.RowKit Go.Maps Go.Proofs.YtmpbhoijkcanmaaGreat.G Go.Joins
set_option linter.unusedVariables false
set_option linter.unusedSimpArgs false
set_option linter.unnecessarySimpa false

variable {w ww w' w1 w2 wr : World} {rb xb mx last L L' T n k B : Nat} {R R' : Ro} {F G : Fo} {K K' : List (Nat × Obj)} {E E' : List XE} {e : XE} {ys zs : List Slot}
def esum (E : List XE) : Nat := (E.map (·.held)).sum
theorem esum_app (E E' : List XE) : esum (E ++ E') = esum E + esum E' := by unfold esum; rw [List.map_append, List.sum_append]
theorem esum_del (E : List XE) (n : Nat) : esum (edel E n) ≤ esum E := by
  unfold edel
  induction E with
  | nil => exact Nat.le_refl _
  | cons x l ih =>
    rw [List.filter_cons]
    have e : esum (x :: l) = x.held + esum l := by unfold esum; simp
    rw [e]
    split
    · have e2 : ∀ l', esum (x :: l') = x.held + esum l' := fun l' => by unfold esum; simp
      rw [e2]; omega
    · omega
theorem esum_hold {d : Nat} : ∀ (E : List XE), (E.map (·.n)).Nodup → (∀ e, e ∈ E → e.n = n → k ≤ e.held + d) → esum (ehold E n k) ≤ esum E + d := by
  intro E
  induction E with
  | nil => intro _ _; show 0 ≤ _; omega
  | cons x l ih =>
    intro hn hk
    rw [List.map_cons, List.nodup_cons] at hn
    have e : ∀ (y : XE) l, esum (y :: l) = y.held + esum l := fun y l => by unfold esum; simp
    have e2 : ehold (x :: l) n k = (if x.n = n then { x with held := k } else x) :: ehold l n k := by unfold ehold; rw [List.map_cons]
    rw [e2, e, e]
    by_cases hx : x.n = n
    · have e3 : ehold l n k = l := by
        unfold ehold
        have : (l.map fun e => if e.n = n then { e with held := k } else e) = l.map id := List.map_congr_left fun y hy => by
          have : y.n ≠ n := fun h => hn.1 (by rw [hx, ← h]; exact List.mem_map_of_mem (f := fun e : XE => e.n) hy)
          rw [if_neg this]; rfl
        rw [this, List.map_id]
      have := hk x List.mem_cons_self hx
      rw [if_pos hx, e3]
      simp only
      omega
    · have := ih hn.2 fun y hy => hk y (List.mem_cons_of_mem _ hy)
      rw [if_neg hx]
      omega
theorem esum_swp (E : List XE) (last : Nat) (e : XE) : esum (eswp E last e) ≤ esum E := by
  unfold eswp
  split
  · exact esum_del E _
  · exact Nat.le_refl _
/-- how many versions there are -/
theorem Rl.few (h : Rl R F L T last E) : E.length ≤ last + 1 ∧ E.length ≤ esum E + 1 := by
  constructor
  · have h1 : (E.map (·.n)).length ≤ (List.range (last + 1)).length := h.keys.length_le_of_subset fun m hm => by
      obtain ⟨e, he, rfl⟩ := List.mem_map.1 hm
      obtain ⟨v, hv, _⟩ := h.fw e he
      have := h.ok.le _ (vget_key hv)
      rw [List.mem_range, h.last]; omega
    simpa using h1
  · have hs : ∀ e, e ∈ E → e.n = last ∨ 0 < e.held := fun e he => by
      obtain ⟨v, hv, _, h2⟩ := h.fw e he
      rw [h.last, h2]
      exact h.ok.swept _ (vget_some hv)
    have key : ∀ E : List XE, (E.map (·.n)).Nodup → (∀ e, e ∈ E → e.n = last ∨ 0 < e.held) → E.length ≤ esum E + 1 ∧ ((∀ e, e ∈ E → e.n ≠ last) → E.length ≤ esum E) := by
      intro E
      induction E with
      | nil => intro _ _; exact ⟨by simp, fun _ => by simp⟩
      | cons x l ih =>
        intro hn hs
        rw [List.map_cons, List.nodup_cons] at hn
        obtain ⟨i1, i2⟩ := ih hn.2 fun y hy => hs y (List.mem_cons_of_mem _ hy)
        have e : esum (x :: l) = x.held + esum l := by unfold esum; simp
        rw [e, List.length_cons]
        rcases hs x List.mem_cons_self with hx | hx
        · have := i2 fun y hy hy2 => hn.1 (by rw [hx, ← hy2]; exact List.mem_map_of_mem (f := fun e : XE => e.n) hy)
          exact ⟨by omega, fun hne => absurd hx (hne x List.mem_cons_self)⟩
        · exact ⟨by omega, fun hne => by have := i2 fun y hy => hne y (List.mem_cons_of_mem _ hy); omega⟩
    exact (key E h.keys hs).1
def doesIs (w : World) (rb xb L T last : Nat) (E : List XE) (w' : World) : Prop := ∃ L' R' F' T' last' E', XSt w w' rb L' R' F' xb last' E' ∧ Rl R' F' L' T' last' E' ∧ L' ≤ L + 200 ∧ T' ≤ T + 1 ∧ last' + esum E' ≤ last + esum E + 1
theorem doesIs.calm (h : doesIs w rb xb L T last E ww) (b : Below ww.heap.size ww w') : doesIs w rb xb L T last E w' := by
  obtain ⟨L', R', F', T', last', E', h1, h2⟩ := h
  exact ⟨L', R', F', T', last', E', h1.calm b, h2⟩
/-- rows of slots are none of the answer's own blocks -/
theorem own_apart {base nn : Nat} {v : Value} {xs : List Value} (h : XAt B ww xb mx last E) (ho : ww.ownsRow base 45 3 v nn xs) : ∀ b, v.ownBlock = some b → b ∉ eB xb mx E := fun b hb hm => by
  obtain ⟨_, ho⟩ := ho
  rcases ho with ⟨rfl, _⟩ | ⟨g, cap, cur, rfl, hg, hh, _⟩
  · cases hb
  · simp only [Value.ownBlock, Option.some.injEq] at hb
    subst hb
    unfold eB at hm
    rcases List.mem_cons.1 hm with rfl | hm
    · rw [h.ob] at hh; simp at hh
    · rcases List.mem_cons.1 hm with rfl | hm
      · obtain ⟨E1, cl, h1, _⟩ := h.map
        rw [h1] at hh; simp at hh
      · obtain ⟨e, he, rfl⟩ := List.mem_map.1 hm
        rw [h.vob e he] at hh; simp at hh
/-- the two rows of what went are the same -/
theorem same_end {a a' : Option Addr} {n n' cap cap' : Nat} (hd : doesIs w rb xb L T last E w2) (h : Sl3s w2 a n ys) (h' : Sl3s w2 a' n' zs) (hn : n ≤ maxLen) (hn' : n' ≤ maxLen) (e : ys = zs) :
    Calls Tryz.prog 13 #[.slice a n cap, .slice a' n' cap'] w2 fun r w' => r = .returned (.bool true) ∧ doesIs w rb xb L T last E w' := by
  unfold maxLen at hn hn'
  have := same_slots ys zs a a' n n' cap cap' w2 h h' (by omega) (by omega)
  rw [decide_eq_true e] at this
  exact this.mono fun r w' ⟨e1, e2⟩ => ⟨e1, hd.calm e2⟩
end Go.Proofs.YtmpbhoijkcanmaaGreat.R

/- Versions of both kinds side by side: a call, of both: publishing, holding, letting go, one behind the other. -/
namespace Go.Proofs.YtmpbhoijkcanmaaGreat.R
open Go.ChangeShapes Go.WideShapes Go.ChangeAt Go.RowKit Go.Maps Go.Proofs.YtmpbhoijkcanmaaGreat.G Go.Joins
set_option linter.unusedVariables false
set_option linter.unusedSimpArgs false
set_option linter.unnecessarySimpa false

variable {w ww w' w1 w2 wr : World} {rb xb mx last L L' T n k B : Nat} {R R' : Ro} {F G : Fo} {K K' : List (Nat × Obj)} {E E' : List XE} {e : XE} {ys zs : List Slot}
/-- what the document's answer is asked behind the program, and then the rows of what went -/
def thenX (w : World) (rb xb L T last : Nat) (E : List XE) (C : (Ending → World → Prop) → Prop) (mk : Option Addr → Nat → Nat → Value) (a : Option Addr) (len cap : Nat) : Prop :=
  C fun r w2 => ∃ a2 len2 cap2, r = .returned (mk a2 len2 cap2) ∧ Calls Tryz.prog 13 #[.slice a len cap, .slice a2 len2 cap2] w2 fun r w3 => r = .returned (.bool true) ∧ doesIs w rb xb L T last E w3
theorem owns_sl3 {a : Option Addr} {n cap base : Nat} {xs : List Slot} (h : ww.ownsRow base 45 3 (.slice a n cap) n (flat xs)) : Sl3s ww a n xs := by
  obtain ⟨a2, cap2, e, h1, _⟩ := sl3s_of_owns h
  simp only [Value.slice.injEq] at e
  obtain ⟨rfl, -, rfl⟩ := e
  exact h1
/-- what went, of both: the program's row is still there behind the document's answer -/
theorem both_end {a a' : Option Addr} {n n' cap cap' base : Nat} (hX : XAt B ww xb mx last E') (hd : doesIs w rb xb L T k E w2) (t : Turned (eB xb mx E') ww w2) (ho : ww.ownsRow base 45 3 (.slice a n cap) n (flat ys)) (h' : Sl3s w2 a' n' zs) (hn' : n' ≤ maxLen) (e : ys = zs) :
    Calls Tryz.prog 13 #[.slice a n cap, .slice a' n' cap'] w2 fun r w' => r = .returned (.bool true) ∧ doesIs w rb xb L T k E w' := by
  have h2 : w2.ownsRow base 45 3 (.slice a n cap) n (flat ys) := owns_same ho fun b hb => t.block b (rown_lt ho hb).1 (own_apart hX ho b hb)
  exact same_end hd (owns_sl3 h2) h' (owns_le2 h2) hn' e
theorem box_apart {b : Nat} {cs : Array Value} {fr : Nat × Nat} (h : XAt B ww xb mx last E) (hh : ww.heap[b]? = some (.cells cs 33 fr)) : b ∉ eB xb mx E := fun hm => by
  unfold eB at hm
  rcases List.mem_cons.1 hm with rfl | hm
  · rw [h.ob] at hh; simp at hh
  · rcases List.mem_cons.1 hm with rfl | hm
    · obtain ⟨E1, cl, h1, _⟩ := h.map
      rw [h1] at hh; simp at hh
    · obtain ⟨e, he, rfl⟩ := List.mem_map.1 hm
      rw [h.vob e he] at hh; simp at hh
/-- letting go, of both -/
theorem rel_both (o : Obj) (h : XSt w wr rb L R F xb last E) (hx : Rl R F L T last E) (hvs : R.vs.length ≤ 200) (hT : T ≤ 2 ^ 20) (hL : L ≤ 2 ^ 20) (hn : n < 2 ^ 64) :
    Calls Tryz.prog 22 #[.pointer (some ⟨rb, 0, none⟩), .int .u64 (n : Nat)] (wr.alloc o) fun r w1 => ∃ (a : Option Addr) (len cap : Nat) (er : Int), r = .returned (.tuple #[.slice a len cap, .int .i64 er]) ∧ w1.heap[wr.heap.size]? = some o ∧
      Calls Tryz.prog 27 #[.pointer (some ⟨xb, 0, none⟩), .int .u64 (n : Nat)] w1 fun r w2 => ∃ a2 len2 cap2, r = .returned (.tuple #[.slice a2 len2 cap2, .int .i64 er]) ∧ Calls Tryz.prog 13 #[.slice a len cap, .slice a2 len2 cap2] w2 fun r w3 => r = .returned (.bool true) ∧ doesIs w rb xb L T last E w3 := by
  obtain ⟨K, h1, hK⟩ := h.alloc o
  have hO := hx.xok hvs
  have none_case : (vget R.vs n = none ∨ ∃ v, vget R.vs n = some v ∧ v.held = 0) → (eget E n = none ∨ ∃ e, eget E n = some e ∧ e.held = 0) := fun hv => by
    rcases hv with hv | ⟨v, hv, h0⟩
    · exact .inl (hx.gon hv)
    · obtain ⟨e, he, _, _, _, h5⟩ := hx.geto hv
      exact .inr ⟨e, he, h5.trans h0⟩
  have refuse : (vget R.vs n = none ∨ ∃ v, vget R.vs n = some v ∧ v.held = 0) → Calls Tryz.prog 22 #[.pointer (some ⟨rb, 0, none⟩), .int .u64 (n : Nat)] (wr.alloc o) fun r w1 => ∃ (a : Option Addr) (len cap : Nat) (er : Int), r = .returned (.tuple #[.slice a len cap, .int .i64 er]) ∧ w1.heap[wr.heap.size]? = some o ∧
      Calls Tryz.prog 27 #[.pointer (some ⟨xb, 0, none⟩), .int .u64 (n : Nat)] w1 fun r w2 => ∃ a2 len2 cap2, r = .returned (.tuple #[.slice a2 len2 cap2, .int .i64 er]) ∧ Calls Tryz.prog 13 #[.slice a len cap, .slice a2 len2 cap2] w2 fun r w3 => r = .returned (.bool true) ∧ doesIs w rb xb L T last E w3 := fun hv => by
    refine (rt_rel_no h1 hn hv).mono fun r w1 ⟨e1, e2⟩ => ?_
    obtain ⟨hs, hob⟩ := hK _ _ _ _ e2
    obtain ⟨mx, hX, hre⟩ := hs.ref
    refine ⟨none, 0, 0, 3, e1, hob, (xrel_no hX hn (none_case hv)).mono fun r w2 ⟨e3, e4⟩ => ?_⟩
    subst e4
    have hd : doesIs w rb xb L T last E w1 := ⟨L, R, F, T, last, E, hs, hx, by omega, by omega, by omega⟩
    exact ⟨none, 0, 0, e3, same_end (ys := []) (zs := []) hd ⟨rfl, .inl rfl⟩ ⟨rfl, .inl rfl⟩ (by decide) (by decide) rfl⟩
  cases hv : vget R.vs n with
  | none => exact refuse (.inl hv)
  | some v =>
    by_cases h0 : v.held = 0
    · exact refuse (.inr ⟨v, hv, h0⟩)
    · obtain ⟨hd, hh⟩ : ∃ hd, v.held = hd + 1 := ⟨v.held - 1, by omega⟩
      have hle : v.held ≤ T := hx.ok.small.2 _ (vget_some hv)
      obtain ⟨e, hge, he, hen, hel, heh⟩ := hx.geto hv
      refine (rt_rel h1 hx.ok hx.fo (by omega) hn hv hh (by omega)).mono fun r w1 ⟨a, len, cap, R', G, ys, e1, e2, e3, e4, e5⟩ => ?_
      obtain ⟨hs, hob⟩ := hK _ _ _ _ e5
      obtain ⟨mx, hX, hre⟩ := hs.ref
      refine ⟨a, len, cap, 0, e1, hob, (xrel_yes (hd := hd) hX hO hs.bel.size hn hge (by rw [heh, hh]) (by omega)).mono fun r w2 ⟨a2, len2, cap2, f1, zs, f2, f3, f4, f5, f6⟩ => ?_⟩
      refine ⟨a2, len2, cap2, f1, ?_⟩
      have hE2 : eswp (ehold E n hd) last { e with held := hd } = if n ≠ last ∧ hd = 0 then edel (ehold E n hd) n else ehold E n hd := by
        unfold eswp
        simp only [hen]
      have hR2 : Rl R' G L T last (eswp (ehold E n hd) last { e with held := hd }) := by rw [hE2]; exact hx.rel hv hh e2
      have hs2 : XSt w w2 rb L R' G xb last (eswp (ehold E n hd) last { e with held := hd }) := hre _ _ _ f5 f6 fun b hb => .inl (xown_ehold (xown_eswp hb))
      have hd2 : doesIs w rb xb L T last E w2 := ⟨L, R', G, T, last, _, hs2, hR2, by omega, by omega, by
        have h1 := esum_swp (ehold E n hd) last { e with held := hd }
        have h2 := esum_hold (d := 0) (n := n) (k := hd) E hx.keys fun x hx1 hx2 => by
          have : x = e := map_key_inj hx.keys hx1 he (by rw [hx2, hen])
          rw [this, heh, hh]; omega
        omega⟩
      refine both_end (ys := ys) hX hd2 f6 e4 f2 f3 ?_
      refine e2.gone.uniq f4 fun s => ?_
      rw [hx.slots s, hR2.slots s]
/-- holding, of both -/
theorem hold_both {o : Obj} {cs : Array Value} (ho : o = .cells cs 33) (h : XSt w wr rb L R F xb last E) (hx : Rl R F L T last E) (hT : T ≤ 2 ^ 20) (hn : n < 2 ^ 64) :
    Calls Tryz.prog 21 #[.pointer (some ⟨rb, 0, none⟩), .int .u64 (n : Nat)] (wr.alloc o).drew fun r w1 => ∃ er : Int, r = .returned (.int .i64 er) ∧ w1.heap[wr.heap.size]? = some o ∧
      Calls Tryz.prog 26 #[.pointer (some ⟨xb, 0, none⟩), .int .u64 (n : Nat)] w1 fun r w2 => r = .returned (.int .i64 er) ∧ w2.heap[wr.heap.size]? = some o ∧ doesIs w rb xb L T last E w2 := by
  obtain ⟨K, h1, hK⟩ := h.alloc o
  have h1 := h1.calm (Turned.refl [] _).drew.below
  cases hv : vget R.vs n with
  | none =>
    refine (rt_hold_no h1 hn hv).mono fun r w1 ⟨e1, e2⟩ => ?_
    obtain ⟨hs, hob⟩ := hK _ _ _ _ e2
    obtain ⟨mx, hX, hre⟩ := hs.ref
    refine ⟨3, e1, hob, (xhold_no hX hn (hx.gon hv)).mono fun r w2 ⟨e3, e4⟩ => ?_⟩
    subst e4
    exact ⟨e3, hob, L, R, F, T, last, E, hs, hx, by omega, by omega, by omega⟩
  | some v =>
    have hle : v.held ≤ T := hx.ok.small.2 _ (vget_some hv)
    obtain ⟨e, hge, he, hen, hel, heh⟩ := hx.geto hv
    refine (rt_hold h1 hn hv (by omega)).mono fun r w1 ⟨e1, e2⟩ => ?_
    obtain ⟨hs, hob⟩ := hK _ _ _ _ e2
    obtain ⟨mx, hX, hre⟩ := hs.ref
    refine ⟨0, e1, hob, (xhold_yes hX hn hge (by omega)).mono fun r w2 ⟨f1, f2, f3⟩ => ?_⟩
    rw [heh] at f2
    have hs2 := hre _ _ _ f2 f3 fun b hb => .inl (xown_ehold hb)
    refine ⟨f1, f3.at hob (box_apart hX (ho ▸ hob)), L, _, F, T + 1, last, _, hs2, hx.hold hv, by omega, by omega, ?_⟩
    have h2 := esum_hold (d := 1) (n := n) (k := v.held + 1) E hx.keys fun x hx1 hx2 => by
        have : x = e := map_key_inj hx.keys hx1 he (by rw [hx2, hen])
        rw [this, heh]; omega
    omega
theorem chgs_ok : ∀ (l : List ChD) (g : Nat → Option Ent), (∀ q x, q < 4096 → g q = some x → x.s.ok) → (∀ c, c ∈ l → c.x.s.ok) → ∀ q x, q < 4096 → chgs g l q = some x → x.s.ok := by
  intro l
  induction l with
  | nil => intro g hg _ q x hq h; exact hg q x hq h
  | cons c l ih =>
    intro g hg hc
    rw [show chgs g (c :: l) = chgs (chg g c) l from rfl]
    refine ih (chg g c) (fun q x hq h => ?_) fun d hd => hc d (List.mem_cons_of_mem _ hd)
    unfold chg at h
    split at h
    · split at h
      · cases h
      · obtain rfl := Option.some.inj h; exact hc c List.mem_cons_self
    · exact hg q x hq h
theorem withs_ok {c : List Pr} {g : Nat → Option Ent} (hc : c = allL g 4096) (hg : ∀ p, p ∈ c → p.2.s.ok) (l : List ChD) (hv : ∀ x, x ∈ l → x.val) (hk : ∀ x, x ∈ l → x.x.s.ok) : (withs c l).length ≤ 4096 ∧ ∀ p, p ∈ withs c l → p.2.s.ok := by
  rw [hc, withs_all 4096 (Nat.le_refl _) l g hv]
  refine ⟨allL_len (chgs g l) 4096, fun p hp => ?_⟩
  obtain ⟨q, x⟩ := p
  obtain ⟨hq, hx⟩ := allL_mem.1 hp
  refine chgs_ok l g (fun q x hq hx => ?_) hk q x hq hx
  have h1 : (q, x) ∈ allL g 4096 := allL_mem.2 ⟨hq, hx⟩
  rw [← hc] at h1
  exact hg (q, x) h1
/-- publishing, of both: the changes were copied for the program -/
theorem pub_both {o : Obj} (h : XSt w wr rb L R F xb last E) (hx : Rl R F L T last E) (hvs : R.vs.length ≤ 100) (hT : T ≤ 2 ^ 20) (hL : L ≤ 2 ^ 20) (bs : Nat) {a : Option Addr} {len cap : Nat} {l : List ChD} (hl : ChsAt w a len l) (hok : ∀ x, x ∈ l → x.ok) (hn : len ≤ 60)
    {ac : Option Addr} {cc : Nat} (b : Below (wr.alloc o).heap.size (wr.alloc o) ww) (hrow : ww.ownsRow (wr.alloc o).heap.size 64 6 (.slice ac len cc) len (l.flatMap encCh)) :
    Calls Tryz.prog 20 #[.pointer (some ⟨rb, 0, none⟩), .int .u64 (bs : Nat), .slice ac len cc] ww fun r w1 => ∃ (n1 : Nat) (a1 : Option Addr) (len1 cap1 : Nat) (er : Int), r = .returned (.tuple #[.int .u64 (n1 : Nat), .slice a1 len1 cap1, .int .i64 er]) ∧ w1.heap[wr.heap.size]? = some o ∧
      Calls Tryz.prog 25 #[.pointer (some ⟨xb, 0, none⟩), .int .u64 (bs : Nat), .slice a len cap] w1 fun r w2 => ∃ a2 len2 cap2, r = .returned (.tuple #[.int .u64 (n1 : Nat), .slice a2 len2 cap2, .int .i64 er]) ∧ Calls Tryz.prog 13 #[.slice a1 len1 cap1, .slice a2 len2 cap2] w2 fun r w3 => r = .returned (.bool true) ∧ doesIs w rb xb L T last E w3 := by
  obtain ⟨K, h1, hK⟩ := h.alloc o
  have hO := hx.xok (by omega)
  have hll := hl.1
  have hchs : ∀ {w1 : World}, XSt w w1 rb L R F xb last E → ChsAt w1 a len l := fun hs => RowsAt.below hl hs.bel
  have hd0 : ∀ {w1 : World}, XSt w w1 rb L R F xb last E → doesIs w rb xb L T last E w1 := fun hs => ⟨L, R, F, T, last, E, hs, hx, by omega, by omega, by omega⟩
  by_cases hb : bs = last
  · subst hb
    have hnow := hx.last
    by_cases hval : ∀ x, x ∈ l → x.val
    · obtain ⟨v, hv⟩ : ∃ v, vget R.vs R.now = some v := by
        obtain ⟨x, hxm, e⟩ := List.mem_map.1 hx.ok.now
        refine ⟨x.2, (vget_iff hx.ok.keys).2 ?_⟩
        rw [← e]; exact hxm
      obtain ⟨e, hge, he, hen, hel, heh⟩ := hx.geto hv
      have hp := rt_pub h1 hx.ok hx.fo (by omega) (by omega) b hrow hok (by omega) hval hv
      rw [← hnow] at hp hge hen
      refine hp.mono fun r w1 ⟨a1, len1, cap1, R', G, ys, e1, e2, e3, e4, e5, e6⟩ => ?_
      obtain ⟨hs, hob⟩ := hK _ _ _ _ e6
      obtain ⟨mx, hX, hre⟩ := hs.ref
      have hsm := hx.ok.small.1
      refine ⟨bs + 1, a1, len1, cap1, 0, e1, hob, (xpub_fn hX hO (by rw [hx.len]; omega) hs.bel.size (by omega) (fun x hxm => by
          obtain ⟨u, hu, _⟩ := hx.fw x hxm
          have := hx.ok.le _ (vget_key hu)
          omega) hge a len cap l (RowsAt.below hl hs.bel) hok (by omega) hval (fun j => ?_)).mono fun r w2 ⟨a2, len2, cap2, bb, sv, f1, ⟨zs, f2, f3, f4, f5, f6⟩, f7⟩ => ?_⟩
      · have hm := mapL_ok hx.fo hx.ok hv
        rw [← hel] at hm
        refine withs_ok (g := getL 2 F v.root) hel hm.2 (l.take j) (fun x hxm => hval x (List.mem_of_mem_take hxm)) fun x hxm => (hok x (List.mem_of_mem_take hxm)).2.1
      · refine ⟨a2, len2, cap2, f1, ?_⟩
        have hE2 : eswp (E ++ [⟨bs + 1, bb, sv, withs e.l l, 0⟩]) (bs + 1) e = if e.held = 0 then edel (E ++ [⟨bs + 1, bb, sv, withs e.l l, 0⟩]) bs else E ++ [⟨bs + 1, bb, sv, withs e.l l, 0⟩] := by
          unfold eswp
          rw [hen]
          by_cases h0 : e.held = 0
          · rw [if_pos h0, if_pos ⟨by omega, h0⟩]
          · rw [if_neg h0, if_neg fun h => h0 h.2]
        have hR2 : Rl R' G (L + 1 + 3 * l.length) (T + 1) (bs + 1) (eswp (E ++ [⟨bs + 1, bb, sv, withs e.l l, 0⟩]) (bs + 1) e) := by rw [hE2]; exact hx.pub hv e2 hval he hen
        have hs2 := hre _ _ _ f5 f6 f7
        have hd2 : doesIs w rb xb L T bs E w2 := ⟨_, R', G, T + 1, bs + 1, _, hs2, hR2, by omega, by omega, by
          have h1 := esum_swp (E ++ [⟨bs + 1, bb, sv, withs e.l l, 0⟩]) (bs + 1) e
          have h2 := esum_app E [⟨bs + 1, bb, sv, withs e.l l, 0⟩]
          have h3 : esum [(⟨bs + 1, bb, sv, withs e.l l, 0⟩ : XE)] = 0 := rfl
          omega⟩
        refine both_end (ys := ys) hX hd2 f6 e5 f2 f3 ?_
        refine e3.uniq f4 fun s => ?_
        rw [hx.slots s, hR2.slots s]
    · obtain ⟨_, _, e8, hch, _⟩ : ∃ a cap, (Value.slice ac len cc) = .slice a len cap ∧ ChsAt ww a len l ∧ True := by
        obtain ⟨a, cap, e, hh⟩ := chsAt_of hrow
        exact ⟨a, cap, e, hh, trivial⟩
      simp only [Value.slice.injEq] at e8
      obtain ⟨rfl, -, rfl⟩ := e8
      have hp := rt_bad (h1.calm b) ac len cc l hch hok (by unfold maxLen; omega) hval
      rw [← hnow] at hp
      refine hp.mono fun r w1 ⟨e1, e2⟩ => ?_
      obtain ⟨hs, hob⟩ := hK _ _ _ _ e2
      obtain ⟨mx, hX, hre⟩ := hs.ref
      refine ⟨0, none, 0, 0, 2, e1, hob, (xpub_bad hX a len cap l (RowsAt.below hl hs.bel) (by unfold maxLen; omega) hval).mono fun r w2 ⟨e3, e4⟩ => ⟨none, 0, 0, e3, ?_⟩⟩
      exact same_end (ys := []) (zs := []) (hd0 (hs.calm e4)) ⟨rfl, .inl rfl⟩ ⟨rfl, .inl rfl⟩ (by decide) (by decide) rfl
  · have hnow := hx.last
    refine (rt_stale (h1.calm b) (base := bs) (by omega) ac len cc).mono fun r w1 ⟨e1, e2⟩ => ?_
    obtain ⟨hs, hob⟩ := hK _ _ _ _ e2
    obtain ⟨mx, hX, hre⟩ := hs.ref
    refine ⟨0, none, 0, 0, 240, e1, hob, (xpub_stale hX hb a len cap).mono fun r w2 ⟨e3, e4⟩ => ⟨none, 0, 0, e3, ?_⟩⟩
    exact same_end (ys := []) (zs := []) (hd0 (e4 ▸ hs)) ⟨rfl, .inl rfl⟩ ⟨rfl, .inl rfl⟩ (by decide) (by decide) rfl
end Go.Proofs.YtmpbhoijkcanmaaGreat.R

/- Versions of both kinds side by side: a call, of both: the walk. -/
namespace Go.Proofs.YtmpbhoijkcanmaaGreat.R
open Go.ChangeShapes Go.WideShapes Go.ChangeAt Go.RowKit Go.Maps Go.Proofs.YtmpbhoijkcanmaaGreat.G Go.Joins
set_option linter.unusedVariables false
set_option linter.unusedSimpArgs false
set_option linter.unnecessarySimpa false

variable {w ww w' w1 w2 wr : World} {rb xb mx last L L' T n k B : Nat} {R R' : Ro} {F G : Fo} {E E' : List XE}
set_option maxRecDepth 100000 in
set_option maxHeartbeats 16000000 in
theorem does_fn (h : XSt w wr rb L R F xb last E) (hx : Rl R F L T last E) (hvs : R.vs.length ≤ 100) (hT : T ≤ 2 ^ 20) (hL : L ≤ 2 ^ 20) (c : CallD) (hc : c.ok w) (hl : c.len ≤ 60) :
    Calls Tryz.prog 8 #[.pointer (some ⟨rb, 0, none⟩), .pointer (some ⟨xb, 0, none⟩), .agg #[.int .u8 (c.op : Nat), .bool c.odd, .int .u64 (c.n : Nat), .slice c.a c.len c.cap]] wr fun r w' => r = .returned (.bool true) ∧ doesIs w rb xb L T last E w' := by
  obtain ⟨op, odd, cn, ca, cl, cc, ch⟩ := c
  simp only at hl ⊢
  have hop := hc.op
  have hnn := hc.n
  simp only at hop hnn
  have hnew := fun j u hu => cells_new wr [.int .u8 (op : Nat), .bool odd, .int .u64 (cn : Nat), .slice ca cl cc] 33 j u hu
  have g0 := hnew 0 _ rfl
  have g1 := hnew 1 _ rfl
  have g2 := hnew 2 _ rfl
  have g3 := hnew 3 _ rfl
  rw [addr_add_none, Nat.zero_add] at g0 g1 g2 g3
  obtain ⟨d, hd⟩ : ∃ d, op % 8 = d := ⟨_, rfl⟩
  have hd8 : d < 8 := by omega
  have hr : ((op : Int)).tmod 8 = (d : Nat) := by
    rw [Int.tmod_eq_emod_of_nonneg (by omega)]; omega
  have hwd : IntKind.u8.wrap ((d : Nat) : Int) = (d : Nat) := IntWalk.u8_in _ (by omega)
  have hbel : Below w.heap.size w (wr.alloc (.cells #[.int .u8 (op : Nat), .bool odd, .int .u64 (cn : Nat), .slice ca cl cc] 33)) := h.bel.trans (((Turned.refl [] wr).alloc _).below.mono h.bel.size)
  obtain ⟨mx0, hX0, _⟩ := h.ref
  have y1 := (hX0.calm (((Turned.refl [] wr).alloc (.cells #[.int .u8 (op : Nat), .bool odd, .int .u64 (cn : Nat), .slice ca cl cc] 33)).below)).c1
  have HAt : Hid (∀ o, ChsAt ((wr.alloc (.cells #[.int .u8 (op : Nat), .bool odd, .int .u64 (cn : Nat), .slice ca cl cc] 33)).alloc o) ca cl ch ∧ (ca = none → cc = 0)) := fun o => ⟨RowsAt.below hc.at_ (hbel.trans (((Turned.refl [] _).alloc o).below.mono hbel.size)), hc.cap⟩
  have HG3 : Hid (∀ o, ((wr.alloc (.cells #[.int .u8 (op : Nat), .bool odd, .int .u64 (cn : Nat), .slice ca cl cc] 33)).alloc o).cell? ⟨wr.heap.size, 3, none⟩ = some (.slice ca cl cc)) := fun o => ((Turned.refl [] _).alloc o).cell g3 (by simp)
  have HP := Lib.hid (fun bs ww ac cc' (b : Below (wr.alloc (.cells #[.int .u8 (op : Nat), .bool odd, .int .u64 (cn : Nat), .slice ca cl cc] 33)).heap.size (wr.alloc (.cells #[.int .u8 (op : Nat), .bool odd, .int .u64 (cn : Nat), .slice ca cl cc] 33)) ww) hrow => pub_both (ww := ww) (ac := ac) (cc := cc') (cap := cc) h hx hvs hT hL bs hc.at_ hc.chs hl b hrow)
  have HH := Lib.hid (hold_both (o := .cells #[.int .u8 (op : Nat), .bool odd, .int .u64 (cn : Nat), .slice ca cl cc] 33) rfl h hx hT hnn)
  have HR := Lib.hid (rel_both (.cells #[.int .u8 (op : Nat), .bool odd, .int .u64 (cn : Nat), .slice ca cl cc] 33) h hx (by omega) hT hL hnn)
  have HBx : Hid (∀ {w1 : World} {i : Nat} {v : Value}, w1.heap[wr.heap.size]? = some (.cells #[.int .u8 (op : Nat), .bool odd, .int .u64 (cn : Nat), .slice ca cl cc] 33) → #[Value.int .u8 (op : Nat), .bool odd, .int .u64 (cn : Nat), .slice ca cl cc][i]? = some v → w1.cell? ⟨wr.heap.size, i, none⟩ = some v) := fun h1 h2 => by simp [World.cell?, h1]; simpa using h2
  clear h hx hc hnew hbel hX0 hvs hT hL
  go_enter Tryz.func8, Tryz.ntmps8
  go_upto_region 1 with fail
  generalize wr.alloc (.cells #[.int .u8 (op : Nat), .bool odd, .int .u64 (cn : Nat), .slice ca cl cc] 33) = wx at *
  generalize wr.heap.size = cb at *
  go_upto_if 21 with fail
  go_cut [21] (fun u wv => u = .bool (decide (d < 4)) ∧ wv = wx)
  case first =>
    have hcs : d = 0 ∨ d = 1 ∨ d = 2 ∨ d = 3 ∨ d = 4 ∨ d = 5 ∨ d = 6 ∨ d = 7 := by omega
    clear hd hr hwd
    rcases hcs with rfl | rfl | rfl | rfl | rfl | rfl | rfl | rfl
    all_goals
      go_wp2
      go_meet
      exact ⟨rfl, rfl⟩
  case rest =>
    obtain ⟨hu, hwx⟩ := hcut
    subst hu
    rw [hwx]
    clear hwx
    by_cases hd4 : d < 4
    · have hdd : decide (d < 4) = true := by simpa using hd4
      rw [hdd]
      obtain ⟨bs, hbs⟩ : ∃ bs, (if odd = true then cn else last) = bs := ⟨_, rfl⟩
      have HP2 := Lib.hid (HP.out bs)
      have g3a := HG3.out (.cells #[] 64)
      clear HH HR HP hd hr hwd hd8 hop hnn
      have hcs : odd = true ∨ odd = false := by cases odd <;> simp
      rcases hcs with rfl | rfl
      all_goals
        simp only [if_true, Bool.false_eq_true, if_false] at hbs
        subst hbs
        go_wp2_with (first
          | (at_builtin; refine wpList_append_chs rfl _ _ rfl wx.heap.size _ rfl (owns_empty wx 64 6) ca cl cc ch rfl (HAt.out _).1 (HAt.out (.map #[] 0)).2 (by omega) (by simp) ?_; intro v3 w3 ho3 hg3; obtain ⟨a3, c3, rfl, -⟩ := chsAt_of ho3; have O3 := Lib.hid (And.intro ho3 (below_app2 hg3)); clear ho3 hg3)
          | (go_at_call 20; ((with_reducible refine (HP2.out _ _ _ O3.out.2 O3.out.1).mono ?_); rintro r w4 ⟨n1, a1, len1, cap1, er, rfl, hb4, hx4⟩; have k3 := HBx.out (i := 3) hb4 rfl; have X4 := Lib.hid hx4; clear hx4 hb4 g3 g3a))
          | (go_at_call 25; ((with_reducible refine X4.out.mono ?_); rintro r w5 ⟨a2, len2, cap2, rfl, hs5⟩; have X5 := Lib.hid hs5; clear hs5))
          | (go_at_call 13; ((with_reducible refine X5.out.mono ?_); rintro r w6 ⟨rfl, hd6⟩; have D6 := Lib.hid hd6; clear hd6)))
        go_ret
        exact ⟨rfl, D6.out⟩
    · have hdd : decide (d < 4) = false := by simpa using hd4
      rw [hdd]
      have hcs : (d = 4 ∨ d = 5) ∨ d = 6 ∨ d = 7 := by omega
      clear HP HG3 HAt hd hr hwd hd8 hop hnn hdd hd4
      rcases hcs with hcs | hcs
      · clear HR
        rcases hcs with rfl | rfl
        all_goals
          go_upto_region 14 with fail
          go_region_held3 (fun w' => w'.cell? ⟨cb, 2, none⟩ = some (.int .u64 (cn : Nat))) (first | exact K5.out | exact K4.out | go_keep)
            (first
              | (go_at_call 21; ((with_reducible refine HH.out.mono ?_); rintro r w4 ⟨er, rfl, hb4, hx4⟩; have K4 := Lib.hid (HBx.out (i := 2) hb4 rfl); have X4 := Lib.hid hx4; clear hx4 hb4))
              | (go_at_call 26; ((with_reducible refine X4.out.mono ?_); rintro r w5 ⟨rfl, hb5, hd5⟩; have K5 := Lib.hid (HBx.out (i := 2) hb5 rfl); have D5 := Lib.hid hd5; clear hd5 hb5)))
          go_wp2
          go_ret
          exact ⟨by simp, D5.out⟩
      · clear HH
        rcases hcs with rfl | rfl
        all_goals
          go_wp2_with (first
            | (go_at_call 22; ((with_reducible refine HR.out.mono ?_); rintro r w4 ⟨a1, len1, cap1, er, rfl, hb4, hx4⟩; have k2 := HBx.out (i := 2) hb4 rfl; have X4 := Lib.hid hx4; clear hx4 hb4 g2))
            | (go_at_call 27; ((with_reducible refine X4.out.mono ?_); rintro r w5 ⟨a2, len2, cap2, rfl, hs5⟩; have X5 := Lib.hid hs5; clear hs5))
            | (go_at_call 13; ((with_reducible refine X5.out.mono ?_); rintro r w6 ⟨rfl, hd6⟩; have D6 := Lib.hid hd6; clear hd6)))
          go_ret
          exact ⟨rfl, D6.out⟩
end Go.Proofs.YtmpbhoijkcanmaaGreat.R

/- Versions of both kinds side by side: getting a page. -/
namespace Go.Proofs.YtmpbhoijkcanmaaGreat.R
open Go.ChangeShapes Go.WideShapes Go.ChangeAt Go.RowKit Go.Maps Go.Proofs.YtmpbhoijkcanmaaGreat.G Go.Joins
set_option linter.unusedVariables false
set_option linter.unusedSimpArgs false
set_option linter.unnecessarySimpa false

variable {w ww w' : World} {rb xb mx last L T n : Nat} {R : Ro} {F : Fo} {Kx K : List (Nat × Obj)} {f mb : Nat} {mo : Obj} {blk : Nat → Nat} {E : List XE} {e : XE}
set_option maxRecDepth 100000 in
set_option maxHeartbeats 4000000 in
theorem rget_page (h : RtA w ww rb L R F Kx f mb mo blk) (hn : n < 2 ^ 64) {v : Vr} (hv : vget R.vs n = some v) (pg : Int) {o : Option Ent} (hG : ∀ w2, RtA w w2 rb L R F Kx f mb mo blk → Calls Tryz.prog 33 #[.pointer (some ⟨f, 0, none⟩), .int .i64 (v.root : Nat), .int .i64 pg] w2 (getPost o w2)) {x : Ent} (hx : o.getD zeroE = x) :
    Calls Tryz.prog 16 #[.pointer (some ⟨rb, 0, none⟩), .int .u64 (n : Nat), .int .i64 pg] ww (rgetPost ww x o.isSome 0) := by
  obtain ⟨v0, hd⟩ := v
  obtain ⟨⟨xe, xc, xi⟩, xg⟩ := x
  have h1 : RtA w (ww.alloc (varE 0 0 0 0)) rb L R F Kx f mb mo blk := h.calm ((Turned.refl [] ww).alloc _).below
  have hd0 := h1.reads hn hv
  have hnw := ent_new ww 47 ⟨⟨0, 0, 0⟩, 0⟩
  obtain ⟨is, his⟩ : ∃ is, o.isSome = is := ⟨_, rfl⟩
  have CA : Hid (Calls Tryz.prog 33 #[.pointer (some ⟨f, 0, none⟩), .int .i64 (v0 : Nat), .int .i64 pg] (ww.alloc (varE 0 0 0 0)).drew fun e w' => e = .returned (.tuple #[.agg #[.int .i64 xe, .int .i64 xc, .int .i64 xi, .int .i64 xg], .bool is]) ∧ Below (ww.alloc (varE 0 0 0 0)).heap.size (ww.alloc (varE 0 0 0 0)) w') :=
    (hG _ h1.drew).mono fun e w' ⟨e1, e2⟩ => by
      rw [hx, his] at e1
      exact ⟨e1, (Turned.refl [] _).drew.below.trans e2⟩
  have HA : Hid (∀ w', Below (ww.alloc (varE 0 0 0 0)).heap.size (ww.alloc (varE 0 0 0 0)) w' → Reads w' rb f mb n (blk n) v0 hd ∧ EntAt w' ww.heap.size ⟨⟨0, 0, 0⟩, 0⟩) := fun w' hb => ⟨(h1.calm hb).reads hn hv, by
    have t := Turned.of_below hb
    exact ⟨t.cell hnw.c0 (by simp), t.cell hnw.c1 (by simp), t.cell hnw.c2 (by simp), t.cell hnw.c3 (by simp)⟩⟩
  have HFz : Hid (∀ w', Below (ww.alloc (varE 0 0 0 0)).heap.size (ww.alloc (varE 0 0 0 0)) w' → ∀ j, w'.frozen? ⟨ww.heap.size, j, none⟩ = false) := fun w' hb j => by
    have hbk := (Turned.of_below hb).at (World.alloc_heap_new ww (varE 0 0 0 0)) (by simp)
    exact unfrozen_of_block hbk j
  have CN := Lib.hid (rnone_fn h1)
  have HB : Hid (Below ww.heap.size ww (ww.alloc (varE 0 0 0 0))) := ((Turned.refl [] ww).alloc _).below
  have HNe0 : Hid (rb ∉ [ww.heap.size] ∧ blk n ∉ [ww.heap.size]) := by
    have l1 := lt_of_at h.rob
    have l2 := lt_of_at (h.vob hv)
    exact Lib.hid ⟨by simp; omega, by simp; omega⟩
  obtain ⟨bn, hbn⟩ : ∃ bn, blk n = bn := ⟨_, rfl⟩
  rw [hbn] at hd0 HA HNe0
  obtain ⟨c0, c1, hlk, d0, d1⟩ := hd0
  rw [his]
  clear h hv hG hbn his hx hnw h1
  go_enter Tryz.func16, Tryz.ntmps16
  go_upto_region 6 with (go_at_call 28; ((with_reducible refine CN.out.mono ?_); rintro e ww2 ⟨rfl, rfl⟩))
  generalize ww.alloc (varE 0 0 0 0) = w1 at *
  obtain ⟨B, hB⟩ : ∃ B, ww.heap.size = B := ⟨_, rfl⟩
  rw [hB] at HA HB HFz HNe0
  rw [hB]
  have HBe := Lib.hid hB
  have HNe : Hid (rb ∉ [B] ∧ bn ∉ [B]) := HNe0.out
  have HA0 := HA.out w1 (Below.refl _ _)
  have e0 := HA0.2.c0
  have e1 := HA0.2.c1
  have e2 := HA0.2.c2
  have e3 := HA0.2.c3
  simp only at e0 e1 e2 e3
  clear HA0 hB
  go_region_held3 (fun w' => w'.cell? ⟨rb, 0, none⟩ = some (.pointer (some ⟨f, 0, none⟩)) ∧ w'.cell? ⟨bn, 0, none⟩ = some (.int .i64 (v0 : Nat)))
    (first | exact K3.out | exact ⟨((((((Turned.refl [B] w3).setCell (p := ⟨B, 0, none⟩) (.inl (List.mem_singleton.2 rfl)) _).setCell (p := ⟨B, 1, none⟩) (.inl (List.mem_singleton.2 rfl)) _).setCell (p := ⟨B, 2, none⟩) (.inl (List.mem_singleton.2 rfl)) _).setCell (p := ⟨B, 3, none⟩) (.inl (List.mem_singleton.2 rfl)) _)).cell K3.out.1 HNe.out.1, ((((((Turned.refl [B] w3).setCell (p := ⟨B, 0, none⟩) (.inl (List.mem_singleton.2 rfl)) _).setCell (p := ⟨B, 1, none⟩) (.inl (List.mem_singleton.2 rfl)) _).setCell (p := ⟨B, 2, none⟩) (.inl (List.mem_singleton.2 rfl)) _).setCell (p := ⟨B, 3, none⟩) (.inl (List.mem_singleton.2 rfl)) _)).cell K3.out.2 HNe.out.2⟩ | go_keep)
    (first
      | (go_at_call 33; ((with_reducible refine CA.out.mono ?_); rintro e w3 ⟨rfl, hb3⟩; have S3 := Lib.hid hb3; have K3 : Hid (w3.cell? ⟨rb, 0, none⟩ = some (.pointer (some ⟨f, 0, none⟩)) ∧ w3.cell? ⟨bn, 0, none⟩ = some (.int .i64 (v0 : Nat))) := ⟨(HA.out _ hb3).1.c0, (HA.out _ hb3).1.d0⟩; have HE3 := Lib.hid (HA.out _ hb3).2; obtain ⟨k0, k1, k2, k3⟩ := (HA.out _ hb3).2; simp only at k0 k1 k2 k3; have f0 := HFz.out _ hb3 0; have f1 := HFz.out _ hb3 1; have f2 := HFz.out _ hb3 2; have f3 := HFz.out _ hb3 3; clear hb3)))
  go_wp2
  have hp1 := HE3.out.put ⟨⟨xe, xc, xi⟩, xg⟩
  have hp := hp1.1.put ⟨⟨xe, xc, xi⟩, xg⟩
  have ht := hp1.2.trans hp.2
  obtain ⟨p0, p1, p2, p3⟩ := hp.1
  unfold putE at p0 p1 p2 p3 ht
  simp only at p0 p1 p2 p3 ht
  clear hp hp1
  have hbf := HB.out
  rw [← HBe.out] at hbf
  have hbl := Turned.below_of (hbf.trans (S3.out.mono hbf.size)) ht (by simp [HBe.out])
  exact bodyPost_ret (v := .tuple #[.agg #[.int .i64 xe, .int .i64 xc, .int .i64 xi, .int .i64 xg], .bool is, .int .i64 0]) (by simp [results, Tryz.results16, go_sem, p0, p1, p2, p3]) rfl ⟨rfl, hbl⟩
theorem pget_all {g : Nat → Option Ent} {N q : Nat} (hq : q < N) : pget (allL g N) (q : Int) = g q := by
  unfold pget
  cases h : (allL g N).find? fun p => decide ((p.1 : Int) = (q : Int)) with
  | none =>
    cases hg : g q with
    | none => rfl
    | some e =>
      have := List.find?_eq_none.1 h (q, e) (allL_mem.2 ⟨hq, hg⟩)
      simp at this
  | some p =>
    have h1 := List.find?_some h
    have h2 := List.mem_of_find?_eq_some h
    obtain ⟨a, x⟩ := p
    simp only [decide_eq_true_eq] at h1
    have h3 : a = q := by omega
    subst h3
    rw [(allL_mem.1 h2).2]; rfl
theorem pget_out {g : Nat → Option Ent} {N : Nat} {pg : Int} (h : ¬ (0 ≤ pg ∧ pg < N)) : pget (allL g N) pg = none := by
  unfold pget
  have : (allL g N).find? (fun p => decide ((p.1 : Int) = pg)) = none := by
    rw [List.find?_eq_none]
    rintro ⟨a, x⟩ hp
    have := (allL_mem.1 hp).1
    simp only [decide_eq_true_eq]
    omega
  rw [this]; rfl
/-- a page, of the program -/
theorem rget_any (h : RtM w ww rb L R F K) (hL : L ≤ 2 ^ 34) (hR : RoOk R F T) (hn : n < 2 ^ 64) {v : Vr} (hv : vget R.vs n = some v) (pg : Int) :
    Calls Tryz.prog 16 #[.pointer (some ⟨rb, 0, none⟩), .int .u64 (n : Nat), .int .i64 pg] ww (rgetPost ww ((pget (mapL F v.root) pg).getD zeroE) (pget (mapL F v.root) pg).isSome 0) := by
  obtain ⟨f, mb, mo, blk, h⟩ := h
  refine rget_page h hn hv pg (fun w2 h2 => ?_) rfl
  unfold mapL
  by_cases hp : 0 ≤ pg ∧ pg < 4096
  · obtain ⟨q, rfl⟩ : ∃ q : Nat, pg = q := ⟨pg.toNat, by omega⟩
    rw [pget_all (by omega)]
    exact get_lv h2.lk.1 hL (hR.root hv) (by omega)
  · rw [pget_out (by simpa using hp)]
    obtain ⟨p, rfl, h3, h4⟩ := h2.lk.1
    refine get_out ?_ pg (.inr ?_) w2 h3.fo
    · have hok := h3.ok
      have hr' := hok.inv.root (hR.root hv)
      have hlt : v.root < 2 ^ 60 := by
        rcases hr' with h0 | ⟨h1, _⟩
        · omega
        · have := (hok.inv.pos _ h1).2; have := hok.last; omega
      unfold I64; omega
    · unfold pageB
      simp only [Bool.and_eq_false_iff, decide_eq_false_iff_not]
      omega
end Go.Proofs.YtmpbhoijkcanmaaGreat.R
