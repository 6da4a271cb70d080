/- Slots: a slot is dropped. -/
import Derived.Test.YtaikapgpkkpdjaaDoorSA
import Derived.Deep.RegionHeld3
namespace Go.Proofs.YtaikapgpkkpdjaaDoor.L
open Go.ChangeShapes Go.WideShapes Go.ChangeAt Go.RowKit Go.Maps Go.Proofs.YtaikapgpkkpdjaaDoor.G
set_option linter.unusedVariables false
set_option linter.unusedSimpArgs false

/-- block b holds O -/
def AtB (w : World) (b : Nat) (O : Obj) : Prop := w.heap[b]? = some O
theorem AtB.drew {w : World} {b : Nat} {O : Obj} (h : AtB w b O) : AtB w.drew b O := h
theorem AtB.alloc {w : World} {b : Nat} {O : Obj} (h : AtB w b O) (o : Obj) : AtB (w.alloc o) b O := by
  unfold AtB; rw [heap_alloc_old w _ (lt_of_at h)]; exact h
theorem AtB.set {w : World} {b : Nat} {O : Obj} (h : AtB w b O) {p : Addr} (hp : p.block ≠ b) (v : Value) : AtB (w.setCell p v) b O := by
  unfold AtB; rw [((Turned.refl [p.block] w).setCell (.inl (by simp)) v).block b (lt_of_at h) (by simpa using hp.symm)]; exact h
theorem zero80 (w : World) : (zeroValue 80).run Tryd.prog w = .ok (encT false 0) w := by kernel_rfl

set_option maxRecDepth 100000 in
set_option maxHeartbeats 4000000 in
theorem drop_no (bs be bm n : Nat) (pg : Int) (ex : Exts) (l : States) (x : Slot) (ep : Nat) (hx : I64 x.e ∧ I64 x.c ∧ I64 x.i) (w : World) (h : SlotsAt w bs be bm n pg ex l)
    (v : Bool) (e : Nat) (is : Bool) (hl : (mget l x).getD (encT false 0) = encT v e) (his : (mget l x).isSome = is) (hno : is = false ∨ v = true) :
    Calls Tryd.prog 24 #[.pointer (some ⟨bs, 0, none⟩), encS x, .int .u64 ep] w fun e w' => e = .returned (.int .i64 3) ∧ Below w.heap.size w w' := by
  obtain ⟨xe, xc, xi⟩ := x
  have hcm := h.states
  have hbs : bs < w.heap.size := lt_of_cell h.states
  have qT : ∀ (w : World) (r : Option Nat), (binOp .eql 64 (.map r) (.map none)).run Tryd.prog w = .ok (.bool r.isNone) w := fun w r => run_eql_map_nil w 64 24 80 r Tryd.underlying64
  obtain ⟨kk, hkk⟩ := key24 ⟨xe, xc, xi⟩ hx
  obtain ⟨O, hO⟩ : ∃ O, w.heap[bm]? = some O := ⟨_, Array.getElem?_eq_getElem h.map.lt⟩
  have hbm : bm < w.heap.size := h.map.lt
  have hlook : ∀ w' : World, AtB w' bm O → (Instr.lookup 64 (.map (some bm)) (.agg #[.int .i64 xe, .int .i64 xc, .int .i64 xi]) true).run Tryd.prog w' = .ok (.tuple #[.agg #[.bool v, .int .u64 e], .bool is]) w' := by
    intro w' hw'
    have := (h.map.kept (w' := w') (by rw [show w'.heap[bm]? = some O from hw', hO])).run_look keyed24 encS_inj Tryd.underlying64 (zero80 w') ⟨xe, xc, xi⟩ hkk true
    rw [hl, his] at this
    exact this
  have hO2 : AtB (w.alloc (.cells #[.int .i64 xe, .int .i64 xc, .int .i64 xi] 24)) bm O := AtB.alloc hO _
  have hb0 : ∀ j u, [Value.int .i64 xe, .int .i64 xc, .int .i64 xi][j]? = some u → (w.alloc (.cells #[.int .i64 xe, .int .i64 xc, .int .i64 xi] 24)).cell? ((⟨w.heap.size, 0, none⟩ : Addr).add j) = some u := fun j u => cells_new w _ 24 j u
  have hc0 := hb0 0 _ rfl
  have hc1 := hb0 1 _ rfl
  have hc2 := hb0 2 _ rfl
  have hc3 : (w.alloc (.cells #[.int .i64 xe, .int .i64 xc, .int .i64 xi] 24)).cell? ⟨bs, 2, none⟩ = some (.map (some bm)) := ((Turned.refl [] w).alloc _).cell hcm (by simp)
  change (w.alloc (.cells #[.int .i64 xe, .int .i64 xc, .int .i64 xi] 24)).cell? ⟨w.heap.size, 0, none⟩ = _ at hc0
  change (w.alloc (.cells #[.int .i64 xe, .int .i64 xc, .int .i64 xi] 24)).cell? ⟨w.heap.size, 1, none⟩ = _ at hc1
  change (w.alloc (.cells #[.int .i64 xe, .int .i64 xc, .int .i64 xi] 24)).cell? ⟨w.heap.size, 2, none⟩ = _ at hc2
  have HB : Hid (Below w.heap.size w (w.alloc (.cells #[.int .i64 xe, .int .i64 xc, .int .i64 xi] 24))) := (Below.refl _ w).alloc (Nat.le_refl _) _
  have HBs : Hid (w.heap.size ≤ (w.alloc (.cells #[.int .i64 xe, .int .i64 xc, .int .i64 xi] 24)).heap.size) := HB.out.size
  have hBs := HBs
  have HC := Lib.hid (And.intro hc0 (And.intro hc1 (And.intro hc2 (And.intro hc3 hO2))))
  have HK := Lib.hid hlook
  have HNo := Lib.hid hno
  clear h hkk hl his hx hb0 hc0 hc1 hc2 hc3 hO2 hlook hO hno
  unfold encS
  go_enter Tryd.func24, Tryd.ntmps24
  go_upto_region 3 with fail
  obtain ⟨hc0, hc1, hc2, hc3, hO2⟩ := HC.out
  have hlook := HK.out
  clear HC HK hcm
  have hA1 : ∀ w : World, AtB w bm O → AtB w.drew bm O := fun _ h => h.drew
  have hA2 : ∀ (w : World) (o : Obj), AtB w bm O → AtB (w.alloc o) bm O := fun _ o h => h.alloc o
  generalize w.alloc (.cells #[.int .i64 xe, .int .i64 xc, .int .i64 xi] 24) = w1 at *
  obtain ⟨B, hBe⟩ : ∃ B, w.heap.size = B := ⟨_, rfl⟩
  rw [hBe] at hc0 hc1 hc2 HB hBs HBs
  rw [hBe]
  have HBe := Lib.hid hBe
  clear hBe
  go_region_held3 (fun w' => w'.cell? ⟨bs, 2, none⟩ = some (.map (some bm)) ∧ w'.cell? ⟨B, 0, none⟩ = some (.int .i64 xe) ∧ w'.cell? ⟨B, 1, none⟩ = some (.int .i64 xc) ∧ w'.cell? ⟨B, 2, none⟩ = some (.int .i64 xi) ∧ AtB w' bm O) (go_keep) (fail)
  all_goals
    have hend : Hid (Below B w (w1.alloc (.cells #[.bool v, .int .u64 e] 80)).drew) := by
      have hb := HB.out
      exact hb.trans (((Below.refl w1.heap.size w1).alloc (Nat.le_refl _) (.cells #[.bool v, .int .u64 e] 80)).drew.mono hBs.out)
    have hr1 : (w1.alloc (.cells #[.bool v, .int .u64 e] 80)).drew.cell? ⟨w1.heap.size, 0, none⟩ = some (.bool v) := cells_new w1 [.bool v, .int .u64 e] 80 0 _ rfl
    generalize (w1.alloc (.cells #[.bool v, .int .u64 e] 80)).drew = w2 at *
    generalize w1.heap.size = b2 at *
    rcases HNo.out with rfl | rfl
    · go_wp2
      go_ret
      exact ⟨rfl, HBe.out.symm ▸ hend.out⟩
    · cases is
      all_goals
        go_wp2
        go_ret
        exact ⟨rfl, HBe.out.symm ▸ hend.out⟩

set_option maxRecDepth 100000 in
set_option maxHeartbeats 4000000 in
theorem drop_ok (bs be bm n : Nat) (pg : Int) (ex : Exts) (l : States) (x : Slot) (ep : Nat) (hx : I64 x.e ∧ I64 x.c ∧ I64 x.i) (w : World) (h : SlotsAt w bs be bm n pg ex l)
    (e : Nat) (hl : mget l x = some (encT false e)) :
    Calls Tryd.prog 24 #[.pointer (some ⟨bs, 0, none⟩), encS x, .int .u64 ep] w fun e w' => e = .returned (.int .i64 0) ∧ SlotsAt w' bs be bm n pg ex (mput l x (encT true ep)) ∧ Turned [bm] w w' := by
  obtain ⟨xe, xc, xi⟩ := x
  have hcm := h.states
  have hbs : bs < w.heap.size := lt_of_cell h.states
  have qT : ∀ (w : World) (r : Option Nat), (binOp .eql 64 (.map r) (.map none)).run Tryd.prog w = .ok (.bool r.isNone) w := fun w r => run_eql_map_nil w 64 24 80 r Tryd.underlying64
  obtain ⟨kk, hkk⟩ := key24 ⟨xe, xc, xi⟩ hx
  obtain ⟨O, hO⟩ : ∃ O, w.heap[bm]? = some O := ⟨_, Array.getElem?_eq_getElem h.map.lt⟩
  have hbm : bm < w.heap.size := h.map.lt
  have hlook : ∀ w' : World, AtB w' bm O → (Instr.lookup 64 (.map (some bm)) (.agg #[.int .i64 xe, .int .i64 xc, .int .i64 xi]) true).run Tryd.prog w' = .ok (.tuple #[.agg #[.bool false, .int .u64 e], .bool true]) w' := by
    intro w' hw'
    have := (h.map.kept (w' := w') (by rw [show w'.heap[bm]? = some O from hw', hO])).run_look keyed24 encS_inj Tryd.underlying64 (zero80 w') ⟨xe, xc, xi⟩ hkk true
    rw [hl] at this
    exact this
  have hO2 : AtB (w.alloc (.cells #[.int .i64 xe, .int .i64 xc, .int .i64 xi] 24)) bm O := AtB.alloc hO _
  have hb0 : ∀ j u, [Value.int .i64 xe, .int .i64 xc, .int .i64 xi][j]? = some u → (w.alloc (.cells #[.int .i64 xe, .int .i64 xc, .int .i64 xi] 24)).cell? ((⟨w.heap.size, 0, none⟩ : Addr).add j) = some u := fun j u => cells_new w _ 24 j u
  have hc0 := hb0 0 _ rfl
  have hc1 := hb0 1 _ rfl
  have hc2 := hb0 2 _ rfl
  have hc3 : (w.alloc (.cells #[.int .i64 xe, .int .i64 xc, .int .i64 xi] 24)).cell? ⟨bs, 2, none⟩ = some (.map (some bm)) := ((Turned.refl [] w).alloc _).cell hcm (by simp)
  change (w.alloc (.cells #[.int .i64 xe, .int .i64 xc, .int .i64 xi] 24)).cell? ⟨w.heap.size, 0, none⟩ = _ at hc0
  change (w.alloc (.cells #[.int .i64 xe, .int .i64 xc, .int .i64 xi] 24)).cell? ⟨w.heap.size, 1, none⟩ = _ at hc1
  change (w.alloc (.cells #[.int .i64 xe, .int .i64 xc, .int .i64 xi] 24)).cell? ⟨w.heap.size, 2, none⟩ = _ at hc2
  have HB : Hid (Below w.heap.size w (w.alloc (.cells #[.int .i64 xe, .int .i64 xc, .int .i64 xi] 24))) := (Below.refl _ w).alloc (Nat.le_refl _) _
  have HS1 : Hid (SlotsAt (w.alloc (.cells #[.int .i64 xe, .int .i64 xc, .int .i64 xi] 24)) bs be bm n pg ex l) := h.calm ((Turned.refl [] w).alloc _)
  have HKK := Lib.hid hkk
  have HBs : Hid (w.heap.size ≤ (w.alloc (.cells #[.int .i64 xe, .int .i64 xc, .int .i64 xi] 24)).heap.size) := HB.out.size
  have hBs := HBs
  have HC := Lib.hid (And.intro hc0 (And.intro hc1 (And.intro hc2 (And.intro hc3 hO2))))
  have HK := Lib.hid hlook
  clear h hkk hl hx hb0 hc0 hc1 hc2 hc3 hO2 hlook hO
  unfold encS
  go_enter Tryd.func24, Tryd.ntmps24
  go_upto_region 3 with fail
  obtain ⟨hc0, hc1, hc2, hc3, hO2⟩ := HC.out
  have hlook := HK.out
  clear HC HK hcm
  have hA1 : ∀ w : World, AtB w bm O → AtB w.drew bm O := fun _ h => h.drew
  have hA2 : ∀ (w : World) (o : Obj), AtB w bm O → AtB (w.alloc o) bm O := fun _ o h => h.alloc o
  generalize w.alloc (.cells #[.int .i64 xe, .int .i64 xc, .int .i64 xi] 24) = w1 at *
  obtain ⟨B, hBe⟩ : ∃ B, w.heap.size = B := ⟨_, rfl⟩
  rw [hBe] at hc0 hc1 hc2 HB hBs HBs
  rw [hBe]
  have HBe := Lib.hid hBe
  clear hBe
  go_region_held3 (fun w' => w'.cell? ⟨bs, 2, none⟩ = some (.map (some bm)) ∧ w'.cell? ⟨B, 0, none⟩ = some (.int .i64 xe) ∧ w'.cell? ⟨B, 1, none⟩ = some (.int .i64 xc) ∧ w'.cell? ⟨B, 2, none⟩ = some (.int .i64 xi) ∧ AtB w' bm O) (go_keep) (fail)
  all_goals
    have hT : Turned [] w1 (w1.alloc (.cells #[.bool false, .int .u64 e] 80)).drew := ((Turned.refl [] w1).alloc _).drew
    have hr1 : (w1.alloc (.cells #[.bool false, .int .u64 e] 80)).drew.cell? ⟨w1.heap.size, 0, none⟩ = some (.bool false) := cells_new w1 [.bool false, .int .u64 e] 80 0 _ rfl
    have d0 := hT.cell hc0 (by simp)
    have d1 := hT.cell hc1 (by simp)
    have d2 := hT.cell hc2 (by simp)
    have d3 := hT.cell hc3 (by simp)
    have hend : Hid (Turned [] w (w1.alloc (.cells #[.bool false, .int .u64 e] 80)).drew) := (Turned.of_below (HBe.out.symm ▸ HB.out)).trans hT
    have HS2 := Lib.hid (HS1.out.calm hT)
    clear hc0 hc1 hc2 hc3 hA1 hA2 hlook hT HS1 HB
    generalize (w1.alloc (.cells #[.bool false, .int .u64 e] 80)).drew = w2 at *
    generalize w1.heap.size = b2 at *
    go_wp2
    have HS3 := Lib.hid (HS2.out.calm (Turned.refl [] w2).drew)
    have hend3 := Lib.hid (hend.out.trans (Turned.refl [] w2).drew)
    go_still_tail 7, (by kernel_rfl)
    change wpList _ _ _ _ _ w2.drew
    generalize w2.drew = w3 at *
    have hen : Hid (∀ w9 : World, MapIs Tryd.prog 24 encS w9 bm (mput l ⟨xe, xc, xi⟩ (encT true ep)) → Turned [bm] w3 w9 → SlotsAt w9 bs be bm n pg ex (mput l ⟨xe, xc, xi⟩ (encT true ep)) ∧ Turned [bm] w w9) := by
      intro w9 hm ht
      have h := HS3.out
      exact ⟨⟨ht.cell h.page (by simpa using h.n2.symm), ht.cell h.exts (by simpa using h.n2.symm), ht.cell h.states (by simpa using h.n2.symm), h.rows.turned ht (by simpa using h.n3), hm, h.tab.turned ht (by simpa using h.z2), h.n1, h.n2, h.n3, h.z1, h.z2⟩, hend3.out.nil_mono.trans ht⟩
    go_wp2_with (first | (at_mapUpdate; refine wp_put _ rfl _ _ _ 64 rfl keyed24 encS_inj Tryd.underlying64 bm l rfl HS3.out.map ⟨xe, xc, xi⟩ rfl _ rfl HKK.out ?_; intro w9 hm9 ht9; have HF := Lib.hid (hen.out w9 hm9 ht9); clear hm9 ht9))
    go_ret
    exact ⟨rfl, HF.out⟩
end Go.Proofs.YtaikapgpkkpdjaaDoor.L
