/- Maps of pages, and versions of them: lemmas, part 12 of 23. -/
import Derived.Deep.QuietTactic
import Derived.Maps.AppendAt
import Derived.Deep.RegionLaw
import Derived.Test.YtmpbhoijkcanmaaGreatQ11

/- Roots: the versions' numbers, where there is just one. -/
namespace Go.Proofs.YtmpbhoijkcanmaaGreat.R
open Go.ChangeShapes Go.WideShapes Go.ChangeAt Go.RowKit Go.Maps Go.Proofs.YtmpbhoijkcanmaaGreat.G Go.Sort Go.Shelf Go.Lib
set_option linter.unusedVariables false
set_option linter.unusedSimpArgs false
set_option linter.unnecessarySimpa false

set_option maxRecDepth 100000 in
set_option maxHeartbeats 1000000 in
theorem keys1U (F : Fence) (n : Nat) (h10 : F.fn 46) (hro : F.round = none) (hn : 1 ≤ n) (l Bm b : Nat) (L : List (Nat × Value)) (J : List Nat → World → Prop)
    (hY : ∀ pre x W, J pre W → pre.length < L.length → YieldAt F (n - 1) Tryz.prog l #[encU x] W fun e W' => e = .returned (.bool true) ∧ J (pre ++ [x]) W' ∧ KeepsWalks W W')
    (W : World) (hJ : AbidesFrom W.heap.size J) (hm : W.cell? ⟨Bm, 0, none⟩ = some (.map (some b))) (hown : MapIs Tryz.prog 23 encU W b L) (h0 : J [] W) :
    CallsIn F n Tryz.prog 46 #[.func (.yield l) #[] #[], .pointer (some ⟨Bm, 0, none⟩)] W fun e W' => (∃ v, e = .returned v) ∧ ∃ ss : List Nat, ss.Perm (L.map (·.1)) ∧ J ss W' := by
  have hbl := hown.lt
  refine callsIn_of_wp Tryz.func46 rfl h10 ?_ hro
  simp only [Tryz.ntmps46, List.size_toArray, List.length_cons, List.length_nil, Nat.reduceAdd, Nat.reduceSub, Array.replicate_succ, Array.replicate_zero, List.push_toArray, List.append_toArray, List.nil_append, List.cons_append]
  gi_wp2_with (first
    | (gi_at_range; refine wp_rangeIn _ rfl _ 74 rfl Tryz.underlying74 b L rfl hown ?_; intro w0 hi0 ht0)
    | gi_in)
  go_frame
  gi_loopw [3] (fun _ wr => ∃ done : List (Nat × Value), IterIs Tryz.prog 23 encU wr W.heap.size b L done ∧ J (done.map (·.1)) wr) (fun _ wr => leftIn wr W.heap.size b)
  case atStart => exact ⟨[], hi0, hJ [] W w0 none h0 (grown_of_calm ht0) (fun r e => by cases e)⟩
  case round =>
    obtain ⟨done, hi, hJs⟩ := hrel
    gi_wp2_with (first
      | (gi_at_next; refine wp_nextIn _ rfl _ rfl W.heap.size b L done rfl hi ?_ ?_)
      | gi_in)
    · intro hp
      gi_wp2
      go_end0
      exact ⟨⟨_, rfl⟩, done.map (·.1), hp.map _, hJs⟩
    · rintro k v w2 hmem hi2 ht2 hsz hen
      have hJ2 : J (done.map (·.1)) w2 := hJ _ wr w2 (some W.heap.size) hJs (grown_of_turned ht2) (fun r e => by cases e; exact ⟨Nat.le_refl _, iter_isWalk hi⟩)
      have hlen : done.length + 1 ≤ L.length := by have := hi2.len_le; simpa using this
      obtain ⟨fn, tmps, assign, body, hy, hR⟩ := hY (done.map (·.1)) k _ hJ2 (by simp; omega)
      unfold encU at hy hen
      have HJ := Lib.hid hJ
      clear hJ2 hJs hJ hY
      gi_wp2
      refine hR.mono ?_
      rintro e W3 ⟨rfl, hJ4, hk3⟩
      have hi4 := iter_walks hi2 hk3
      gi_wp2
      go_roundw
      case rel => exact ⟨done ++ [(k, v)], hi4, by rw [List.map_append]; exact hJ4⟩
      case measure => rw [iter_left hi4, iter_left hi, List.length_append, List.length_singleton]; omega
theorem keys_givesU (F : Fence) (n : Nat) (h10 : F.fn 46) (hro : F.round = none) (hn : 1 ≤ n) (Bm b : Nat) (L : List (Nat × Value)) (w : World) (hBm : Bm < w.heap.size)
    (hm : w.cell? ⟨Bm, 0, none⟩ = some (.map (some b))) (hown : MapIs Tryz.prog 23 encU w b L) :
    SeqGives F n Tryz.prog 46 #[.pointer (some ⟨Bm, 0, none⟩)] encU (fun ss => ss.Perm (L.map (·.1))) L.length w := fun l J W hW hJ hY h0 =>
  keys1U F n h10 hro hn l Bm b L J hY W hJ ((hW.cell (p := ⟨Bm, 0, none⟩) hBm).trans hm) (hown.turned (Turned.of_below hW) (by simp)) h0
theorem keysFV (b : Nat) (w : World) : Calls Tryz.prog 30 #[.map (some b)] w fun e w' => e = .returned (.func (.func 46) #[] #[.pointer (some ⟨w.heap.size, 0, none⟩)]) ∧ w.alloc (.cells #[.map (some b)] 74) = w' := by
  go_enter Tryz.func30, Tryz.ntmps30
  go_wp2
  go_ret
  exact ⟨rfl, rfl⟩
set_option maxRecDepth 100000 in
theorem insU_one (a : Option Addr) (cap : Nat) (w : World) : Calls Tryz.prog 72 #[.slice a 1 cap, .int .i64 0, .int .i64 1] w fun e w' => e = .returned (.tuple #[]) ∧ w = w' := by
  go_enter Tryz.func72, Tryz.ntmps72
  go_wp2
  go_loopw [6] (fun v wr => v = .int .i64 1 ∧ wr = w) (fun _ _ => 0)
  case atStart => exact ⟨rfl, rfl⟩
  case round =>
    obtain ⟨rfl, rfl⟩ := hrel
    go_wp2
    go_end0
    exact ⟨rfl, rfl⟩
set_option maxRecDepth 100000 in
theorem pdqU_one (a : Option Addr) (cap : Nat) (k : Int) (w : World) : Calls Tryz.prog 60 #[.slice a 1 cap, .int .i64 0, .int .i64 1, .int .i64 k] w fun e w' => e = .returned (.tuple #[]) ∧ w = w' := by
  have CI := Lib.hid (insU_one a cap)
  go_enter Tryz.func60, Tryz.ntmps60
  go_wp2
  go_loopw [1, 2] (fun x y wr => x = .int .i64 0 ∧ y = .int .i64 1 ∧ wr = w) (fun _ _ _ => 0)
  case atStart => exact ⟨rfl, rfl, rfl⟩
  case round =>
    obtain ⟨rfl, rfl, rfl⟩ := hrel
    go_wp2_with (go_at_call 72; ((with_reducible refine (CI.out _).mono ?_); rintro e w1 ⟨rfl, rfl⟩))
    exact bodyPost_ret (v := .tuple #[]) (by simp [results, Tryz.results60, go_sem]) rfl ⟨rfl, rfl⟩
set_option maxRecDepth 100000 in
theorem bitsLen_one (w : World) : Calls Tryz.prog 61 #[.int .u64 1] w fun e w' => e = .returned (.int .i64 1) ∧ w = w' := by
  go_enter Tryz.func61, Tryz.ntmps61
  go_wp2
  go_ret
  exact ⟨ret1 (a := wrap64 (wrap64 (len8 1))) (by decide +kernel), rfl⟩
set_option maxRecDepth 100000 in
theorem sortU_one (a : Option Addr) (cap : Nat) (w : World) : Calls Tryz.prog 45 #[.slice a 1 cap] w fun e w' => e = .returned (.tuple #[]) ∧ w = w' := by
  have CI := Lib.hid (pdqU_one a cap 1)
  have CB := Lib.hid bitsLen_one
  go_enter Tryz.func45, Tryz.ntmps45
  go_wp2_with (first
    | (go_at_call 61; ((with_reducible refine (CB.out _).mono ?_); rintro e w1 ⟨rfl, rfl⟩))
    | (go_at_call 60; ((with_reducible refine (CI.out _).mono ?_); rintro e w1 ⟨rfl, rfl⟩)))
  go_end0
  exact ⟨rfl, rfl⟩
def oneU (n : Nat) (w : World) (e : Ending) (w' : World) : Prop := ∃ a cap, e = .returned (.slice a 1 cap) ∧ w'.ownsRow w.heap.size 23 1 (.slice a 1 cap) 1 [encU n] ∧ Below w.heap.size w w'
set_option maxRecDepth 100000 in
theorem sortedU_one (b n : Nat) (v : Value) (w : World) (h : MapIs Tryz.prog 23 encU w b [(n, v)]) :
    Calls Tryz.prog 29 #[.func (.func 46) #[] #[.pointer (some ⟨w.heap.size, 0, none⟩)]] (w.alloc (.cells #[.map (some b)] 74)) (oneU n w) := by
  have tA := (Turned.refl [] w).alloc (.cells #[.map (some b)] 74)
  have hseq : SeqGives Fence.wide 2 Tryz.prog 46 #[.pointer (some ⟨w.heap.size, 0, none⟩)] encU (fun ss => ss.Perm ([(n, v)].map (·.1))) 1 (w.alloc (.cells #[.map (some b)] 74)) :=
    keys_givesU Fence.wide _ trivial rfl (by omega) w.heap.size b [(n, v)] _ (by simp) (by simp) (h.turned tA (by simp))
  have cC := collectU_in Fence.wide 4 trivial trivial rfl (by omega) 46 #[.pointer (some ⟨w.heap.size, 0, none⟩)] trivial (enters_of Tryz.func46 (by kernel_rfl) rfl) _ _ (by unfold maxLen; omega) (by omega) _ hseq
  have cC := (callsIn_wide (n := 4)).1 cC
  have CC : Hid (Calls Tryz.prog 44 #[.func (.func 46) #[] #[.pointer (some ⟨w.heap.size, 0, none⟩)]] (w.alloc (.cells #[.map (some b)] 74)) fun e w' => ∃ a cap, e = .returned (.slice a 1 cap) ∧ w'.ownsRow w.heap.size 23 1 (.slice a 1 cap) 1 [encU n] ∧ Below w.heap.size w w') := by
    refine cC.mono fun e w' ⟨v', ss, e1, hS, ho, _, hb⟩ => ?_
    have e2 : ss = [n] := by
      have h1 := hS.length_eq
      have h2 := hS.mem_iff (a := n)
      match ss, h1 with
      | [x], _ => simp at h2; rw [h2]
    subst e2
    obtain ⟨a, cap, rfl⟩ := slice_of_owns ho
    exact ⟨a, cap, e1, owns_mono ho (by simp), (tA.trans ((Turned.of_below hb).mono (fun _ _ h => by cases h))).below⟩
  clear cC hseq h tA
  have CS := Lib.hid sortU_one
  generalize w.alloc (.cells #[.map (some b)] 74) = wA at *
  obtain ⟨B, hB⟩ : ∃ B, w.heap.size = B := ⟨_, rfl⟩
  rw [hB] at CC ⊢
  have HBe := Lib.hid hB
  clear hB
  go_enter Tryz.func29, Tryz.ntmps29
  go_wp2_with (first
    | (go_at_call 44; ((with_reducible refine CC.out.mono ?_); rintro e w1 ⟨a, cap, rfl, ho, hb⟩; have H1 := Lib.hid (And.intro ho hb); clear ho hb))
    | (go_at_call 45; ((with_reducible refine (CS.out _ _ _).mono ?_); rintro e w2 ⟨rfl, rfl⟩)))
  go_ret
  exact ⟨a, cap, rfl, by rw [HBe.out]; exact H1.out.1, by rw [HBe.out]; exact H1.out.2⟩
set_option maxRecDepth 100000 in
theorem rvers_one {w ww : World} {rb L n : Nat} {R : Ro} {F : Fo} {Kx : List (Nat × Obj)} {f mb : Nat} {mo : Obj} {blk : Nat → Nat} (h : RtA w ww rb L R F Kx f mb mo blk) {v : Vr} (hv : R.vs = [(n, v)]) : Calls Tryz.prog 11 #[.pointer (some ⟨rb, 0, none⟩)] ww (oneU n ww) := by
  have c1 := h.c1
  have CN := Lib.hid (rnone_fn h)
  have hm := h.map
  rw [hv] at hm
  have CS := Lib.hid (sortedU_one mb n _ ww hm)
  have CK := Lib.hid (keysFV mb ww)
  clear h hm hv
  generalize ww.alloc (.cells #[.map (some mb)] 74) = wA at *
  obtain ⟨B, hB⟩ : ∃ B, ww.heap.size = B := ⟨_, rfl⟩
  rw [hB] at CS CK
  clear hB
  go_enter Tryz.func11, Tryz.ntmps11
  go_wp2_with (first
    | (go_at_call 28; ((with_reducible refine CN.out.mono ?_); rintro e ww2 ⟨rfl, rfl⟩))
    | (go_at_call 30; ((with_reducible refine CK.out.mono ?_); rintro e w1 ⟨rfl, rfl⟩))
    | (go_at_call 29; ((with_reducible refine CS.out.mono ?_); rintro e w2 ⟨a, cap, rfl, hr⟩; have HR := Lib.hid hr; clear hr)))
  go_ret
  exact ⟨a, cap, rfl, HR.out⟩
end Go.Proofs.YtmpbhoijkcanmaaGreat.R

/- Roots: what holds of versions behind calls: the plain law. -/
namespace Go.Proofs.YtmpbhoijkcanmaaGreat.R
open Go.ChangeShapes Go.WideShapes Go.ChangeAt Go.RowKit Go.Maps Go.Proofs.YtmpbhoijkcanmaaGreat.G
set_option linter.unusedVariables false
set_option linter.unusedSimpArgs false
set_option linter.unnecessarySimpa false

variable {rb L T n : Nat} {R R' : Ro} {F F' G : Fo} {vs : List (Nat × Vr)} {v : Vr} {ys : List Slot}
theorem vdel_perm (hn : (keysV vs).Nodup) (hv : vget vs n = some v) : vs.Perm ((n, v) :: vdel vs n) := by
  have hm := vget_some hv
  have hnd : vs.Nodup := by
    have hn' : (vs.map (·.1)).Nodup := hn
    rw [List.Nodup, List.pairwise_map] at hn'
    exact hn'.imp fun h e => h (by rw [e])
  refine (List.perm_ext_iff_of_nodup hnd ?_).2 fun x => ?_
  · rw [List.nodup_cons]
    exact ⟨fun h => by have := (List.mem_filter.1 h).2; simp at this, hnd.filter _⟩
  · rw [List.mem_cons]
    unfold vdel
    rw [List.mem_filter]
    constructor
    · intro hx
      by_cases e : x.1 = n
      · left
        have h1 := vget_mem hn (n := x.1) (v := x.2) hx
        rw [e, hv] at h1
        simp only [Option.some.injEq] at h1
        rw [h1, ← e]
      · exact .inr ⟨hx, by simpa using e⟩
    · rintro (rfl | ⟨hx, _⟩)
      · exact hm
      · exact hx
theorem vdel_count (hn : (keysV vs).Nodup) (hv : vget vs n = some v) (i : Nat) : (rootsV vs).count i = (rootsV (vdel vs n)).count i + if i = v.root then 1 else 0 := by
  have h := ((vdel_perm hn hv).map (·.2.root)).count_eq i
  unfold rootsV
  rw [h, List.map_cons, List.count_cons]
  by_cases e : v.root = i
  · subst e; simp
  · rw [if_neg (by simpa using e), if_neg (Ne.symm e)]
/-- versions, but for what is to be swept -/
structure RoPre (R : Ro) (F : Fo) (T : Nat) : Prop where
  keys : (keysV R.vs).Nodup
  le : ∀ n, n ∈ keysV R.vs → n ≤ R.now
  now : R.now ∈ keysV R.vs
  held : ∀ r : Nat, r ≠ 0 → cnt F.held (r : Int) = (rootsV R.vs).count r
  small : R.now ≤ T ∧ ∀ x, x ∈ R.vs → x.2.held ≤ T
theorem RoOk.pre (h : RoOk R F T) : RoPre R F T := ⟨h.keys, h.le, h.now, h.held, h.small⟩
theorem RoPre.more {T' : Nat} (h : RoPre R F T) (hT : T ≤ T') : RoPre R F T' := ⟨h.keys, h.le, h.now, h.held, Nat.le_trans h.small.1 hT, fun x hx => Nat.le_trans (h.small.2 x hx) hT⟩
theorem RoPre.inn (h : RoPre R F T) (k : Ok F L) {x : Nat × Vr} (hx : x ∈ R.vs) : x.2.root = 0 ∨ x.2.root ∈ F.ids := by
  by_cases h0 : x.2.root = 0
  · exact .inl h0
  · right
    refine k.root ?_
    rw [h.held _ h0]
    exact List.count_pos_iff.2 (List.mem_map_of_mem hx)
/-- behind a sweep -/
theorem Sw.pre (h : RoPre R F T) (hv : vget R.vs n = some v) (s : Sw R F L n v R' G ys) (k : Ok F L) : RoPre R' G T ∧ Ok G L ∧ R'.now = R.now ∧ (∀ x, x ∈ R'.vs → x ∈ R.vs) ∧ (∀ x, x ∈ R.vs → x.1 ≠ n → x ∈ R'.vs) ∧ (∀ x, x ∈ R'.vs → ∀ q, getL 2 G x.2.root q = getL 2 F x.2.root q) ∧ ((n, v) ∈ R'.vs ↔ (n = R.now ∨ 0 < v.held)) := by
  rcases s with ⟨hc, rfl, rfl, rfl⟩ | ⟨⟨h1, h2⟩, rfl, d⟩
  · exact ⟨h, k, rfl, fun _ h => h, fun _ h _ => h, fun _ _ _ => rfl, fun _ => hc, fun _ => vget_some hv⟩
  · have hk : (keysV (vdel R.vs n)).Nodup := h.keys.sublist ((List.filter_sublist (l := R.vs)).map _)
    have hsub : ∀ x, x ∈ vdel R.vs n → x ∈ R.vs := fun x hx => (List.mem_filter.1 hx).1
    have hp : RoPre ⟨vdel R.vs n, R.now⟩ G T := ⟨hk, fun m hm => h.le m (keys_vdel.1 hm).1, keys_vdel.2 ⟨h.now, Ne.symm h1⟩, fun r h0 => by
      rw [d.held, h.held r h0, vdel_count h.keys hv]
      show _ = (rootsV (vdel R.vs n)).count r
      by_cases e : r = v.root
      · subst e; rw [if_pos ⟨h0, rfl⟩, if_pos rfl]; omega
      · rw [if_neg (by omega), if_neg e]; omega, h.small.1, fun x hx => h.small.2 x (hsub x hx)⟩
    exact ⟨hp, d.ok, rfl, hsub, fun x hx hne => List.mem_filter.2 ⟨hx, by simpa using hne⟩, fun x hx q => (getL_ext d.ok.inv d.ext 2 x.2.root q (hp.inn d.ok hx)).symm,
      fun hm => by have := (List.mem_filter.1 hm).2; simp at this, fun hc => by rcases hc with hc | hc <;> omega⟩
/-- what came of Publish -/
structure PubIs (R : Ro) (F : Fo) (v : Vr) (l : List ChD) (T : Nat) (R' : Ro) (G : Fo) (L' : Nat) (ys : List Slot) : Prop where
  ok : RoOk R' G (T + 1)
  fo : Ok G L'
  now : R'.now = R.now + 1
  new : ∃ r, vget R'.vs (R.now + 1) = some ⟨r, 0⟩ ∧ ∀ q, q < 4096 → getL 2 G r q = chgs (getL 2 F v.root) l q
  old : ∀ x, x ∈ R'.vs → x.1 ≠ R.now + 1 → x ∈ R.vs ∧ ∀ q, getL 2 G x.2.root q = getL 2 F x.2.root q
  kept : ∀ x, x ∈ R.vs → (x.1 ≠ R.now ∨ 0 < x.2.held) → x ∈ R'.vs
  keptN : (R.now, v) ∈ R'.vs ↔ 0 < v.held
  gone : SlotsIs (fun s => s ∈ ys) ys ∧ ∀ s, s ∈ ys → ¬ HasS G s
theorem pub_is {r : Nat} (h : RoOk R F T) (hv : vget R.vs R.now = some v) {l : List ChD} (k : Ok F' L) (p : PuP R.vs F F' r (chgs (getL 2 F v.root) l)) (s : Sw ⟨R.vs ++ [(R.now + 1, ⟨r, 0⟩)], R.now + 1⟩ F' L R.now v R' G ys) : PubIs R F v l T R' G L ys := by
  have hnk : R.now + 1 ∉ keysV R.vs := fun hm => by have := h.le _ hm; omega
  have hke : keysV (R.vs ++ [(R.now + 1, (⟨r, 0⟩ : Vr))]) = keysV R.vs ++ [R.now + 1] := by unfold keysV; simp
  have hp1 : RoPre ⟨R.vs ++ [(R.now + 1, ⟨r, 0⟩)], R.now + 1⟩ F' (T + 1) := by
    refine ⟨?_, fun m hm => ?_, ?_, fun i h0 => ?_, ?_, fun x hx => ?_⟩
    · show (keysV (R.vs ++ [(R.now + 1, (⟨r, 0⟩ : Vr))])).Nodup
      rw [hke, List.nodup_append]
      exact ⟨h.keys, by simp, fun a ha b hb e => by simp only [List.mem_singleton] at hb; subst hb; subst e; exact hnk ha⟩
    · have hm : m ∈ keysV (R.vs ++ [(R.now + 1, (⟨r, 0⟩ : Vr))]) := hm
      rw [hke] at hm
      rcases List.mem_append.1 hm with hm | hm
      · have := h.le m hm; show m ≤ R.now + 1; omega
      · simp only [List.mem_singleton] at hm; subst hm; exact Nat.le_refl _
    · show R.now + 1 ∈ keysV (R.vs ++ [(R.now + 1, (⟨r, 0⟩ : Vr))])
      rw [hke]; simp
    · rw [p.held i h0]
      show _ = (rootsV (R.vs ++ [(R.now + 1, (⟨r, 0⟩ : Vr))])).count i
      unfold rootsV
      rw [List.map_append, List.count_append]
      congr 1
      simp only [List.map_cons, List.map_nil, List.count_singleton]
      by_cases e : i = r
      · subst e; simp
      · rw [if_neg e, if_neg (by simpa using Ne.symm e)]
    · have := h.small.1; show R.now + 1 ≤ T + 1; omega
    · rcases List.mem_append.1 hx with hx | hx
      · have := h.small.2 x hx; omega
      · simp only [List.mem_singleton] at hx; subst hx; exact Nat.zero_le _
  have hv1 : vget (R.vs ++ [(R.now + 1, (⟨r, 0⟩ : Vr))]) R.now = some v := vget_append_old hv
  obtain ⟨q1, q2, q3, q4, q5, q6, q7⟩ := Sw.pre hp1 hv1 s k
  have hnew : (R.now + 1, (⟨r, 0⟩ : Vr)) ∈ R'.vs := q5 _ (by simp) (by simp)
  have hget : vget R'.vs (R.now + 1) = some ⟨r, 0⟩ := vget_mem q1.keys hnew
  refine ⟨⟨q1.keys, q1.le, q1.now, q1.held, q1.small, fun x hx => ?_⟩, q2, q3, ⟨r, hget, fun q hq => (q6 _ hnew q).trans (p.get q hq)⟩, fun x hx hne => ?_, fun x hx hc => ?_, ?_, ?_⟩
  · rw [q3]
    show x.1 = R.now + 1 ∨ _
    rcases List.mem_append.1 (q4 x hx) with hx1 | hx1
    · by_cases e : x.1 = R.now
      · right
        have h1 := vget_mem h.keys (n := x.1) (v := x.2) hx1
        rw [e, hv] at h1
        simp only [Option.some.injEq] at h1
        have hx' : (R.now, v) ∈ R'.vs := by rw [h1, ← e]; exact hx
        have := q7.1 hx'
        rw [← h1]
        rcases this with h | h
        · have h : R.now = R.now + 1 := h
          omega
        · exact h
      · exact .inr ((h.swept x hx1).resolve_left e)
    · simp only [List.mem_singleton] at hx1; subst hx1; exact .inl rfl
  · rcases List.mem_append.1 (q4 x hx) with hx1 | hx1
    · exact ⟨hx1, fun q => (q6 x hx q).trans (p.old x hx1 q)⟩
    · simp only [List.mem_singleton] at hx1; subst hx1; exact absurd rfl hne
  · by_cases e : x.1 = R.now
    · have hh : 0 < x.2.held := hc.resolve_left (fun h => h e)
      have h1 := vget_mem h.keys (n := x.1) (v := x.2) hx
      rw [e, hv] at h1
      simp only [Option.some.injEq] at h1
      have hx' := q7.2 (.inr (by rw [h1]; exact hh))
      rw [h1, ← e] at hx'
      exact hx'
    · exact q5 x (List.mem_append.2 (.inl hx)) e
  · rw [q7]
    constructor
    · rintro (h | h)
      · have h : R.now = R.now + 1 := h
        omega
      · exact h
    · exact fun h => .inr h
  · rcases s with ⟨_, _, _, rfl⟩ | ⟨_, _, d⟩
    · exact ⟨⟨fun s => Iff.rfl, List.nodup_nil, List.Pairwise.nil⟩, fun s hs => by cases hs⟩
    · exact ⟨⟨fun s => Iff.rfl, d.gone.nodup, d.gone.sorted⟩, fun s hs => ((d.gone.mem s).1 hs).2⟩
end Go.Proofs.YtmpbhoijkcanmaaGreat.R

/- Roots: what holds of versions behind Hold and Release: the plain law. -/
namespace Go.Proofs.YtmpbhoijkcanmaaGreat.R
open Go.ChangeShapes Go.WideShapes Go.ChangeAt Go.RowKit Go.Maps Go.Proofs.YtmpbhoijkcanmaaGreat.G
set_option linter.unusedVariables false
set_option linter.unusedSimpArgs false
set_option linter.unnecessarySimpa false

variable {rb L T n : Nat} {R R' : Ro} {F F' G : Fo} {vs : List (Nat × Vr)} {v : Vr} {ys : List Slot}
theorem roots_vset (hn : (keysV vs).Nodup) (hv : vget vs n = some v) (k : Nat) : rootsV (vset vs n ⟨v.root, k⟩) = rootsV vs := by
  unfold rootsV vset
  rw [List.map_map]
  refine List.map_congr_left fun x hx => ?_
  simp only [Function.comp]
  by_cases e : x.1 = n
  · rw [if_pos e]
    have h1 := vget_mem hn (n := x.1) (v := x.2) hx
    rw [e, hv] at h1
    simp only [Option.some.injEq] at h1
    rw [← h1]
  · rw [if_neg e]
/-- how often a version is held -/
theorem RoPre.setv (h : RoPre R F T) (hv : vget R.vs n = some v) {k T' : Nat} (hk : k ≤ T') (hT : T ≤ T') : RoPre ⟨vset R.vs n ⟨v.root, k⟩, R.now⟩ F T' := by
  have e : keysV (vset R.vs n ⟨v.root, k⟩) = keysV R.vs := keys_vset _ _ _
  refine ⟨by rw [e]; exact h.keys, fun m hm => h.le m (by rw [← e]; exact hm), by rw [e]; exact h.now, fun r h0 => by rw [roots_vset h.keys hv]; exact h.held r h0, Nat.le_trans h.small.1 hT, fun x hx => ?_⟩
  rcases mem_vset.1 hx with ⟨rfl, _⟩ | ⟨hx, _⟩
  · exact hk
  · exact Nat.le_trans (h.small.2 x hx) hT
theorem RoOk.hold (h : RoOk R F T) (hv : vget R.vs n = some v) : RoOk ⟨vset R.vs n ⟨v.root, v.held + 1⟩, R.now⟩ F (T + 1) := by
  have hs : v.held ≤ T := h.small.2 _ (vget_some hv)
  have p := h.pre.setv hv (k := v.held + 1) (T' := T + 1) (by omega) (by omega)
  refine ⟨p.keys, p.le, p.now, p.held, p.small, fun x hx => ?_⟩
  rcases mem_vset.1 hx with ⟨rfl, _⟩ | ⟨hx, _⟩
  · exact .inr (Nat.succ_pos _)
  · exact h.swept x hx
/-- what came of Release -/
structure RelIs (R : Ro) (F : Fo) (n : Nat) (v : Vr) (hd : Nat) (T : Nat) (R' : Ro) (G : Fo) (L : Nat) (ys : List Slot) : Prop where
  ok : RoOk R' G T
  fo : Ok G L
  now : R'.now = R.now
  old : ∀ x, x ∈ R'.vs → x.1 ≠ n → x ∈ R.vs
  maps : ∀ x, x ∈ R'.vs → ∀ q, getL 2 G x.2.root q = getL 2 F x.2.root q
  kept : ∀ x, x ∈ R.vs → x.1 ≠ n → x ∈ R'.vs
  self : (n, (⟨v.root, hd⟩ : Vr)) ∈ R'.vs ↔ (n = R.now ∨ 0 < hd)
  at_n : ∀ x, x ∈ R'.vs → x.1 = n → x = (n, (⟨v.root, hd⟩ : Vr))
  gone : SlotsIs (fun s => HasS F s ∧ ¬ HasS G s) ys
theorem rel_is (h : RoOk R F T) (k : Ok F L) (hv : vget R.vs n = some v) {hd : Nat} (hh : v.held = hd + 1) (s : Sw ⟨vset R.vs n ⟨v.root, hd⟩, R.now⟩ F L n ⟨v.root, hd⟩ R' G ys) : RelIs R F n v hd T R' G L ys := by
  have hs : v.held ≤ T := h.small.2 _ (vget_some hv)
  have p := h.pre.setv hv (k := hd) (T' := T) (by omega) (Nat.le_refl _)
  have hv1 : vget (vset R.vs n ⟨v.root, hd⟩) n = some ⟨v.root, hd⟩ := vget_vset h.keys hv
  obtain ⟨q1, q2, q3, q4, q5, q6, q7⟩ := Sw.pre p hv1 s k
  refine ⟨⟨q1.keys, q1.le, q1.now, q1.held, q1.small, fun x hx => ?_⟩, q2, q3, fun x hx hne => ?_, q6, fun x hx hne => q5 x (mem_vset.2 (.inr ⟨hx, hne⟩)) hne, q7, fun x hx e => ?_, ?_⟩
  · rw [q3]
    rcases mem_vset.1 (q4 x hx) with ⟨rfl, _⟩ | ⟨hx1, hne⟩
    · exact q7.1 hx
    · exact h.swept x hx1
  · rcases mem_vset.1 (q4 x hx) with ⟨rfl, _⟩ | ⟨hx1, _⟩
    · exact absurd rfl hne
    · exact hx1
  · rcases mem_vset.1 (q4 x hx) with ⟨h, _⟩ | ⟨_, hne⟩
    · exact h
    · exact absurd e hne
  · rcases s with ⟨_, _, rfl, rfl⟩ | ⟨_, _, d⟩
    · exact ⟨fun s => ⟨fun h => (by cases h), fun h => absurd h.1 h.2⟩, List.nodup_nil, List.Pairwise.nil⟩
    · exact d.gone
/-- which slots there are -/
theorem slots_iff (h : RoPre R F T) (k : Ok F L) (s : Slot) : HasS F s ↔ ∃ x, x ∈ R.vs ∧ InMap F x.2.root s := by
  rw [hasS_iff k]
  constructor
  · rintro ⟨r, hr, hm⟩
    have h0 : r ≠ 0 := fun e => by
      subst e
      have := (k.inv.pos 0 (k.root (i := 0) hr)).1
      omega
    rw [h.held r h0] at hr
    obtain ⟨x, hx, e⟩ := List.mem_map.1 (List.count_pos_iff.1 hr)
    exact ⟨x, hx, by rw [e]; exact hm⟩
  · rintro ⟨x, hx, hm⟩
    refine ⟨x.2.root, ?_, hm⟩
    have h0 : x.2.root ≠ 0 := fun e => by
      obtain ⟨q, _, y, hy, _⟩ := hm
      rw [e, getL_zero] at hy; cases hy
    rw [h.held _ h0]
    exact List.count_pos_iff.2 (List.mem_map_of_mem hx)
end Go.Proofs.YtmpbhoijkcanmaaGreat.R

/- Roots: alive: the plain law. -/
namespace Go.Proofs.YtmpbhoijkcanmaaGreat.R
open Go.ChangeShapes Go.WideShapes Go.ChangeAt Go.RowKit Go.Maps Go.Proofs.YtmpbhoijkcanmaaGreat.G
set_option linter.unusedVariables false
set_option linter.unusedSimpArgs false
set_option linter.unnecessarySimpa false

variable {rb L T n : Nat} {R R' : Ro} {F F' G : Fo} {vs : List (Nat × Vr)} {v : Vr} {ys : List Slot}
def c24 (n : Int) : ChD := ⟨1, ⟨⟨n, 0, 0⟩, 0⟩, false⟩
theorem vget_set_self (h : RoOk R F T) (hv : vget R.vs n = some v) (u : Vr) : vget (vset R.vs n u) n = some u := vget_vset h.keys hv
/-- the first version is held; a second one comes -/
structure A3 (R3 : Ro) (G3 : Fo) (L r1 r2 : Nat) : Prop where
  ok : RoOk R3 G3 3
  fo : Ok G3 L
  now : R3.now = 2
  v1 : vget R3.vs 1 = some ⟨r1, 1⟩
  v2 : vget R3.vs 2 = some ⟨r2, 0⟩
  all : ∀ x, x ∈ R3.vs → x = (1, ⟨r1, 1⟩) ∨ x = (2, ⟨r2, 0⟩)
  g1 : ∀ q, q < 4096 → getL 2 G3 r1 q = if q = 1 then some ⟨⟨1, 0, 0⟩, 0⟩ else none
  g2 : ∀ q, q < 4096 → getL 2 G3 r2 q = if q = 1 then some ⟨⟨2, 0, 0⟩, 0⟩ else none
theorem chg_one (g : Nat → Option Ent) (n : Int) (q : Nat) : chgs g [c24 n] q = if q = 1 then some ⟨⟨n, 0, 0⟩, 0⟩ else g q := by
  show chg g (c24 n) q = _
  unfold chg c24
  by_cases e : q = 1
  · rw [if_pos e, if_pos (by simp [e])]; rfl
  · rw [if_neg e, if_neg (by simp; omega)]
theorem a1_is {R1 : Ro} {G1 : Fo} (p : PubIs ro0 fo0 ⟨0, 0⟩ [c24 1] 0 R1 G1 L ys) : ∃ r1, vget R1.vs 1 = some ⟨r1, 0⟩ ∧ R1.now = 1 ∧ (∀ x, x ∈ R1.vs → x = (1, ⟨r1, 0⟩)) ∧ ∀ q, q < 4096 → getL 2 G1 r1 q = if q = 1 then some ⟨⟨1, 0, 0⟩, 0⟩ else none := by
  obtain ⟨r1, h1, h2⟩ := p.new
  refine ⟨r1, h1, p.now, fun x hx => ?_, fun q hq => ?_⟩
  · by_cases e : x.1 = 1
    · have := vget_mem p.ok.keys (n := x.1) (v := x.2) hx
      have h1 : vget R1.vs 1 = some ⟨r1, 0⟩ := h1
      rw [e, h1] at this
      simp only [Option.some.injEq] at this
      rw [this, ← e]
    · have h3 := (p.old x hx e).1
      simp only [ro0, List.mem_singleton] at h3
      subst h3
      exact absurd (p.keptN.1 hx) (by simp)
  · rw [h2 q hq, chg_one]
    split
    · rfl
    · exact getL_zero 2 fo0 q
theorem a3_is {R1 R3 : Ro} {G1 G3 : Fo} {r1 : Nat} (h1 : vget R1.vs 1 = some ⟨r1, 0⟩) (hn : R1.now = 1) (ha : ∀ x, x ∈ R1.vs → x = (1, ⟨r1, 0⟩)) (hg : ∀ q, q < 4096 → getL 2 G1 r1 q = if q = 1 then some ⟨⟨1, 0, 0⟩, 0⟩ else none)
    (p : PubIs ⟨vset R1.vs 1 ⟨r1, 1⟩, R1.now⟩ G1 ⟨r1, 1⟩ [c24 2] 2 R3 G3 L ys) : ∃ r2, A3 R3 G3 L r1 r2 := by
  obtain ⟨r2, h2, h3⟩ := p.new
  have hnow : R3.now = 2 := by have := p.now; simp only [hn] at this; exact this
  simp only [hn] at h2
  have m1 : (1, (⟨r1, 1⟩ : Vr)) ∈ R3.vs := by
    have := p.keptN.2 Nat.one_pos
    simp only [hn] at this
    exact this
  refine ⟨r2, p.ok, p.fo, hnow, vget_mem p.ok.keys m1, h2, fun x hx => ?_, fun q hq => ?_, fun q hq => ?_⟩
  · by_cases e : x.1 = 2
    · right
      have := vget_mem p.ok.keys (n := x.1) (v := x.2) hx
      have h2 : vget R3.vs 2 = some ⟨r2, 0⟩ := h2
      rw [e, h2] at this
      simp only [Option.some.injEq] at this
      rw [this, ← e]
    · left
      have h4 := (p.old x hx (by simp only [hn]; exact e)).1
      rcases mem_vset.1 h4 with ⟨h, _⟩ | ⟨h, hne⟩
      · exact h
      · exact absurd (by rw [ha x h]) hne
  · have := (p.old _ m1 (by simp [hn])).2 q
    simp only at this
    rw [this]; exact hg q hq
  · rw [h3 q hq, chg_one]
    split
    · rfl
    · rw [hg q hq, if_neg (by assumption)]
theorem inMap_one {F : Fo} {r : Nat} {e : Ent} (hg : ∀ q, q < 4096 → getL 2 F r q = if q = 1 then some e else none) (s : Slot) : InMap F r s ↔ s = e.s := by
  constructor
  · rintro ⟨q, hq, y, hy, rfl⟩
    rw [hg q hq] at hy
    split at hy
    · simp only [Option.some.injEq] at hy; rw [hy]
    · cases hy
  · rintro rfl
    exact ⟨1, by omega, e, by rw [hg 1 (by omega), if_pos rfl], rfl⟩
structure A4 (R4 : Ro) (G4 : Fo) (L r2 : Nat) (ys : List Slot) : Prop where
  fo : Ok G4 L
  now : R4.now = 2
  vs : R4.vs = [(2, ⟨r2, 0⟩)]
  none : vget R4.vs 1 = none
  nodes : G4.ids.length = 3
  gone : ys = [⟨1, 0, 0⟩]
  slots : ∀ zs, SlotsIs (HasS G4) zs → zs.length = 1
theorem a4_is {R3 R4 : Ro} {G3 G4 : Fo} {r1 r2 L' : Nat} (a : A3 R3 G3 L' r1 r2) (p : RelIs R3 G3 1 ⟨r1, 1⟩ 0 3 R4 G4 L ys) : A4 R4 G4 L r2 ys := by
  have hall : ∀ x, x ∈ R4.vs → x = (2, ⟨r2, 0⟩) := fun x hx => by
    by_cases e : x.1 = 1
    · have h1 := p.at_n x hx e
      rw [h1] at hx
      have := p.self.1 hx
      rw [a.now] at this
      omega
    · rcases a.all x (p.old x hx e) with h | h
      · rw [h] at e; exact absurd rfl e
      · exact h
  have hm : (2, (⟨r2, 0⟩ : Vr)) ∈ R4.vs := p.kept _ (vget_some a.v2) (show (2 : Nat) ≠ 1 by decide)
  have hvs : R4.vs = [(2, ⟨r2, 0⟩)] := by
    have hnd : R4.vs.Nodup := by
      have hn' : (R4.vs.map (·.1)).Nodup := p.ok.keys
      rw [List.Nodup, List.pairwise_map] at hn'
      exact hn'.imp fun h e => h (by rw [e])
    have := (List.perm_ext_iff_of_nodup hnd (by simp : [(2, (⟨r2, 0⟩ : Vr))].Nodup)).2 fun x => ⟨fun hx => by rw [hall x hx]; simp, fun hx => by simp only [List.mem_singleton] at hx; rw [hx]; exact hm⟩
    exact List.perm_singleton.1 this
  have hg4 : ∀ q, q < 4096 → getL 2 G4 r2 q = if q = 1 then some ⟨⟨2, 0, 0⟩, 0⟩ else none := fun q hq => (p.maps _ hm q).trans (a.g2 q hq)
  have hs4 : ∀ s, HasS G4 s ↔ s = ⟨2, 0, 0⟩ := fun s => by
    rw [slots_iff p.ok.pre p.fo, hvs]
    simp only [List.mem_singleton, exists_eq_left]
    exact inMap_one hg4 s
  have hs3 : ∀ s, HasS G3 s ↔ (s = ⟨1, 0, 0⟩ ∨ s = ⟨2, 0, 0⟩) := fun s => by
    rw [slots_iff a.ok.pre a.fo]
    constructor
    · rintro ⟨x, hx, hm⟩
      rcases a.all x hx with rfl | rfl
      · exact .inl ((inMap_one a.g1 s).1 hm)
      · exact .inr ((inMap_one a.g2 s).1 hm)
    · rintro (rfl | rfl)
      · exact ⟨_, vget_some a.v1, (inMap_one a.g1 _).2 rfl⟩
      · exact ⟨_, vget_some a.v2, (inMap_one a.g2 _).2 rfl⟩
  refine ⟨p.fo, p.now.trans a.now, hvs, by rw [hvs]; rfl, ?_, ?_, fun zs hz => ?_⟩
  · have hr0 : r2 ≠ 0 := fun e => by
      have := hg4 1 (by omega)
      rw [e, getL_zero] at this; cases this
    refine one_page p.fo (r := r2) (p := 1) (by omega) ?_ (fun i hi => ?_) fun q hq => ?_
    · rw [p.ok.held r2 hr0, hvs]; simp [rootsV]
    · have h0 : i ≠ 0 := fun e => by
        subst e
        have := (p.fo.inv.pos 0 (p.fo.root (i := 0) hi)).1
        omega
      rw [p.ok.held i h0, hvs] at hi
      have := List.count_pos_iff.1 hi
      simpa [rootsV] using this
    · rw [hg4 q hq]; split <;> simp_all
  · have hy : SlotsIs (fun s => s = (⟨1, 0, 0⟩ : Slot)) [⟨1, 0, 0⟩] := ⟨fun s => by simp, by simp, by simp⟩
    refine p.gone.uniq hy fun s => ?_
    rw [hs3, hs4]
    constructor
    · rintro ⟨h | h, hn⟩
      · exact h
      · exact absurd h hn
    · rintro rfl; exact ⟨.inl rfl, by decide⟩
  · have hy : SlotsIs (fun s => s = (⟨2, 0, 0⟩ : Slot)) [⟨2, 0, 0⟩] := ⟨fun s => by simp, by simp, by simp⟩
    rw [hz.uniq hy hs4]; rfl
end Go.Proofs.YtmpbhoijkcanmaaGreat.R

/- Roots: two of them side by side. -/
namespace Go.Proofs.YtmpbhoijkcanmaaGreat.R
open Go.ChangeShapes Go.WideShapes Go.ChangeAt Go.RowKit Go.Maps Go.Proofs.YtmpbhoijkcanmaaGreat.G
set_option linter.unusedVariables false
set_option linter.unusedSimpArgs false
set_option linter.unnecessarySimpa false

variable {w ww w' w1 : World} {rb ra L La T n : Nat} {R Ra : Ro} {F G Fa : Fo} {Kx K Ka Kb : List (Nat × Obj)} {f mb : Nat} {mo : Obj} {blk : Nat → Nat} {p : Pf}
theorem cell_same {a : Addr} (h : w'.heap[a.block]? = ww.heap[a.block]?) : w'.cell? a = ww.cell? a := by unfold World.cell?; rw [h]
theorem frozen_same {a : Addr} (h : w'.heap[a.block]? = ww.heap[a.block]?) : w'.frozen? a = ww.frozen? a := by unfold World.frozen?; rw [h]
/-- a forest stands wherever its blocks are the same -/
theorem FoAt.same (h : FoAt ww p F) (hs : ∀ b, p.own F b → w'.heap[b]? = ww.heap[b]?) : FoAt w' p F := by
  have hf := hs p.f (.inl rfl)
  exact ⟨(cell_same hf).trans h.c0, (cell_same hf).trans h.c1, (cell_same hf).trans h.c2, (cell_same hf).trans h.c3, fun j => (frozen_same (a := ⟨p.f, j, none⟩) hf).trans (h.fz j),
    h.nodes.kept (hs _ (.inr (.inl rfl))), h.held.kept (hs _ (.inr (.inr (.inl rfl)))), h.sl.kept (hs _ (.inr (.inr (.inr (.inl rfl))))),
    fun i hi => World.rowIs.of_block (h.nd i hi) (hs _ (.inr (.inr (.inr (.inr ⟨i, hi, rfl⟩))))), h.nh, h.ns, h.inj, h.far, h.dis⟩
/-- blocks as they lie -/
def snap (ww : World) (bs : List Nat) : List (Nat × Obj) := bs.map fun b => (b, (ww.heap[b]?).getD (.map #[] 0))
theorem keys_snap (ww : World) (bs : List Nat) : keysK (snap ww bs) = bs := by
  unfold keysK snap
  rw [List.map_map]
  exact (List.map_congr_left fun x _ => rfl).trans (List.map_id bs)
theorem snap_at {bs : List Nat} (h : ∀ b, b ∈ bs → b < ww.heap.size) {x : Nat × Obj} (hx : x ∈ snap ww bs) : ww.heap[x.1]? = some x.2 := by
  obtain ⟨b, hb, rfl⟩ := List.mem_map.1 hx
  obtain ⟨o, ho⟩ := at_some (h b hb)
  simp [ho]
theorem snap_mem {bs : List Nat} {b : Nat} (hb : b ∈ bs) (h : b < ww.heap.size) {o : Obj} (ho : ww.heap[b]? = some o) : (b, o) ∈ snap ww bs :=
  List.mem_map.2 ⟨b, hb, by simp [ho]⟩
theorem snap_same {bs : List Nat} (h : ∀ b, b ∈ bs → b < ww.heap.size) (hs : ∀ x, x ∈ snap ww bs → w'.heap[x.1]? = some x.2) {b : Nat} (hb : b ∈ bs) : w'.heap[b]? = ww.heap[b]? := by
  obtain ⟨o, ho⟩ := at_some (h b hb)
  rw [ho]
  exact hs (b, o) (snap_mem hb (h b hb) ho)
def Pf.ownL (p : Pf) (F : Fo) : List Nat := p.f :: p.m :: p.h :: p.s :: F.ids.map p.blk
theorem mem_ownL {b : Nat} : b ∈ p.ownL F ↔ p.own F b := by
  unfold Pf.ownL Pf.own
  simp only [List.mem_cons, List.mem_map]
  constructor
  · rintro (h | h | h | h | ⟨i, hi, rfl⟩)
    · exact .inl h
    · exact .inr (.inl h)
    · exact .inr (.inr (.inl h))
    · exact .inr (.inr (.inr (.inl h)))
    · exact .inr (.inr (.inr (.inr ⟨i, hi, rfl⟩)))
  · rintro (h | h | h | h | ⟨i, hi, rfl⟩)
    · exact .inl h
    · exact .inr (.inl h)
    · exact .inr (.inr (.inl h))
    · exact .inr (.inr (.inr (.inl h)))
    · exact .inr (.inr (.inr (.inr ⟨i, hi, rfl⟩)))
theorem nodup_map_on {α β : Type} {g : α → β} {l : List α} (h : l.Nodup) (hg : ∀ i j, i ∈ l → j ∈ l → i ≠ j → g i ≠ g j) : (l.map g).Nodup := by
  induction l with
  | nil => exact List.nodup_nil
  | cons a l ih =>
    rw [List.nodup_cons] at h
    rw [List.map_cons, List.nodup_cons]
    refine ⟨fun hm => ?_, ih h.2 fun i j hi hj => hg i j (List.mem_cons_of_mem _ hi) (List.mem_cons_of_mem _ hj)⟩
    obtain ⟨x, hx, e⟩ := List.mem_map.1 hm
    exact hg x a (List.mem_cons_of_mem _ hx) List.mem_cons_self (fun e => h.1 (e ▸ hx)) e
theorem FoAt.ownL_nodup (h : FoAt ww p F) (hn : F.ids.Nodup) : (p.ownL F).Nodup := by
  obtain ⟨⟨a, b, c⟩, ⟨d, e⟩, g⟩ := h.dis
  have hm : ∀ x, (∀ i, i ∈ F.ids → p.blk i ≠ x) → x ∉ F.ids.map p.blk := fun x hx hm => by
    obtain ⟨i, hi, e⟩ := List.mem_map.1 hm
    exact hx i hi e
  have h1 := hm p.f fun i hi => (h.far i hi).1
  have h2 := hm p.m fun i hi => (h.far i hi).2.1
  have h3 := hm p.h fun i hi => (h.far i hi).2.2.1
  have h4 := hm p.s fun i hi => (h.far i hi).2.2.2
  have h5 := nodup_map_on hn h.inj
  unfold Pf.ownL
  simp only [List.nodup_cons, List.mem_cons, not_or]
  exact ⟨⟨a, b, c, h1⟩, ⟨d, e, h2⟩, ⟨g, h3⟩, h4, h5⟩
/-- what a list of blocks carries: Roots, in whatever world they lie as they are -/
structure Cv (w : World) (Kb : List (Nat × Obj)) (rb L : Nat) (R : Ro) (F : Fo) : Prop where
  one : (keysK Kb).Nodup
  make : ∀ w' Kx, Below w.heap.size w w' → (∀ x, x ∈ Kb → w'.heap[x.1]? = some x.2) → (∀ x, x ∈ Kx → w'.heap[x.1]? = some x.2) → (keysK Kx).Nodup → (∀ b, b ∈ keysK Kx → b ∉ keysK Kb) → RtM w w' rb L R F Kx
theorem RtA.cv (h : RtA w ww rb L R F Kx f mb mo blk) : ∃ Ka, Cv w Ka rb L R F ∧ (∀ x, x ∈ Ka → ww.heap[x.1]? = some x.2) ∧ ∀ b, b ∈ keysK Ka → b ∉ keysK Kx := by
  have ap := h.apart
  obtain ⟨⟨⟨p, e, h1, h2⟩, h3⟩, hmap, hrb, hmb, hvb⟩ := h
  subst e
  have hK : ∀ b, b ∈ rb :: mb :: (keysV R.vs).map blk → ¬ p.own F b ∧ b < ww.heap.size := fun b hb => by
    have : ∃ o, (b, o) ∈ (rb, robj p.f mb R.now) :: (mb, mo) :: (vK blk R.vs ++ Kx) := by
      rcases List.mem_cons.1 hb with rfl | hb
      · exact ⟨_, List.mem_cons_self⟩
      rcases List.mem_cons.1 hb with rfl | hb
      · exact ⟨_, List.mem_cons_of_mem _ List.mem_cons_self⟩
      rw [← keys_vK] at hb
      obtain ⟨o, ho⟩ := mem_keysK.1 hb
      exact ⟨o, List.mem_cons_of_mem _ (List.mem_cons_of_mem _ (List.mem_append.2 (.inl ho)))⟩
    obtain ⟨o, ho⟩ := this
    exact ⟨(h2 _ ho).2, lt_of_at (h2 _ ho).1⟩
  have hX : ∀ b, b ∈ keysK Kx → ¬ p.own F b := fun b hb => by
    obtain ⟨o, ho⟩ := mem_keysK.1 hb
    exact (h2 (b, o) (List.mem_cons_of_mem _ (List.mem_cons_of_mem _ (List.mem_append.2 (.inr ho))))).2
  obtain ⟨bs, hbs⟩ : ∃ bs, p.ownL F ++ (rb :: mb :: (keysV R.vs).map blk) = bs := ⟨_, rfl⟩
  have hlt : ∀ b, b ∈ bs → b < ww.heap.size := fun b hb => by
    rw [← hbs] at hb
    rcases List.mem_append.1 hb with hb | hb
    · exact h1.fo.lt (mem_ownL.1 hb)
    · exact (hK b hb).2
  have hnd2 : (rb :: mb :: (keysV R.vs).map blk).Nodup := by
    simp only [List.nodup_cons, List.mem_cons, not_or]
    exact ⟨⟨ap.rm, ap.rv⟩, ap.mv, ap.vv⟩
  have hnd : bs.Nodup := by
    rw [← hbs, List.nodup_append]
    exact ⟨h1.fo.ownL_nodup h1.ok.inv.nd, hnd2, fun x hx y hy e => (hK y hy).1 (e ▸ mem_ownL.1 hx)⟩
  refine ⟨snap ww bs, ⟨by rw [keys_snap]; exact hnd, fun w' K' hb hat hat2 hn2 hdis => ?_⟩, fun x hx => snap_at hlt hx, fun b hb => ?_⟩
  · rw [keys_snap] at hdis
    have hsame : ∀ b, b ∈ bs → w'.heap[b]? = ww.heap[b]? := fun b hb => snap_same hlt hat hb
    have hown : ∀ b, p.own F b → b ∈ bs := fun b hb => by rw [← hbs]; exact List.mem_append.2 (.inl (mem_ownL.2 hb))
    have hkey : ∀ b, b ∈ rb :: mb :: (keysV R.vs).map blk → b ∈ bs := fun b hb => by rw [← hbs]; exact List.mem_append.2 (.inr hb)
    have hfo := h1.fo.same fun b hb => hsame b (hown b hb)
    refine ⟨p.f, mb, mo, blk, ⟨lk_mk ⟨p, rfl, ⟨hfo, h1.ok, h1.new, hb⟩, fun x hx => ?_⟩ ⟨ap.rm, ap.rv, ?_, ap.mv, ?_, ap.vv, hn2, ?_⟩, hmap.kept (hsame mb (hkey mb (by simp))), hrb, hmb, hvb⟩⟩
    · simp only [List.mem_cons, List.mem_append] at hx
      have old : ∀ x, x ∈ (rb, robj p.f mb R.now) :: (mb, mo) :: (vK blk R.vs ++ Kx) → x.1 ∈ rb :: mb :: (keysV R.vs).map blk → w'.heap[x.1]? = some x.2 ∧ ¬ p.own F x.1 := fun x hx hk => ⟨(hsame _ (hkey _ hk)).trans (h2 x hx).1, (h2 x hx).2⟩
      rcases hx with rfl | rfl | hx | hx
      · exact old _ (by simp) (by simp)
      · exact old _ (by simp) (by simp)
      · exact old x (List.mem_cons_of_mem _ (List.mem_cons_of_mem _ (List.mem_append.2 (.inl hx)))) (List.mem_cons_of_mem _ (List.mem_cons_of_mem _ (by rw [← keys_vK]; exact mem_keysK.2 ⟨_, hx⟩)))
      · exact ⟨hat2 x hx, fun ho => hdis x.1 (mem_keysK.2 ⟨_, hx⟩) (hown _ ho)⟩
    · exact fun hm => hdis _ hm (hkey _ (by simp))
    · exact fun hm => hdis _ hm (hkey _ (by simp))
    · exact fun b hb hb' => hdis b hb' (hkey b (List.mem_cons_of_mem _ (List.mem_cons_of_mem _ hb)))
  · rw [keys_snap, ← hbs] at hb
    intro hx
    rcases List.mem_append.1 hb with hb | hb
    · exact hX b hx (mem_ownL.1 hb)
    · rcases List.mem_cons.1 hb with rfl | hb
      · exact ap.rx hx
      rcases List.mem_cons.1 hb with rfl | hb
      · exact ap.mx hx
      · exact ap.vx b hb hx
/-- the one in sight, the other one among the blocks beside it -/
def Two (w ww : World) (ra La : Nat) (Ra : Ro) (Fa : Fo) (rb L : Nat) (R : Ro) (F : Fo) (K : List (Nat × Obj)) : Prop := ∃ Kb, RtM w ww ra La Ra Fa (Kb ++ K) ∧ Cv w Kb rb L R F
theorem Two.swap (h : Two w ww ra La Ra Fa rb L R F K) : Two w ww rb L R F ra La Ra Fa K := by
  obtain ⟨Kb, h, c⟩ := h
  have hat := fun x hx => RtM.at (x := x) h hx
  have hbel := h.bel
  obtain ⟨f, mb, mo, blk, h⟩ := h
  obtain ⟨Ka, c1, c2, c3⟩ := h.cv
  have hx := h.apart.xx
  have ek : keysK (Kb ++ K) = keysK Kb ++ keysK K := List.map_append
  rw [ek, List.nodup_append] at hx
  rw [ek] at c3
  refine ⟨Ka, c.make ww (Ka ++ K) hbel (fun x hx => hat x (List.mem_append.2 (.inl hx))) (fun x hx => ?_) ?_ fun b hb => ?_, c1⟩
  · rcases List.mem_append.1 hx with hx | hx
    · exact c2 x hx
    · exact hat x (List.mem_append.2 (.inr hx))
  · have e2 : keysK (Ka ++ K) = keysK Ka ++ keysK K := List.map_append
    rw [e2, List.nodup_append]
    exact ⟨c1.one, hx.2.1, fun x h1 y h2 e => c3 x h1 (List.mem_append.2 (.inr (e ▸ h2)))⟩
  · have e2 : keysK (Ka ++ K) = keysK Ka ++ keysK K := List.map_append
    rw [e2] at hb
    rcases List.mem_append.1 hb with hb | hb
    · exact fun hm => c3 b hb (List.mem_append.2 (.inl hm))
    · exact fun hm => hx.2.2 b hm b hb rfl
/-- a second one is made -/
theorem Two.start (h : RtM w w1 ra La Ra Fa []) (h2 : RtM w1 w' rb L R F []) : Two w w' rb L R F ra La Ra Fa [] := by
  have hb := h.bel
  obtain ⟨f, mb, mo, blk, h⟩ := h
  obtain ⟨Ka, c1, c2, c3⟩ := h.cv
  refine ⟨Ka, ?_, c1⟩
  obtain ⟨f, mb, mo, blk, h2⟩ := h2
  have hs := hb.size
  have ap := h2.apart
  obtain ⟨⟨⟨p, e, k1, k2⟩, k3⟩, hmap, hrb, hmb, hvb⟩ := h2
  subst e
  have hka : ∀ b, b ∈ keysK Ka → b < w1.heap.size := fun b hb => by
    obtain ⟨o, ho⟩ := mem_keysK.1 hb
    exact lt_of_at (c2 _ ho)
  refine ⟨p.f, mb, mo, blk, ⟨lk_mk ⟨p, rfl, ⟨k1.fo, k1.ok, fun b hb => Nat.le_trans hs (k1.new b hb), hb.trans (k1.bel.mono hs)⟩, fun x hx => ?_⟩ ⟨ap.rm, ap.rv, fun hm => ?_, ap.mv, fun hm => ?_, ap.vv, ?_, fun b hb hm => ?_⟩, hmap, Nat.le_trans hs hrb, Nat.le_trans hs hmb, fun x hx => Nat.le_trans hs (hvb x hx)⟩⟩
  · simp only [List.append_nil, List.mem_cons, List.mem_append] at hx
    rcases hx with rfl | rfl | hx | hx
    · exact k2 _ (by simp)
    · exact k2 _ (by simp)
    · exact k2 x (by simp [hx])
    · refine ⟨(Turned.of_below k1.bel).at (c2 x hx) (by simp), fun ho => ?_⟩
      have := k1.new _ ho
      have := hka x.1 (mem_keysK.2 ⟨_, hx⟩)
      omega
  · rw [List.append_nil] at hm; have := hka _ hm; omega
  · rw [List.append_nil] at hm; have := hka _ hm; omega
  · rw [List.append_nil]; exact c1.one
  · rw [List.append_nil] at hm
    have := hka _ hm
    obtain ⟨n, hn, rfl⟩ := List.mem_map.1 hb
    obtain ⟨x, hx, rfl⟩ := List.mem_map.1 hn
    have := hvb x hx
    omega
theorem Two.calm (h : Two w ww ra La Ra Fa rb L R F K) (b : Below ww.heap.size ww w') : Two w w' ra La Ra Fa rb L R F K := by
  obtain ⟨Kb, h, c⟩ := h
  exact ⟨Kb, h.calm b, c⟩
theorem Two.bel (h : Two w ww ra La Ra Fa rb L R F K) : Below w.heap.size w ww := by
  obtain ⟨Kb, h, c⟩ := h
  exact h.bel
theorem Two.ok (h : Two w ww ra La Ra Fa rb L R F K) : Ok Fa La := by
  obtain ⟨Kb, h, c⟩ := h
  exact h.ok
theorem Two.at (h : Two w ww ra La Ra Fa rb L R F K) {x : Nat × Obj} (hx : x ∈ K) : ww.heap[x.1]? = some x.2 := by
  obtain ⟨Kb, h, c⟩ := h
  exact h.at (List.mem_append.2 (.inr hx))
end Go.Proofs.YtmpbhoijkcanmaaGreat.R

/- Roots: are two rows of slots the same. -/
namespace Go.Proofs.YtmpbhoijkcanmaaGreat.R
open Go.ChangeShapes Go.WideShapes Go.ChangeAt Go.RowKit Go.Maps Go.Proofs.YtmpbhoijkcanmaaGreat.G
set_option linter.unusedVariables false
set_option linter.unusedSimpArgs false
set_option linter.unnecessarySimpa false

variable {w w' : World}
/-- a slice of slots -/
def Sl3s (w : World) (a : Option Addr) (n : Nat) (xs : List Slot) : Prop :=
  xs.length = n ∧ (n = 0 ∨ ∃ b off, a = some ⟨b, off, none⟩ ∧ ∀ i (h : i < xs.length), w.cell? ⟨b, off + i * 3, none⟩ = some (.int .i64 xs[i].e) ∧ w.cell? ⟨b, off + i * 3 + 1, none⟩ = some (.int .i64 xs[i].c) ∧ w.cell? ⟨b, off + i * 3 + 2, none⟩ = some (.int .i64 xs[i].i))
theorem Sl3s.turned {a : Option Addr} {n : Nat} {xs : List Slot} (h : Sl3s w a n xs) {S : List Nat} (t : Turned S w w') (hn : ∀ x, a = some x → x.block ∉ S) : Sl3s w' a n xs := by
  refine ⟨h.1, h.2.imp id ?_⟩
  rintro ⟨b, off, e, hc⟩
  have hb : b ∉ S := hn ⟨b, off, none⟩ e
  exact ⟨b, off, e, fun i hi => by
    obtain ⟨c0, c1, c2⟩ := hc i hi
    exact ⟨t.cell c0 hb, t.cell c1 hb, t.cell c2 hb⟩⟩
theorem Sl3s.below {a : Option Addr} {n : Nat} {xs : List Slot} (h : Sl3s w a n xs) (t : Below w.heap.size w w') : Sl3s w' a n xs := h.turned (Turned.of_below t) (by simp)
theorem Sl3s.at {a : Option Addr} {n : Nat} {ys : List Slot} (h : Sl3s w a n ys) (i : Nat) (hi : i < ys.length) : ∃ b off, a = some ⟨b, off, none⟩ ∧ w.cell? ⟨b, off + i * 3, none⟩ = some (.int .i64 ys[i].e) ∧ w.cell? ⟨b, off + i * 3 + 1, none⟩ = some (.int .i64 ys[i].c) ∧ w.cell? ⟨b, off + i * 3 + 2, none⟩ = some (.int .i64 ys[i].i) := by
  rcases h.2 with h0 | ⟨b, off, e, hc⟩
  · have := h.1; omega
  · exact ⟨b, off, e, hc i hi⟩
theorem flat_len3 (xs : List Slot) : (flat xs).length = xs.length * 3 := by
  induction xs with
  | nil => rfl
  | cons x xs ih => unfold flat at *; simp [encL] at *; omega
theorem flat_get3 (xs : List Slot) (i r : Nat) (hi : i < xs.length) (hr : r < 3) : (flat xs)[i * 3 + r]? = (encL xs[i])[r]? := by
  induction xs generalizing i with
  | nil => simp at hi
  | cons x xs ih =>
    have e : flat (x :: xs) = encL x ++ flat xs := rfl
    rw [e]
    match i with
    | 0 => rw [List.getElem?_append_left (by simp [encL]; omega)]; simp
    | i + 1 =>
      rw [List.getElem?_append_right (by simp [encL]; omega)]
      have : (i + 1) * 3 + r - (encL x).length = i * 3 + r := by simp [encL]; omega
      rw [this, ih i (by simpa using hi)]
      simp
theorem sl3s_of_owns {base : Nat} {v : Value} {n : Nat} {xs : List Slot} (h : w.ownsRow base 45 3 v n (flat xs)) : ∃ a cap, v = .slice a n cap ∧ Sl3s w a n xs ∧ (∀ x, a = some x → base ≤ x.block ∧ x.block < w.heap.size) := by
  obtain ⟨h1, h2⟩ := h
  have hl : xs.length = n := by have := flat_len3 xs; omega
  rcases h2 with ⟨rfl, rfl⟩ | ⟨g, cap, cur, rfl, hg, hh, hn, hc, hs, ht⟩
  · exact ⟨none, 0, rfl, ⟨hl, .inl rfl⟩, fun x hx => by cases hx⟩
  · refine ⟨_, cap, rfl, ⟨hl, .inr ⟨g, 0, rfl, fun i hi => ?_⟩⟩, fun x hx => by simp only [Option.some.injEq] at hx; subst hx; exact ⟨hg, lt_of_at hh⟩⟩
    have key : ∀ r, r < 3 → w.cell? ⟨g, 0 + i * 3 + r, none⟩ = (encL xs[i])[r]? := fun r hr => by
      have h1 : (cur.toList.take (n * 3))[i * 3 + r]? = cur.toList[i * 3 + r]? := by rw [List.getElem?_take, if_pos (by omega)]
      rw [ht, flat_get3 xs i r hi hr] at h1
      rw [h1, Nat.zero_add]
      simp [World.cell?, hh]
    exact ⟨key 0 (by omega), key 1 (by omega), key 2 (by omega)⟩
set_option maxRecDepth 100000 in
set_option maxHeartbeats 2000000 in
theorem same_slots (xs ys : List Slot) (a a' : Option Addr) (n n' cap cap' : Nat) (w : World) (h : Sl3s w a n xs) (h' : Sl3s w a' n' ys) (hn : n ≤ 9223372036854775807) (hn' : n' ≤ 9223372036854775807) :
    Calls Tryz.prog 13 #[.slice a n cap, .slice a' n' cap'] w fun e w' => e = .returned (.bool (decide (xs = ys))) ∧ Below w.heap.size w w' := by
  by_cases hne : n = n'
  · subst hne
    have hl := h.1
    have hl' := h'.1
    have H := Lib.hid h
    have H' := Lib.hid h'
    have HL := Lib.hid (And.intro hl hl')
    obtain ⟨R, hR⟩ : ∃ R, decide (xs = ys) = R := ⟨_, rfl⟩
    rw [hR]
    have HR := Lib.hid hR
    clear h h' hl hl' hR hn'
    go_enter Tryz.func13, Tryz.ntmps13
    go_wp2
    go_loopw [5] (fun v wr => ∃ i : Nat, i ≤ n ∧ v = .int .i64 i ∧ Hid ((∀ j, j < i → xs[j]? = ys[j]?) ∧ Below w.heap.size w wr)) (fun v _ => n - (intOf v).toNat)
    case atStart => exact ⟨0, Nat.zero_le _, rfl, fun j hj => absurd hj (Nat.not_lt_zero _), Below.refl _ _⟩
    case round =>
      obtain ⟨i, hi, rfl, hB⟩ := hrel
      by_cases hlt : i < n
      · have hix : i < xs.length := by rw [HL.out.1]; exact hlt
        have hiy : i < ys.length := by rw [HL.out.2]; exact hlt
        obtain ⟨b, off, rfl, c0, c1, c2⟩ := (H.out.below hB.out.2).at i hix
        obtain ⟨b', off', rfl, d0, d1, d2⟩ := (H'.out.below hB.out.2).at i hiy
        have HX := Lib.hid (And.intro (List.getElem?_eq_getElem hix) (List.getElem?_eq_getElem hiy))
        generalize xs[i] = x at *
        generalize ys[i] = y at *
        obtain ⟨xe, xc, xi⟩ := x
        obtain ⟨ye, yc, yi⟩ := y
        simp only at c0 c1 c2 d0 d1 d2
        clear hix hiy
        by_cases hxy : xe = ye ∧ xc = yc ∧ xi = yi
        · obtain ⟨rfl, rfl, rfl⟩ := hxy
          go_upto_region 6 with fail
          go_quiet (fail)
          go_wp2
          go_roundw
          case rel =>
            refine ⟨i + 1, by omega, by go_num, fun j hj => ?_, (Turned.drewN (Turned.of_below hB.out.2) nq).below⟩
            rcases Nat.lt_or_ge j i with h' | h'
            · exact hB.out.1 j h'
            · have : j = i := by omega
              subst this
              rw [HX.out.1, HX.out.2]
          case measure => simp [intOf]; omega
        · have HNe : Hid (xs ≠ ys) := by
            intro e
            have h1 := HX.out.1
            have h2 := HX.out.2
            rw [e, h2] at h1
            simp only [Option.some.injEq, Slot.mk.injEq] at h1
            exact hxy ⟨h1.1.symm, h1.2.1.symm, h1.2.2.symm⟩
          have hcs : ((xe == ye) = false) ∨ ((xe == ye) = true ∧ (xc == yc) = false) ∨ ((xe == ye) = true ∧ (xc == yc) = true ∧ (xi == yi) = false) := by
            simp only [beq_iff_eq, beq_eq_false_iff_ne]
            omega
          clear hxy
          rcases hcs with h1 | ⟨h1, h2⟩ | ⟨h1, h2, h3⟩
          all_goals
            go_upto_region 6 with fail
            go_quiet (fail)
            go_wp2
            go_ret
            exact ⟨retB (by rw [← HR.out]; symm; rw [decide_eq_false_iff_not]; exact HNe.out), (Turned.drewN (Turned.of_below hB.out.2) nq).below⟩
      · have hie : i = n := by omega
        subst hie
        clear hlt
        go_wp2
        go_ret
        have e1 : xs = ys := List.ext_getElem? fun j => by
          rcases Nat.lt_or_ge j i with h' | h'
          · exact hB.out.1 j h'
          · rw [List.getElem?_eq_none (by rw [HL.out.1]; exact h'), List.getElem?_eq_none (by rw [HL.out.2]; exact h')]
        exact ⟨retB (by rw [← HR.out, e1]; simp), hB.out.2⟩
  · have hl := h.1
    have hl' := h'.1
    have hd : decide (xs = ys) = false := by
      rw [decide_eq_false_iff_not]
      intro e
      rw [e] at hl
      omega
    rw [hd]
    have hnb : ((n : Int) == n') = false := by rw [beq_eq_false_iff_ne]; omega
    have hnc : (n == n') = false := by simpa using hne
    have HB := Lib.hid (Below.refl w.heap.size w)
    clear h h' hl hl' hd hne
    go_enter Tryz.func13, Tryz.ntmps13
    go_wp2
    go_ret
    exact ⟨rfl, HB.out⟩
end Go.Proofs.YtmpbhoijkcanmaaGreat.R

/- An append, at a step of a region that draws its order: of any number of cells. -/
namespace Go.Proofs.YtmpbhoijkcanmaaGreat.G
open Go.RowKit Go.Maps
set_option linter.unusedVariables false
set_option linter.unusedSimpArgs false
set_option linter.unusedSectionVars false

variable {P : Program} {w : World}
theorem step_append_at {ops : Array Oper} {o : Oper} {a : Act} {K : Act → World → Prop} {Q : Exit → Act → World → Prop} {E : Prop} (hgd : o.guard = none) (s x : Operand) (t : TypeId)
    (ho : o.op = .call { callee := .builtin .append, args := #[s, x], argTypes := #[t, t] })
    (base : Nat) (e : TypeId) (i : TypeInfo) (z : Value) (size bytes : Nat) (ht : P.underlying t = some (.slice e)) (hi : P.info? e = some i) (hz : i.zero = some z)
    (hsize : i.size = size) (hby : i.bytes = bytes) (hzs : z.cells.size = size) (hsz : 0 < size)
    (v : Value) (n : Nat) (xs : List Value) (hs : a.eval s = v) (hown : w.ownsRow base e size v n xs)
    (ad : Addr) (m c : Nat) (news : List Value) (hx : a.eval x = .slice (some ad) m c) (hl : news.length = m * size) (hnews : ∀ j u, news[j]? = some u → w.cell? (ad.add j) = some u) (h1 : ∀ u ∈ news, u.oneCell' = true)
    (h63 : n + m ≤ maxLen) (hbytes : (n + m) * bytes ≤ 140737488355328) (hbase : base ≤ w.heap.size)
    (h : ∀ v' w', w'.ownsRow base e size v' (n + m) (xs ++ news) → w.grownBy w' v.ownBlock → (v'.ownBlock = v.ownBlock ∨ v'.ownBlock = some w.heap.size) → K (a.put o.dst v') w') :
    if Region.wanted o (yielded ops a.tmps) = true then Oper.wp P o a w K Q else E := by
  have hw : Region.wanted o (yielded ops a.tmps) = true := by simp [Region.wanted, hgd]
  rw [if_pos hw]
  obtain ⟨v', w', hr, h2, h3, h4, h5⟩ := run_append_own_at (P := P) w base t o.type e i z size bytes ht hi hz hsize hby hzs hsz v n xs hown ad m c news hl hnews h1 h63 hbytes hbase
  unfold Oper.wp execOp
  simp only [ho, resolve, invoke, builtin, Sem.run_bind, Sem.run_pure, Result.andThen_ok, List.map_toArray, List.map_cons, List.map_nil, hs, hx, hr]
  exact h v' w' h2 h3 h5
/-- an empty slice of a call's own -/
theorem owns_empty (w : World) (t : TypeId) (size : Nat) : (w.alloc (.cells #[] t)).ownsRow w.heap.size t size (.slice (some ⟨w.heap.size, 0, none⟩) 0 0) 0 [] :=
  ⟨by simp, .inr ⟨w.heap.size, 0, #[], rfl, Nat.le_refl _, (MapKept.heap_alloc w _).1, Nat.le_refl _, by decide, by simp, by simp⟩⟩
/-- the beginning of a slice -/
theorem run_slice_pre {t : TypeId} (hu : P.underlying t = some (.slice (P.elem t))) (hsz : ∀ w, (sizeOf (P.elem t)).run P w = .ok 1 w) (b off n cap k : Nat) (hk : k ≤ cap) (h0 : 0 < cap) (w : World) :
    (Instr.slice t (.slice (some ⟨b, off, none⟩) n cap) none (some (.int .i64 (k : Nat))) none).run P w = .ok (.slice (some ⟨b, off, none⟩) k cap) w := by
  rw [run_slice_h w t (some ⟨b, off, none⟩) n cap hu .i64 (k : Nat) (by omega) (by omega), hsz]
  simp only [Result.andThen, sliced, Int.toNat_natCast, Nat.sub_zero, Nat.zero_mul]
  rw [if_neg (by omega)]
  simp [Addr.add]
/-- the end of a slice -/
def sufA (b off cap k : Nat) : Addr := if cap = k then ⟨b, off, none⟩ else ⟨b, off + k, none⟩
theorem run_slice_suf {t : TypeId} (hu : P.underlying t = some (.slice (P.elem t))) (hsz : ∀ w, (sizeOf (P.elem t)).run P w = .ok 1 w) (b off n cap k : Nat) (hk : k + 1 ≤ n) (w : World) :
    (Instr.slice t (.slice (some ⟨b, off, none⟩) n cap) (some (.int .i64 ((k : Nat) + 1))) none none).run P w = .ok (.slice (some (sufA b off cap (k + 1))) (n - (k + 1)) (cap - (k + 1))) w := by
  rw [run_slice_l w t (some ⟨b, off, none⟩) n cap hu .i64 ((k : Nat) + 1) (by omega) (by omega), hsz]
  have e : ((k : Int) + 1).toNat = k + 1 := by omega
  simp only [Result.andThen, sliced, e, Nat.mul_one]
  unfold sufA
  by_cases h : cap = k + 1
  · rw [if_pos h, if_pos h]
  · rw [if_neg h, if_neg h]
    simp [Addr.add]
end Go.Proofs.YtmpbhoijkcanmaaGreat.G
