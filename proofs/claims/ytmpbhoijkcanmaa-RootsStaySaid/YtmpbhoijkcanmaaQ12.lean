/- Maps of pages, and versions of them: lemmas, part 12 of 14. -/
import Derived.Test.YtmpbhoijkcanmaaQ11

/- Roots: the versions' numbers, where there is just one. -/
namespace Go.Proofs.Ytmpbhoijkcanmaa.R
open Go.ChangeShapes Go.WideShapes Go.ChangeAt Go.RowKit Go.Maps Go.Proofs.Ytmpbhoijkcanmaa.G Go.Sort Go.Shelf Go.Lib
set_option linter.unusedVariables false
set_option linter.unusedSimpArgs false
set_option linter.unnecessarySimpa false

set_option maxRecDepth 100000 in
set_option maxHeartbeats 1000000 in
theorem keys1U (F : Fence) (n : Nat) (h10 : F.fn 65) (hro : F.round = none) (hn : 1 ≤ n) (l Bm b : Nat) (L : List (Nat × Value)) (J : List Nat → World → Prop)
    (hY : ∀ pre x W, J pre W → pre.length < L.length → YieldAt F (n - 1) Try.prog l #[encU x] W fun e W' => e = .returned (.bool true) ∧ J (pre ++ [x]) W' ∧ KeepsWalks W W')
    (W : World) (hJ : AbidesFrom W.heap.size J) (hm : W.cell? ⟨Bm, 0, none⟩ = some (.map (some b))) (hown : MapIs Try.prog 61 encU W b L) (h0 : J [] W) :
    CallsIn F n Try.prog 65 #[.func (.yield l) #[] #[], .pointer (some ⟨Bm, 0, none⟩)] W fun e W' => (∃ v, e = .returned v) ∧ ∃ ss : List Nat, ss.Perm (L.map (·.1)) ∧ J ss W' := by
  have hbl := hown.lt
  refine callsIn_of_wp Try.func65 rfl h10 ?_ hro
  simp only [Try.ntmps65, List.size_toArray, List.length_cons, List.length_nil, Nat.reduceAdd, Nat.reduceSub, Array.replicate_succ, Array.replicate_zero, List.push_toArray, List.append_toArray, List.nil_append, List.cons_append]
  gi_wp2_with (first
    | (gi_at_range; refine wp_rangeIn _ rfl _ 106 rfl Try.underlying106 b L rfl hown ?_; intro w0 hi0 ht0)
    | gi_in)
  go_frame
  gi_loopw [3] (fun _ wr => ∃ done : List (Nat × Value), IterIs Try.prog 61 encU wr W.heap.size b L done ∧ J (done.map (·.1)) wr) (fun _ wr => leftIn wr W.heap.size b)
  case atStart => exact ⟨[], hi0, hJ [] W w0 none h0 (grown_of_calm ht0) (fun r e => by cases e)⟩
  case round =>
    obtain ⟨done, hi, hJs⟩ := hrel
    gi_wp2_with (first
      | (gi_at_next; refine wp_nextIn _ rfl _ rfl W.heap.size b L done rfl hi ?_ ?_)
      | gi_in)
    · intro hp
      gi_wp2
      go_end0
      exact ⟨⟨_, rfl⟩, done.map (·.1), hp.map _, hJs⟩
    · rintro k v w2 hmem hi2 ht2 hsz hen
      have hJ2 : J (done.map (·.1)) w2 := hJ _ wr w2 (some W.heap.size) hJs (grown_of_turned ht2) (fun r e => by cases e; exact ⟨Nat.le_refl _, iter_isWalk hi⟩)
      have hlen : done.length + 1 ≤ L.length := by have := hi2.len_le; simpa using this
      obtain ⟨fn, tmps, assign, body, hy, hR⟩ := hY (done.map (·.1)) k _ hJ2 (by simp; omega)
      unfold encU at hy hen
      have HJ := Lib.hid hJ
      clear hJ2 hJs hJ hY
      gi_wp2
      refine hR.mono ?_
      rintro e W3 ⟨rfl, hJ4, hk3⟩
      have hi4 := iter_walks hi2 hk3
      gi_wp2
      go_roundw
      case rel => exact ⟨done ++ [(k, v)], hi4, by rw [List.map_append]; exact hJ4⟩
      case measure => rw [iter_left hi4, iter_left hi, List.length_append, List.length_singleton]; omega
theorem keys_givesU (F : Fence) (n : Nat) (h10 : F.fn 65) (hro : F.round = none) (hn : 1 ≤ n) (Bm b : Nat) (L : List (Nat × Value)) (w : World) (hBm : Bm < w.heap.size)
    (hm : w.cell? ⟨Bm, 0, none⟩ = some (.map (some b))) (hown : MapIs Try.prog 61 encU w b L) :
    SeqGives F n Try.prog 65 #[.pointer (some ⟨Bm, 0, none⟩)] encU (fun ss => ss.Perm (L.map (·.1))) L.length w := fun l J W hW hJ hY h0 =>
  keys1U F n h10 hro hn l Bm b L J hY W hJ ((hW.cell (p := ⟨Bm, 0, none⟩) hBm).trans hm) (hown.turned (Turned.of_below hW) (by simp)) h0
theorem keysFV (b : Nat) (w : World) : Calls Try.prog 51 #[.map (some b)] w fun e w' => e = .returned (.func (.func 65) #[] #[.pointer (some ⟨w.heap.size, 0, none⟩)]) ∧ w.alloc (.cells #[.map (some b)] 106) = w' := by
  go_enter Try.func51, Try.ntmps51
  go_wp2
  go_ret
  exact ⟨rfl, rfl⟩
set_option maxRecDepth 100000 in
theorem insU_one (a : Option Addr) (cap : Nat) (w : World) : Calls Try.prog 77 #[.slice a 1 cap, .int .i64 0, .int .i64 1] w fun e w' => e = .returned (.tuple #[]) ∧ w = w' := by
  go_enter Try.func77, Try.ntmps77
  go_wp2
  go_loopw [6] (fun v wr => v = .int .i64 1 ∧ wr = w) (fun _ _ => 0)
  case atStart => exact ⟨rfl, rfl⟩
  case round =>
    obtain ⟨rfl, rfl⟩ := hrel
    go_wp2
    go_end0
    exact ⟨rfl, rfl⟩
set_option maxRecDepth 100000 in
theorem pdqU_one (a : Option Addr) (cap : Nat) (k : Int) (w : World) : Calls Try.prog 73 #[.slice a 1 cap, .int .i64 0, .int .i64 1, .int .i64 k] w fun e w' => e = .returned (.tuple #[]) ∧ w = w' := by
  have CI := Lib.hid (insU_one a cap)
  go_enter Try.func73, Try.ntmps73
  go_wp2
  go_loopw [1, 2] (fun x y wr => x = .int .i64 0 ∧ y = .int .i64 1 ∧ wr = w) (fun _ _ _ => 0)
  case atStart => exact ⟨rfl, rfl, rfl⟩
  case round =>
    obtain ⟨rfl, rfl, rfl⟩ := hrel
    go_wp2_with (go_at_call 77; ((with_reducible refine (CI.out _).mono ?_); rintro e w1 ⟨rfl, rfl⟩))
    exact bodyPost_ret (v := .tuple #[]) (by simp [results, Try.results73, go_sem]) rfl ⟨rfl, rfl⟩
set_option maxRecDepth 100000 in
theorem bitsLen_one (w : World) : Calls Try.prog 74 #[.int .u64 1] w fun e w' => e = .returned (.int .i64 1) ∧ w = w' := by
  go_enter Try.func74, Try.ntmps74
  go_wp2
  go_ret
  exact ⟨ret1 (a := wrap64 (wrap64 (len8 1))) (by decide +kernel), rfl⟩
set_option maxRecDepth 100000 in
theorem sortU_one (a : Option Addr) (cap : Nat) (w : World) : Calls Try.prog 64 #[.slice a 1 cap] w fun e w' => e = .returned (.tuple #[]) ∧ w = w' := by
  have CI := Lib.hid (pdqU_one a cap 1)
  have CB := Lib.hid bitsLen_one
  go_enter Try.func64, Try.ntmps64
  go_wp2_with (first
    | (go_at_call 74; ((with_reducible refine (CB.out _).mono ?_); rintro e w1 ⟨rfl, rfl⟩))
    | (go_at_call 73; ((with_reducible refine (CI.out _).mono ?_); rintro e w1 ⟨rfl, rfl⟩)))
  go_end0
  exact ⟨rfl, rfl⟩
def oneU (n : Nat) (w : World) (e : Ending) (w' : World) : Prop := ∃ a cap, e = .returned (.slice a 1 cap) ∧ w'.ownsRow w.heap.size 61 1 (.slice a 1 cap) 1 [encU n] ∧ Below w.heap.size w w'
set_option maxRecDepth 100000 in
theorem sortedU_one (b n : Nat) (v : Value) (w : World) (h : MapIs Try.prog 61 encU w b [(n, v)]) :
    Calls Try.prog 50 #[.func (.func 65) #[] #[.pointer (some ⟨w.heap.size, 0, none⟩)]] (w.alloc (.cells #[.map (some b)] 106)) (oneU n w) := by
  have tA := (Turned.refl [] w).alloc (.cells #[.map (some b)] 106)
  have hseq : SeqGives Fence.wide 2 Try.prog 65 #[.pointer (some ⟨w.heap.size, 0, none⟩)] encU (fun ss => ss.Perm ([(n, v)].map (·.1))) 1 (w.alloc (.cells #[.map (some b)] 106)) :=
    keys_givesU Fence.wide _ trivial rfl (by omega) w.heap.size b [(n, v)] _ (by simp) (by simp) (h.turned tA (by simp))
  have cC := collectU_in Fence.wide 4 trivial trivial rfl (by omega) 65 #[.pointer (some ⟨w.heap.size, 0, none⟩)] trivial (enters_of Try.func65 (by kernel_rfl) rfl) _ _ (by unfold maxLen; omega) (by omega) _ hseq
  have cC := (callsIn_wide (n := 4)).1 cC
  have CC : Hid (Calls Try.prog 63 #[.func (.func 65) #[] #[.pointer (some ⟨w.heap.size, 0, none⟩)]] (w.alloc (.cells #[.map (some b)] 106)) fun e w' => ∃ a cap, e = .returned (.slice a 1 cap) ∧ w'.ownsRow w.heap.size 61 1 (.slice a 1 cap) 1 [encU n] ∧ Below w.heap.size w w') := by
    refine cC.mono fun e w' ⟨v', ss, e1, hS, ho, _, hb⟩ => ?_
    have e2 : ss = [n] := by
      have h1 := hS.length_eq
      have h2 := hS.mem_iff (a := n)
      match ss, h1 with
      | [x], _ => simp at h2; rw [h2]
    subst e2
    obtain ⟨a, cap, rfl⟩ := slice_of_owns ho
    exact ⟨a, cap, e1, owns_mono ho (by simp), (tA.trans ((Turned.of_below hb).mono (fun _ _ h => by cases h))).below⟩
  clear cC hseq h tA
  have CS := Lib.hid sortU_one
  generalize w.alloc (.cells #[.map (some b)] 106) = wA at *
  obtain ⟨B, hB⟩ : ∃ B, w.heap.size = B := ⟨_, rfl⟩
  rw [hB] at CC ⊢
  have HBe := Lib.hid hB
  clear hB
  go_enter Try.func50, Try.ntmps50
  go_wp2_with (first
    | (go_at_call 63; ((with_reducible refine CC.out.mono ?_); rintro e w1 ⟨a, cap, rfl, ho, hb⟩; have H1 := Lib.hid (And.intro ho hb); clear ho hb))
    | (go_at_call 64; ((with_reducible refine (CS.out _ _ _).mono ?_); rintro e w2 ⟨rfl, rfl⟩)))
  go_ret
  exact ⟨a, cap, rfl, by rw [HBe.out]; exact H1.out.1, by rw [HBe.out]; exact H1.out.2⟩
set_option maxRecDepth 100000 in
theorem rvers_one {w ww : World} {rb L n : Nat} {R : Ro} {F : Fo} {Kx : List (Nat × Obj)} {f mb : Nat} {mo : Obj} {blk : Nat → Nat} (h : RtA w ww rb L R F Kx f mb mo blk) {v : Vr} (hv : R.vs = [(n, v)]) : Calls Try.prog 31 #[.pointer (some ⟨rb, 0, none⟩)] ww (oneU n ww) := by
  have c1 := h.c1
  have CN := Lib.hid (rnone_fn h)
  have hm := h.map
  rw [hv] at hm
  have CS := Lib.hid (sortedU_one mb n _ ww hm)
  have CK := Lib.hid (keysFV mb ww)
  clear h hm hv
  generalize ww.alloc (.cells #[.map (some mb)] 106) = wA at *
  obtain ⟨B, hB⟩ : ∃ B, ww.heap.size = B := ⟨_, rfl⟩
  rw [hB] at CS CK
  clear hB
  go_enter Try.func31, Try.ntmps31
  go_wp2_with (first
    | (go_at_call 48; ((with_reducible refine CN.out.mono ?_); rintro e ww2 ⟨rfl, rfl⟩))
    | (go_at_call 51; ((with_reducible refine CK.out.mono ?_); rintro e w1 ⟨rfl, rfl⟩))
    | (go_at_call 50; ((with_reducible refine CS.out.mono ?_); rintro e w2 ⟨a, cap, rfl, hr⟩; have HR := Lib.hid hr; clear hr)))
  go_ret
  exact ⟨a, cap, rfl, HR.out⟩
end Go.Proofs.Ytmpbhoijkcanmaa.R

/- Roots: what holds of versions behind calls: the plain law. -/
namespace Go.Proofs.Ytmpbhoijkcanmaa.R
open Go.ChangeShapes Go.WideShapes Go.ChangeAt Go.RowKit Go.Maps Go.Proofs.Ytmpbhoijkcanmaa.G
set_option linter.unusedVariables false
set_option linter.unusedSimpArgs false
set_option linter.unnecessarySimpa false

variable {rb L T n : Nat} {R R' : Ro} {F F' G : Fo} {vs : List (Nat × Vr)} {v : Vr} {ys : List Slot}
theorem vdel_perm (hn : (keysV vs).Nodup) (hv : vget vs n = some v) : vs.Perm ((n, v) :: vdel vs n) := by
  have hm := vget_some hv
  have hnd : vs.Nodup := by
    have hn' : (vs.map (·.1)).Nodup := hn
    rw [List.Nodup, List.pairwise_map] at hn'
    exact hn'.imp fun h e => h (by rw [e])
  refine (List.perm_ext_iff_of_nodup hnd ?_).2 fun x => ?_
  · rw [List.nodup_cons]
    exact ⟨fun h => by have := (List.mem_filter.1 h).2; simp at this, hnd.filter _⟩
  · rw [List.mem_cons]
    unfold vdel
    rw [List.mem_filter]
    constructor
    · intro hx
      by_cases e : x.1 = n
      · left
        have h1 := vget_mem hn (n := x.1) (v := x.2) hx
        rw [e, hv] at h1
        simp only [Option.some.injEq] at h1
        rw [h1, ← e]
      · exact .inr ⟨hx, by simpa using e⟩
    · rintro (rfl | ⟨hx, _⟩)
      · exact hm
      · exact hx
theorem vdel_count (hn : (keysV vs).Nodup) (hv : vget vs n = some v) (i : Nat) : (rootsV vs).count i = (rootsV (vdel vs n)).count i + if i = v.root then 1 else 0 := by
  have h := ((vdel_perm hn hv).map (·.2.root)).count_eq i
  unfold rootsV
  rw [h, List.map_cons, List.count_cons]
  by_cases e : v.root = i
  · subst e; simp
  · rw [if_neg (by simpa using e), if_neg (Ne.symm e)]
/-- versions, but for what is to be swept -/
structure RoPre (R : Ro) (F : Fo) (T : Nat) : Prop where
  keys : (keysV R.vs).Nodup
  le : ∀ n, n ∈ keysV R.vs → n ≤ R.now
  now : R.now ∈ keysV R.vs
  held : ∀ r : Nat, r ≠ 0 → cnt F.held (r : Int) = (rootsV R.vs).count r
  small : R.now ≤ T ∧ ∀ x, x ∈ R.vs → x.2.held ≤ T
theorem RoOk.pre (h : RoOk R F T) : RoPre R F T := ⟨h.keys, h.le, h.now, h.held, h.small⟩
theorem RoPre.more {T' : Nat} (h : RoPre R F T) (hT : T ≤ T') : RoPre R F T' := ⟨h.keys, h.le, h.now, h.held, Nat.le_trans h.small.1 hT, fun x hx => Nat.le_trans (h.small.2 x hx) hT⟩
theorem RoPre.inn (h : RoPre R F T) (k : Ok F L) {x : Nat × Vr} (hx : x ∈ R.vs) : x.2.root = 0 ∨ x.2.root ∈ F.ids := by
  by_cases h0 : x.2.root = 0
  · exact .inl h0
  · right
    refine k.root ?_
    rw [h.held _ h0]
    exact List.count_pos_iff.2 (List.mem_map_of_mem hx)
/-- behind a sweep -/
theorem Sw.pre (h : RoPre R F T) (hv : vget R.vs n = some v) (s : Sw R F L n v R' G ys) (k : Ok F L) : RoPre R' G T ∧ Ok G L ∧ R'.now = R.now ∧ (∀ x, x ∈ R'.vs → x ∈ R.vs) ∧ (∀ x, x ∈ R.vs → x.1 ≠ n → x ∈ R'.vs) ∧ (∀ x, x ∈ R'.vs → ∀ q, getL 2 G x.2.root q = getL 2 F x.2.root q) ∧ ((n, v) ∈ R'.vs ↔ (n = R.now ∨ 0 < v.held)) := by
  rcases s with ⟨hc, rfl, rfl, rfl⟩ | ⟨⟨h1, h2⟩, rfl, d⟩
  · exact ⟨h, k, rfl, fun _ h => h, fun _ h _ => h, fun _ _ _ => rfl, fun _ => hc, fun _ => vget_some hv⟩
  · have hk : (keysV (vdel R.vs n)).Nodup := h.keys.sublist ((List.filter_sublist (l := R.vs)).map _)
    have hsub : ∀ x, x ∈ vdel R.vs n → x ∈ R.vs := fun x hx => (List.mem_filter.1 hx).1
    have hp : RoPre ⟨vdel R.vs n, R.now⟩ G T := ⟨hk, fun m hm => h.le m (keys_vdel.1 hm).1, keys_vdel.2 ⟨h.now, Ne.symm h1⟩, fun r h0 => by
      rw [d.held, h.held r h0, vdel_count h.keys hv]
      show _ = (rootsV (vdel R.vs n)).count r
      by_cases e : r = v.root
      · subst e; rw [if_pos ⟨h0, rfl⟩, if_pos rfl]; omega
      · rw [if_neg (by omega), if_neg e]; omega, h.small.1, fun x hx => h.small.2 x (hsub x hx)⟩
    exact ⟨hp, d.ok, rfl, hsub, fun x hx hne => List.mem_filter.2 ⟨hx, by simpa using hne⟩, fun x hx q => (getL_ext d.ok.inv d.ext 2 x.2.root q (hp.inn d.ok hx)).symm,
      fun hm => by have := (List.mem_filter.1 hm).2; simp at this, fun hc => by rcases hc with hc | hc <;> omega⟩
/-- what came of Publish -/
structure PubIs (R : Ro) (F : Fo) (v : Vr) (l : List ChD) (T : Nat) (R' : Ro) (G : Fo) (L' : Nat) (ys : List Slot) : Prop where
  ok : RoOk R' G (T + 1)
  fo : Ok G L'
  now : R'.now = R.now + 1
  new : ∃ r, vget R'.vs (R.now + 1) = some ⟨r, 0⟩ ∧ ∀ q, q < 4096 → getL 2 G r q = chgs (getL 2 F v.root) l q
  old : ∀ x, x ∈ R'.vs → x.1 ≠ R.now + 1 → x ∈ R.vs ∧ ∀ q, getL 2 G x.2.root q = getL 2 F x.2.root q
  kept : ∀ x, x ∈ R.vs → (x.1 ≠ R.now ∨ 0 < x.2.held) → x ∈ R'.vs
  keptN : (R.now, v) ∈ R'.vs ↔ 0 < v.held
  gone : SlotsIs (fun s => s ∈ ys) ys ∧ ∀ s, s ∈ ys → ¬ HasS G s
theorem pub_is {r : Nat} (h : RoOk R F T) (hv : vget R.vs R.now = some v) {l : List ChD} (k : Ok F' L) (p : PuP R.vs F F' r (chgs (getL 2 F v.root) l)) (s : Sw ⟨R.vs ++ [(R.now + 1, ⟨r, 0⟩)], R.now + 1⟩ F' L R.now v R' G ys) : PubIs R F v l T R' G L ys := by
  have hnk : R.now + 1 ∉ keysV R.vs := fun hm => by have := h.le _ hm; omega
  have hke : keysV (R.vs ++ [(R.now + 1, (⟨r, 0⟩ : Vr))]) = keysV R.vs ++ [R.now + 1] := by unfold keysV; simp
  have hp1 : RoPre ⟨R.vs ++ [(R.now + 1, ⟨r, 0⟩)], R.now + 1⟩ F' (T + 1) := by
    refine ⟨?_, fun m hm => ?_, ?_, fun i h0 => ?_, ?_, fun x hx => ?_⟩
    · show (keysV (R.vs ++ [(R.now + 1, (⟨r, 0⟩ : Vr))])).Nodup
      rw [hke, List.nodup_append]
      exact ⟨h.keys, by simp, fun a ha b hb e => by simp only [List.mem_singleton] at hb; subst hb; subst e; exact hnk ha⟩
    · have hm : m ∈ keysV (R.vs ++ [(R.now + 1, (⟨r, 0⟩ : Vr))]) := hm
      rw [hke] at hm
      rcases List.mem_append.1 hm with hm | hm
      · have := h.le m hm; show m ≤ R.now + 1; omega
      · simp only [List.mem_singleton] at hm; subst hm; exact Nat.le_refl _
    · show R.now + 1 ∈ keysV (R.vs ++ [(R.now + 1, (⟨r, 0⟩ : Vr))])
      rw [hke]; simp
    · rw [p.held i h0]
      show _ = (rootsV (R.vs ++ [(R.now + 1, (⟨r, 0⟩ : Vr))])).count i
      unfold rootsV
      rw [List.map_append, List.count_append]
      congr 1
      simp only [List.map_cons, List.map_nil, List.count_singleton]
      by_cases e : i = r
      · subst e; simp
      · rw [if_neg e, if_neg (by simpa using Ne.symm e)]
    · have := h.small.1; show R.now + 1 ≤ T + 1; omega
    · rcases List.mem_append.1 hx with hx | hx
      · have := h.small.2 x hx; omega
      · simp only [List.mem_singleton] at hx; subst hx; exact Nat.zero_le _
  have hv1 : vget (R.vs ++ [(R.now + 1, (⟨r, 0⟩ : Vr))]) R.now = some v := vget_append_old hv
  obtain ⟨q1, q2, q3, q4, q5, q6, q7⟩ := Sw.pre hp1 hv1 s k
  have hnew : (R.now + 1, (⟨r, 0⟩ : Vr)) ∈ R'.vs := q5 _ (by simp) (by simp)
  have hget : vget R'.vs (R.now + 1) = some ⟨r, 0⟩ := vget_mem q1.keys hnew
  refine ⟨⟨q1.keys, q1.le, q1.now, q1.held, q1.small, fun x hx => ?_⟩, q2, q3, ⟨r, hget, fun q hq => (q6 _ hnew q).trans (p.get q hq)⟩, fun x hx hne => ?_, fun x hx hc => ?_, ?_, ?_⟩
  · rw [q3]
    show x.1 = R.now + 1 ∨ _
    rcases List.mem_append.1 (q4 x hx) with hx1 | hx1
    · by_cases e : x.1 = R.now
      · right
        have h1 := vget_mem h.keys (n := x.1) (v := x.2) hx1
        rw [e, hv] at h1
        simp only [Option.some.injEq] at h1
        have hx' : (R.now, v) ∈ R'.vs := by rw [h1, ← e]; exact hx
        have := q7.1 hx'
        rw [← h1]
        rcases this with h | h
        · have h : R.now = R.now + 1 := h
          omega
        · exact h
      · exact .inr ((h.swept x hx1).resolve_left e)
    · simp only [List.mem_singleton] at hx1; subst hx1; exact .inl rfl
  · rcases List.mem_append.1 (q4 x hx) with hx1 | hx1
    · exact ⟨hx1, fun q => (q6 x hx q).trans (p.old x hx1 q)⟩
    · simp only [List.mem_singleton] at hx1; subst hx1; exact absurd rfl hne
  · by_cases e : x.1 = R.now
    · have hh : 0 < x.2.held := hc.resolve_left (fun h => h e)
      have h1 := vget_mem h.keys (n := x.1) (v := x.2) hx
      rw [e, hv] at h1
      simp only [Option.some.injEq] at h1
      have hx' := q7.2 (.inr (by rw [h1]; exact hh))
      rw [h1, ← e] at hx'
      exact hx'
    · exact q5 x (List.mem_append.2 (.inl hx)) e
  · rw [q7]
    constructor
    · rintro (h | h)
      · have h : R.now = R.now + 1 := h
        omega
      · exact h
    · exact fun h => .inr h
  · rcases s with ⟨_, _, _, rfl⟩ | ⟨_, _, d⟩
    · exact ⟨⟨fun s => Iff.rfl, List.nodup_nil, List.Pairwise.nil⟩, fun s hs => by cases hs⟩
    · exact ⟨⟨fun s => Iff.rfl, d.gone.nodup, d.gone.sorted⟩, fun s hs => ((d.gone.mem s).1 hs).2⟩
end Go.Proofs.Ytmpbhoijkcanmaa.R

/- Roots: what holds of versions behind Hold and Release: the plain law. -/
namespace Go.Proofs.Ytmpbhoijkcanmaa.R
open Go.ChangeShapes Go.WideShapes Go.ChangeAt Go.RowKit Go.Maps Go.Proofs.Ytmpbhoijkcanmaa.G
set_option linter.unusedVariables false
set_option linter.unusedSimpArgs false
set_option linter.unnecessarySimpa false

variable {rb L T n : Nat} {R R' : Ro} {F F' G : Fo} {vs : List (Nat × Vr)} {v : Vr} {ys : List Slot}
theorem roots_vset (hn : (keysV vs).Nodup) (hv : vget vs n = some v) (k : Nat) : rootsV (vset vs n ⟨v.root, k⟩) = rootsV vs := by
  unfold rootsV vset
  rw [List.map_map]
  refine List.map_congr_left fun x hx => ?_
  simp only [Function.comp]
  by_cases e : x.1 = n
  · rw [if_pos e]
    have h1 := vget_mem hn (n := x.1) (v := x.2) hx
    rw [e, hv] at h1
    simp only [Option.some.injEq] at h1
    rw [← h1]
  · rw [if_neg e]
/-- how often a version is held -/
theorem RoPre.setv (h : RoPre R F T) (hv : vget R.vs n = some v) {k T' : Nat} (hk : k ≤ T') (hT : T ≤ T') : RoPre ⟨vset R.vs n ⟨v.root, k⟩, R.now⟩ F T' := by
  have e : keysV (vset R.vs n ⟨v.root, k⟩) = keysV R.vs := keys_vset _ _ _
  refine ⟨by rw [e]; exact h.keys, fun m hm => h.le m (by rw [← e]; exact hm), by rw [e]; exact h.now, fun r h0 => by rw [roots_vset h.keys hv]; exact h.held r h0, Nat.le_trans h.small.1 hT, fun x hx => ?_⟩
  rcases mem_vset.1 hx with ⟨rfl, _⟩ | ⟨hx, _⟩
  · exact hk
  · exact Nat.le_trans (h.small.2 x hx) hT
theorem RoOk.hold (h : RoOk R F T) (hv : vget R.vs n = some v) : RoOk ⟨vset R.vs n ⟨v.root, v.held + 1⟩, R.now⟩ F (T + 1) := by
  have hs : v.held ≤ T := h.small.2 _ (vget_some hv)
  have p := h.pre.setv hv (k := v.held + 1) (T' := T + 1) (by omega) (by omega)
  refine ⟨p.keys, p.le, p.now, p.held, p.small, fun x hx => ?_⟩
  rcases mem_vset.1 hx with ⟨rfl, _⟩ | ⟨hx, _⟩
  · exact .inr (Nat.succ_pos _)
  · exact h.swept x hx
/-- what came of Release -/
structure RelIs (R : Ro) (F : Fo) (n : Nat) (v : Vr) (hd : Nat) (T : Nat) (R' : Ro) (G : Fo) (L : Nat) (ys : List Slot) : Prop where
  ok : RoOk R' G T
  fo : Ok G L
  now : R'.now = R.now
  old : ∀ x, x ∈ R'.vs → x.1 ≠ n → x ∈ R.vs
  maps : ∀ x, x ∈ R'.vs → ∀ q, getL 2 G x.2.root q = getL 2 F x.2.root q
  kept : ∀ x, x ∈ R.vs → x.1 ≠ n → x ∈ R'.vs
  self : (n, (⟨v.root, hd⟩ : Vr)) ∈ R'.vs ↔ (n = R.now ∨ 0 < hd)
  at_n : ∀ x, x ∈ R'.vs → x.1 = n → x = (n, (⟨v.root, hd⟩ : Vr))
  gone : SlotsIs (fun s => HasS F s ∧ ¬ HasS G s) ys
theorem rel_is (h : RoOk R F T) (k : Ok F L) (hv : vget R.vs n = some v) {hd : Nat} (hh : v.held = hd + 1) (s : Sw ⟨vset R.vs n ⟨v.root, hd⟩, R.now⟩ F L n ⟨v.root, hd⟩ R' G ys) : RelIs R F n v hd T R' G L ys := by
  have hs : v.held ≤ T := h.small.2 _ (vget_some hv)
  have p := h.pre.setv hv (k := hd) (T' := T) (by omega) (Nat.le_refl _)
  have hv1 : vget (vset R.vs n ⟨v.root, hd⟩) n = some ⟨v.root, hd⟩ := vget_vset h.keys hv
  obtain ⟨q1, q2, q3, q4, q5, q6, q7⟩ := Sw.pre p hv1 s k
  refine ⟨⟨q1.keys, q1.le, q1.now, q1.held, q1.small, fun x hx => ?_⟩, q2, q3, fun x hx hne => ?_, q6, fun x hx hne => q5 x (mem_vset.2 (.inr ⟨hx, hne⟩)) hne, q7, fun x hx e => ?_, ?_⟩
  · rw [q3]
    rcases mem_vset.1 (q4 x hx) with ⟨rfl, _⟩ | ⟨hx1, hne⟩
    · exact q7.1 hx
    · exact h.swept x hx1
  · rcases mem_vset.1 (q4 x hx) with ⟨rfl, _⟩ | ⟨hx1, _⟩
    · exact absurd rfl hne
    · exact hx1
  · rcases mem_vset.1 (q4 x hx) with ⟨h, _⟩ | ⟨_, hne⟩
    · exact h
    · exact absurd e hne
  · rcases s with ⟨_, _, rfl, rfl⟩ | ⟨_, _, d⟩
    · exact ⟨fun s => ⟨fun h => (by cases h), fun h => absurd h.1 h.2⟩, List.nodup_nil, List.Pairwise.nil⟩
    · exact d.gone
/-- which slots there are -/
theorem slots_iff (h : RoPre R F T) (k : Ok F L) (s : Slot) : HasS F s ↔ ∃ x, x ∈ R.vs ∧ InMap F x.2.root s := by
  rw [hasS_iff k]
  constructor
  · rintro ⟨r, hr, hm⟩
    have h0 : r ≠ 0 := fun e => by
      subst e
      have := (k.inv.pos 0 (k.root (i := 0) hr)).1
      omega
    rw [h.held r h0] at hr
    obtain ⟨x, hx, e⟩ := List.mem_map.1 (List.count_pos_iff.1 hr)
    exact ⟨x, hx, by rw [e]; exact hm⟩
  · rintro ⟨x, hx, hm⟩
    refine ⟨x.2.root, ?_, hm⟩
    have h0 : x.2.root ≠ 0 := fun e => by
      obtain ⟨q, _, y, hy, _⟩ := hm
      rw [e, getL_zero] at hy; cases hy
    rw [h.held _ h0]
    exact List.count_pos_iff.2 (List.mem_map_of_mem hx)
end Go.Proofs.Ytmpbhoijkcanmaa.R

/- Roots: alive: the plain law. -/
namespace Go.Proofs.Ytmpbhoijkcanmaa.R
open Go.ChangeShapes Go.WideShapes Go.ChangeAt Go.RowKit Go.Maps Go.Proofs.Ytmpbhoijkcanmaa.G
set_option linter.unusedVariables false
set_option linter.unusedSimpArgs false
set_option linter.unnecessarySimpa false

variable {rb L T n : Nat} {R R' : Ro} {F F' G : Fo} {vs : List (Nat × Vr)} {v : Vr} {ys : List Slot}
def c24 (n : Int) : ChD := ⟨1, ⟨⟨n, 0, 0⟩, 0⟩, false⟩
theorem vget_set_self (h : RoOk R F T) (hv : vget R.vs n = some v) (u : Vr) : vget (vset R.vs n u) n = some u := vget_vset h.keys hv
/-- the first version is held; a second one comes -/
structure A3 (R3 : Ro) (G3 : Fo) (L r1 r2 : Nat) : Prop where
  ok : RoOk R3 G3 3
  fo : Ok G3 L
  now : R3.now = 2
  v1 : vget R3.vs 1 = some ⟨r1, 1⟩
  v2 : vget R3.vs 2 = some ⟨r2, 0⟩
  all : ∀ x, x ∈ R3.vs → x = (1, ⟨r1, 1⟩) ∨ x = (2, ⟨r2, 0⟩)
  g1 : ∀ q, q < 4096 → getL 2 G3 r1 q = if q = 1 then some ⟨⟨1, 0, 0⟩, 0⟩ else none
  g2 : ∀ q, q < 4096 → getL 2 G3 r2 q = if q = 1 then some ⟨⟨2, 0, 0⟩, 0⟩ else none
theorem chg_one (g : Nat → Option Ent) (n : Int) (q : Nat) : chgs g [c24 n] q = if q = 1 then some ⟨⟨n, 0, 0⟩, 0⟩ else g q := by
  show chg g (c24 n) q = _
  unfold chg c24
  by_cases e : q = 1
  · rw [if_pos e, if_pos (by simp [e])]; rfl
  · rw [if_neg e, if_neg (by simp; omega)]
theorem a1_is {R1 : Ro} {G1 : Fo} (p : PubIs ro0 fo0 ⟨0, 0⟩ [c24 1] 0 R1 G1 L ys) : ∃ r1, vget R1.vs 1 = some ⟨r1, 0⟩ ∧ R1.now = 1 ∧ (∀ x, x ∈ R1.vs → x = (1, ⟨r1, 0⟩)) ∧ ∀ q, q < 4096 → getL 2 G1 r1 q = if q = 1 then some ⟨⟨1, 0, 0⟩, 0⟩ else none := by
  obtain ⟨r1, h1, h2⟩ := p.new
  refine ⟨r1, h1, p.now, fun x hx => ?_, fun q hq => ?_⟩
  · by_cases e : x.1 = 1
    · have := vget_mem p.ok.keys (n := x.1) (v := x.2) hx
      have h1 : vget R1.vs 1 = some ⟨r1, 0⟩ := h1
      rw [e, h1] at this
      simp only [Option.some.injEq] at this
      rw [this, ← e]
    · have h3 := (p.old x hx e).1
      simp only [ro0, List.mem_singleton] at h3
      subst h3
      exact absurd (p.keptN.1 hx) (by simp)
  · rw [h2 q hq, chg_one]
    split
    · rfl
    · exact getL_zero 2 fo0 q
theorem a3_is {R1 R3 : Ro} {G1 G3 : Fo} {r1 : Nat} (h1 : vget R1.vs 1 = some ⟨r1, 0⟩) (hn : R1.now = 1) (ha : ∀ x, x ∈ R1.vs → x = (1, ⟨r1, 0⟩)) (hg : ∀ q, q < 4096 → getL 2 G1 r1 q = if q = 1 then some ⟨⟨1, 0, 0⟩, 0⟩ else none)
    (p : PubIs ⟨vset R1.vs 1 ⟨r1, 1⟩, R1.now⟩ G1 ⟨r1, 1⟩ [c24 2] 2 R3 G3 L ys) : ∃ r2, A3 R3 G3 L r1 r2 := by
  obtain ⟨r2, h2, h3⟩ := p.new
  have hnow : R3.now = 2 := by have := p.now; simp only [hn] at this; exact this
  simp only [hn] at h2
  have m1 : (1, (⟨r1, 1⟩ : Vr)) ∈ R3.vs := by
    have := p.keptN.2 Nat.one_pos
    simp only [hn] at this
    exact this
  refine ⟨r2, p.ok, p.fo, hnow, vget_mem p.ok.keys m1, h2, fun x hx => ?_, fun q hq => ?_, fun q hq => ?_⟩
  · by_cases e : x.1 = 2
    · right
      have := vget_mem p.ok.keys (n := x.1) (v := x.2) hx
      have h2 : vget R3.vs 2 = some ⟨r2, 0⟩ := h2
      rw [e, h2] at this
      simp only [Option.some.injEq] at this
      rw [this, ← e]
    · left
      have h4 := (p.old x hx (by simp only [hn]; exact e)).1
      rcases mem_vset.1 h4 with ⟨h, _⟩ | ⟨h, hne⟩
      · exact h
      · exact absurd (by rw [ha x h]) hne
  · have := (p.old _ m1 (by simp [hn])).2 q
    simp only at this
    rw [this]; exact hg q hq
  · rw [h3 q hq, chg_one]
    split
    · rfl
    · rw [hg q hq, if_neg (by assumption)]
theorem inMap_one {F : Fo} {r : Nat} {e : Ent} (hg : ∀ q, q < 4096 → getL 2 F r q = if q = 1 then some e else none) (s : Slot) : InMap F r s ↔ s = e.s := by
  constructor
  · rintro ⟨q, hq, y, hy, rfl⟩
    rw [hg q hq] at hy
    split at hy
    · simp only [Option.some.injEq] at hy; rw [hy]
    · cases hy
  · rintro rfl
    exact ⟨1, by omega, e, by rw [hg 1 (by omega), if_pos rfl], rfl⟩
structure A4 (R4 : Ro) (G4 : Fo) (L r2 : Nat) (ys : List Slot) : Prop where
  fo : Ok G4 L
  now : R4.now = 2
  vs : R4.vs = [(2, ⟨r2, 0⟩)]
  none : vget R4.vs 1 = none
  nodes : G4.ids.length = 3
  gone : ys = [⟨1, 0, 0⟩]
  slots : ∀ zs, SlotsIs (HasS G4) zs → zs.length = 1
theorem a4_is {R3 R4 : Ro} {G3 G4 : Fo} {r1 r2 L' : Nat} (a : A3 R3 G3 L' r1 r2) (p : RelIs R3 G3 1 ⟨r1, 1⟩ 0 3 R4 G4 L ys) : A4 R4 G4 L r2 ys := by
  have hall : ∀ x, x ∈ R4.vs → x = (2, ⟨r2, 0⟩) := fun x hx => by
    by_cases e : x.1 = 1
    · have h1 := p.at_n x hx e
      rw [h1] at hx
      have := p.self.1 hx
      rw [a.now] at this
      omega
    · rcases a.all x (p.old x hx e) with h | h
      · rw [h] at e; exact absurd rfl e
      · exact h
  have hm : (2, (⟨r2, 0⟩ : Vr)) ∈ R4.vs := p.kept _ (vget_some a.v2) (show (2 : Nat) ≠ 1 by decide)
  have hvs : R4.vs = [(2, ⟨r2, 0⟩)] := by
    have hnd : R4.vs.Nodup := by
      have hn' : (R4.vs.map (·.1)).Nodup := p.ok.keys
      rw [List.Nodup, List.pairwise_map] at hn'
      exact hn'.imp fun h e => h (by rw [e])
    have := (List.perm_ext_iff_of_nodup hnd (by simp : [(2, (⟨r2, 0⟩ : Vr))].Nodup)).2 fun x => ⟨fun hx => by rw [hall x hx]; simp, fun hx => by simp only [List.mem_singleton] at hx; rw [hx]; exact hm⟩
    exact List.perm_singleton.1 this
  have hg4 : ∀ q, q < 4096 → getL 2 G4 r2 q = if q = 1 then some ⟨⟨2, 0, 0⟩, 0⟩ else none := fun q hq => (p.maps _ hm q).trans (a.g2 q hq)
  have hs4 : ∀ s, HasS G4 s ↔ s = ⟨2, 0, 0⟩ := fun s => by
    rw [slots_iff p.ok.pre p.fo, hvs]
    simp only [List.mem_singleton, exists_eq_left]
    exact inMap_one hg4 s
  have hs3 : ∀ s, HasS G3 s ↔ (s = ⟨1, 0, 0⟩ ∨ s = ⟨2, 0, 0⟩) := fun s => by
    rw [slots_iff a.ok.pre a.fo]
    constructor
    · rintro ⟨x, hx, hm⟩
      rcases a.all x hx with rfl | rfl
      · exact .inl ((inMap_one a.g1 s).1 hm)
      · exact .inr ((inMap_one a.g2 s).1 hm)
    · rintro (rfl | rfl)
      · exact ⟨_, vget_some a.v1, (inMap_one a.g1 _).2 rfl⟩
      · exact ⟨_, vget_some a.v2, (inMap_one a.g2 _).2 rfl⟩
  refine ⟨p.fo, p.now.trans a.now, hvs, by rw [hvs]; rfl, ?_, ?_, fun zs hz => ?_⟩
  · have hr0 : r2 ≠ 0 := fun e => by
      have := hg4 1 (by omega)
      rw [e, getL_zero] at this; cases this
    refine one_page p.fo (r := r2) (p := 1) (by omega) ?_ (fun i hi => ?_) fun q hq => ?_
    · rw [p.ok.held r2 hr0, hvs]; simp [rootsV]
    · have h0 : i ≠ 0 := fun e => by
        subst e
        have := (p.fo.inv.pos 0 (p.fo.root (i := 0) hi)).1
        omega
      rw [p.ok.held i h0, hvs] at hi
      have := List.count_pos_iff.1 hi
      simpa [rootsV] using this
    · rw [hg4 q hq]; split <;> simp_all
  · have hy : SlotsIs (fun s => s = (⟨1, 0, 0⟩ : Slot)) [⟨1, 0, 0⟩] := ⟨fun s => by simp, by simp, by simp⟩
    refine p.gone.uniq hy fun s => ?_
    rw [hs3, hs4]
    constructor
    · rintro ⟨h | h, hn⟩
      · exact h
      · exact absurd h hn
    · rintro rfl; exact ⟨.inl rfl, by decide⟩
  · have hy : SlotsIs (fun s => s = (⟨2, 0, 0⟩ : Slot)) [⟨2, 0, 0⟩] := ⟨fun s => by simp, by simp, by simp⟩
    rw [hz.uniq hy hs4]; rfl
end Go.Proofs.Ytmpbhoijkcanmaa.R
