/- Versions: one that is held stays as it was, whatever is published, held and let go; a slot goes just once, and not as long as a version has it; behind all that only the newest version is there, and its slots. Any calls, whenever the held one is held. No condition. -/
import Derived.Lib.SmallJoins
import Derived.Deep.QuietTactic
import Derived.Deep.RegionHeld3
import Derived.Laws.AppendOwn
import Derived.Deep.DeepCutAuto
import Derived.Deep.CutBlock
import Derived.SizedLaws
import Derived.Test.YtmpbhoijkcanmaaRows
import Derived.WalkKit
import Derived.ProofKit
import Derived.OpenShut
import Derived.Below
import Derived.ChangeOld
import Derived.Test.YtmpbhoijkcanmaaQ14

/- Roots: are there many; has a list a slot of another; slots of a set in their order. -/
namespace Go.Proofs.Ytmpbhoijkcanmaa.R
open Go.ChangeShapes Go.WideShapes Go.ChangeAt Go.RowKit Go.Maps Go.Proofs.Ytmpbhoijkcanmaa.G
set_option linter.unusedVariables false
set_option linter.unusedSimpArgs false
set_option linter.unnecessarySimpa false

structure CallD where
  op : Nat
  odd : Bool
  n : Nat
  a : Option Addr
  len : Nat
  cap : Nat
  ch : List ChD
deriving Inhabited
def encCall (c : CallD) : List Value := [.int .u8 (c.op : Nat), .bool c.odd, .int .u64 (c.n : Nat), .slice c.a c.len c.cap]
structure CallD.ok (W : World) (c : CallD) : Prop where
  op : c.op < 256
  n : c.n < 2 ^ 64
  at_ : ChsAt W c.a c.len c.ch
  chs : ∀ x, x ∈ c.ch → x.ok
  cap : c.a = none → c.cap = 0
  len : c.len ≤ 4398046511104
abbrev CallsAt (w : World) (a : Option Addr) (len : Nat) (l : List CallD) : Prop := RowsAt w 4 encCall a len l
variable {w w' : World}
theorem CallsAt.cells {a : Option Addr} {len : Nat} {l : List CallD} (h : CallsAt w a len l) (i : Nat) (hi : i < len) : ∃ b off x, a = some ⟨b, off, none⟩ ∧ b < w.heap.size ∧ l[i]? = some x ∧ w.cell? ⟨b, off + i * 4, none⟩ = some (.int .u8 (x.op : Nat)) ∧ w.cell? ⟨b, off + i * 4 + 1, none⟩ = some (.bool x.odd) ∧ w.cell? ⟨b, off + i * 4 + 2, none⟩ = some (.int .u64 (x.n : Nat)) ∧ w.cell? ⟨b, off + i * 4 + 3, none⟩ = some (.slice x.a x.len x.cap) := by
  obtain ⟨b, off, x, e, hb, hx, hc⟩ := RowsAt.at h i hi
  exact ⟨b, off, x, e, hb, hx, hc 0 _ rfl, hc 1 _ rfl, hc 2 _ rfl, hc 3 _ rfl⟩
set_option maxRecDepth 100000 in
theorem many_fn (a : Option Addr) (n cap : Nat) (l : List CallD) (hl : CallsAt w a n l) (hn : n ≤ maxLen) (hc : ∀ x, x ∈ l → x.len ≤ 4398046511104) :
    Calls Try.prog 21 #[.slice a n cap] w fun e w' => (∃ B : Bool, e = .returned (.bool B) ∧ (B = false → n ≤ 40 ∧ ∀ x, x ∈ l → x.len ≤ 60)) ∧ w = w' := by
  unfold maxLen at hn
  have HL := Lib.hid (And.intro hl hc)
  have hll := hl.1
  clear hl hc
  go_enter Try.func21, Try.ntmps21
  go_wp2
  go_loopw [4, 3] (fun v u wr => ∃ i k : Nat, i ≤ n ∧ v = .int .i64 i ∧ u = .int .i64 k ∧ k ≤ 60 ∧ wr = w ∧ Hid (∀ x, x ∈ l.take i → x.len ≤ 60)) (fun v _ _ => n - (intOf v).toNat)
  case atStart => exact ⟨0, 0, Nat.zero_le _, rfl, rfl, by omega, rfl, fun x hx => by simp at hx⟩
  case round =>
    obtain ⟨i, k, hi, rfl, rfl, hk, rfl, hB⟩ := hrel
    by_cases hlt : i < n
    · obtain ⟨b, off, x, rfl, hb, hx, c0, c1, c2, c3⟩ := CallsAt.cells HL.out.1 i hlt
      have hxl := HL.out.2 x (List.mem_of_getElem? hx)
      have HX := Lib.hid hx
      obtain ⟨op, odd, xn, xa, xl, xc, ch⟩ := x
      simp only at c3 hxl
      have hw1 : IntKind.i64.wrap ((k : Int) + (xl : Int)) = ((k + xl : Nat) : Int) := by rw [IntWalk.i64_in _ (by omega)]; omega
      clear hx c0 c1 c2 hb
      by_cases hm : 60 < k + xl
      · have hd : decide ((60 : Int) < ((k + xl : Nat) : Int)) = true := by simp only [decide_eq_true_eq]; omega
        clear hm
        generalize k + xl = kx at *
        go_wp2
        go_ret
        exact ⟨⟨true, rfl, fun h => by cases h⟩, rfl⟩
      · have hd : decide ((60 : Int) < ((k + xl : Nat) : Int)) = false := by simp only [decide_eq_false_iff_not]; omega
        have hxl6 : xl ≤ 60 := by omega
        obtain ⟨kx, hkx⟩ : ∃ kx, k + xl = kx := ⟨_, rfl⟩
        rw [hkx] at hw1 hd
        have hkx6 : kx ≤ 60 := by omega
        clear hm hkx
        go_wp2
        go_roundw
        case rel =>
          refine ⟨i + 1, kx, by omega, by go_num, rfl, hkx6, by first | trivial | rfl, fun y hy => ?_⟩
          obtain ⟨hil, hie⟩ := List.getElem?_eq_some_iff.1 HX.out
          rw [List.take_succ_eq_append_getElem hil, hie] at hy
          rcases List.mem_append.1 hy with hy | hy
          · exact hB.out y hy
          · simp at hy; subst hy; exact hxl6
        case measure => simp [intOf]; omega
    · obtain rfl : i = n := by omega
      have HA : Hid (∀ x, x ∈ l → x.len ≤ 60) := fun x hx => hB.out x (by rw [List.take_of_length_le (by omega)]; exact hx)
      clear hB hlt
      by_cases hm : 40 < i
      · have hd : decide ((40 : Int) < i) = true := by simp only [decide_eq_true_eq]; omega
        clear hm
        go_wp2
        go_ret
        exact ⟨⟨true, rfl, fun h => by cases h⟩, rfl⟩
      · have hd : decide ((40 : Int) < i) = false := by simp only [decide_eq_false_iff_not]; omega
        have hi40 : i ≤ 40 := by omega
        clear hm
        go_wp2
        go_ret
        exact ⟨⟨false, rfl, fun _ => ⟨hi40, HA.out⟩⟩, rfl⟩
theorem zeroSB (w : World) : (zeroValue 4).run Try.prog w = .ok (.bool false) w := by kernel_rfl
/-- a set of slots: nothing but some -/
def SetIn (w : World) (bm : Nat) (C : Slot → Prop) : Prop := ∃ M, MapIs Try.prog 31 encS w bm M ∧ ∀ s v, mget M s = some v → v = .bool true ∧ C s
theorem SetIn.look_no {w : World} {bm : Nat} {C : Slot → Prop} (h : SetIn w bm C) {s : Slot} (hs : s.ok) (hn : ¬ C s) : (Instr.lookup 74 (.map (some bm)) (.agg #[.int .i64 s.e, .int .i64 s.c, .int .i64 s.i]) false).run Try.prog w = .ok (.bool false) w := by
  obtain ⟨M, hM, hm⟩ := h
  obtain ⟨k, hk⟩ := keyS s hs
  have := hM.run_look keyedS encS_inj Try.underlying74 (zeroSB w) s hk false
  have e : mget M s = none := by
    cases e : mget M s with
    | none => rfl
    | some v => exact absurd (hm s v e).2 hn
  rw [e] at this
  exact this
theorem mem_take_self {α : Type} {l : List α} {i : Nat} (h : i < l.length) : l[i] ∈ l.take (i + 1) := by
  rw [List.take_succ_eq_append_getElem h]; exact List.mem_append.2 (.inr List.mem_cons_self)
theorem mem_take_more {α : Type} {l : List α} {i : Nat} {x : α} (h : x ∈ l.take i) : x ∈ l.take (i + 1) :=
  (List.take_prefix_take_left (Nat.le_succ i)).subset h
set_option maxRecDepth 100000 in
set_option maxHeartbeats 1000000 in
theorem some_no (xs zs : List Slot) (a b : Option Addr) (n m cap capb : Nat) (w : World) (h : Sl3s w a n xs) (h' : Sl3s w b m zs) (hn : n ≤ maxLen) (hm : m ≤ maxLen) (hxo : ∀ s, s ∈ xs → s.ok) (hzo : ∀ s, s ∈ zs → s.ok) (hnd : xs.Nodup) (hd : ∀ s, s ∈ xs → s ∉ zs) :
    Calls Try.prog 29 #[.slice a n cap, .slice b m capb] w fun e w' => e = .returned (.bool false) ∧ Below w.heap.size w w' := by
  unfold maxLen at hn hm
  have hl := h.1
  have hl' := h'.1
  have H := Lib.hid (And.intro h (And.intro hxo (And.intro hnd hd)))
  have H' := Lib.hid (And.intro h' hzo)
  clear h h' hxo hzo hnd hd
  have hmm := @run_makeMap Try.prog
  have HS0 : Hid (SetIn (w.alloc (.map #[] 0)) w.heap.size (fun s => s ∈ zs.take 0) ∧ Below w.heap.size w (w.alloc (.map #[] 0))) := ⟨⟨[], MapIs.made w, fun s v hv => by simp [mget] at hv⟩, ((Turned.refl [] w).alloc _).below⟩
  go_enter Try.func29, Try.ntmps29
  go_wp2
  generalize w.alloc (.map #[] 0) = w1 at *
  clear hmm
  go_loopw [6] (fun v wr => ∃ i : Nat, i ≤ m ∧ v = .int .i64 i ∧ Hid (SetIn wr w.heap.size (fun s => s ∈ zs.take i) ∧ Below w.heap.size w wr)) (fun v _ => m - (intOf v).toNat)
  case atStart => exact ⟨0, Nat.zero_le _, rfl, HS0.out⟩
  case round =>
    obtain ⟨i, hi, rfl, hB⟩ := hrel
    clear HS0
    by_cases hlt : i < m
    · have hiz : i < zs.length := by rw [hl']; exact hlt
      obtain ⟨pb, poff, rfl, c0, c1, c2⟩ := (H'.out.1.below hB.out.2).at i hiz
      have hzk := H'.out.2 _ (List.getElem_mem hiz)
      obtain ⟨M, hM, hmg⟩ := hB.out.1
      have HKy := Lib.hid (keyS _ hzk)
      have HMap := Lib.hid hM
      have HPut : Hid (∀ w5, MapIs Try.prog 31 encS w5 w.heap.size (mput M zs[i] (.bool true)) → Turned [w.heap.size] wr w5 → SetIn w5 w.heap.size (fun s => s ∈ zs.take (i + 1)) ∧ Below w.heap.size w w5) := fun w5 hm5 ht5 => by
        refine ⟨⟨_, hm5, fun s v hv => ?_⟩, Turned.below_of hB.out.2 ht5 fun c hc => by simp only [List.mem_singleton] at hc; subst hc; exact Nat.le_refl _⟩
        rw [look_put] at hv
        by_cases e : s = zs[i]
        · rw [if_pos e] at hv
          exact ⟨(Option.some.inj hv).symm, e ▸ mem_take_self hiz⟩
        · rw [if_neg e] at hv
          exact ⟨(hmg s v hv).1, mem_take_more (hmg s v hv).2⟩
      generalize zs[i] = s at *
      obtain ⟨se, sc, si⟩ := s
      simp only at c0 c1 c2
      unfold encS at HKy
      simp only at HKy
      obtain ⟨ky, hky⟩ := HKy.out
      have HKK := Lib.hid hky
      clear hzk hM hmg hky HKy hiz
      go_wp2_with (first
        | (at_mapUpdate; refine wp_put _ rfl _ _ _ 74 rfl keyedS encS_inj Try.underlying74 w.heap.size M rfl HMap.out ⟨se, sc, si⟩ rfl _ rfl HKK.out ?_; intro w5 hm5 ht5; have H5 := Lib.hid (HPut.out w5 hm5 ht5); clear hm5 ht5 c0 c1 c2))
      go_roundw
      case rel => exact ⟨i + 1, by omega, by go_num, H5.out⟩
      case measure => simp [intOf]; omega
    · obtain rfl : i = m := by omega
      have HZ : Hid (SetIn wr w.heap.size (fun s => s ∈ zs ∨ s ∈ xs.take 0) ∧ Below w.heap.size w wr) := by
        obtain ⟨M, hM, hmg⟩ := hB.out.1
        refine ⟨⟨M, hM, fun s v hv => ⟨(hmg s v hv).1, .inl (List.mem_of_mem_take (hmg s v hv).2)⟩⟩, hB.out.2⟩
      clear hB hlt
      go_wp2
      go_loopw [7] (fun v wr => ∃ j : Nat, j ≤ n ∧ v = .int .i64 j ∧ Hid (SetIn wr w.heap.size (fun s => s ∈ zs ∨ s ∈ xs.take j) ∧ Below w.heap.size w wr)) (fun v _ => n - (intOf v).toNat)
      case atStart => exact ⟨0, Nat.zero_le _, rfl, HZ.out⟩
      case round =>
        obtain ⟨j, hj, rfl, hB⟩ := hrel
        clear HZ
        by_cases hlt : j < n
        · have hjx : j < xs.length := by rw [hl]; exact hlt
          obtain ⟨pb, poff, rfl, c0, c1, c2⟩ := (H.out.1.below hB.out.2).at j hjx
          have hxk := H.out.2.1 _ (List.getElem_mem hjx)
          have hno : ¬ (xs[j] ∈ zs ∨ xs[j] ∈ xs.take j) := by
            rintro (h1 | h1)
            · exact H.out.2.2.2 _ (List.getElem_mem hjx) h1
            · have hnd := H.out.2.2.1
              rw [← List.take_append_drop j xs, List.nodup_append] at hnd
              refine hnd.2.2 _ h1 xs[j] ?_ rfl
              rw [List.drop_eq_getElem_cons hjx]
              exact List.mem_cons_self
          have hlk := SetIn.look_no hB.out.1 hxk hno
          obtain ⟨M, hM, hmg⟩ := hB.out.1
          have HKy := Lib.hid (keyS _ hxk)
          have HMap := Lib.hid hM
          have HPut : Hid (∀ w5, MapIs Try.prog 31 encS w5 w.heap.size (mput M xs[j] (.bool true)) → Turned [w.heap.size] wr w5 → SetIn w5 w.heap.size (fun s => s ∈ zs ∨ s ∈ xs.take (j + 1)) ∧ Below w.heap.size w w5) := fun w5 hm5 ht5 => by
            refine ⟨⟨_, hm5, fun s v hv => ?_⟩, Turned.below_of hB.out.2 ht5 fun c hc => by simp only [List.mem_singleton] at hc; subst hc; exact Nat.le_refl _⟩
            rw [look_put] at hv
            by_cases e : s = xs[j]
            · rw [if_pos e] at hv
              exact ⟨(Option.some.inj hv).symm, .inr (e ▸ mem_take_self hjx)⟩
            · rw [if_neg e] at hv
              exact ⟨(hmg s v hv).1, (hmg s v hv).2.imp id mem_take_more⟩
          generalize xs[j] = s at *
          obtain ⟨se, sc, si⟩ := s
          simp only at c0 c1 c2 hlk
          unfold encS at HKy
          simp only at HKy
          obtain ⟨ky, hky⟩ := HKy.out
          have HKK := Lib.hid hky
          clear hxk hM hmg hky HKy hjx hno
          go_wp2_with (first
            | (at_mapUpdate; refine wp_put _ rfl _ _ _ 74 rfl keyedS encS_inj Try.underlying74 w.heap.size M rfl HMap.out ⟨se, sc, si⟩ rfl _ rfl HKK.out ?_; intro w5 hm5 ht5; have H5 := Lib.hid (HPut.out w5 hm5 ht5); clear hm5 ht5 c0 c1 c2 hlk))
          go_roundw
          case rel => exact ⟨j + 1, by omega, by go_num, H5.out⟩
          case measure => simp [intOf]; omega
        · obtain rfl : j = n := by omega
          have HE := Lib.hid hB.out.2
          clear hB hlt
          go_wp2
          go_ret
          exact ⟨rfl, HE.out⟩
end Go.Proofs.Ytmpbhoijkcanmaa.R

/- Roots: what versions are held, call by call: the plain law. -/
namespace Go.Proofs.Ytmpbhoijkcanmaa.R
open Go.ChangeShapes Go.WideShapes Go.ChangeAt Go.RowKit Go.Maps Go.Proofs.Ytmpbhoijkcanmaa.G
set_option linter.unusedVariables false
set_option linter.unusedSimpArgs false
set_option linter.unnecessarySimpa false

variable {R R' : Ro} {F G : Fo} {L L' T n : Nat} {v : Vr} {l : List ChD} {ys : List Slot} {f : Nat → Nat}
def hcnt (R : Ro) (n : Nat) : Nat := ((vget R.vs n).map Vr.held).getD 0
structure StQ (R : Ro) (F : Fo) (L T : Nat) (f : Nat → Nat) : Prop where
  ok : RoOk R F T
  fo : Ok F L
  cnts : ∀ n, hcnt R n = f n
theorem vget_iff {vs : List (Nat × Vr)} (hn : (keysV vs).Nodup) {n : Nat} {v : Vr} : vget vs n = some v ↔ (n, v) ∈ vs := ⟨vget_some, vget_mem hn⟩
theorem hcnt_some (h : vget R.vs n = some v) : hcnt R n = v.held := by unfold hcnt; rw [h]; rfl
theorem hcnt_none (h : vget R.vs n = none) : hcnt R n = 0 := by unfold hcnt; rw [h]; rfl
theorem StQ.yes (h : StQ R F L T f) (hf : 0 < f n) : ∃ v, vget R.vs n = some v ∧ v.held = f n := by
  cases e : vget R.vs n with
  | none => have := h.cnts n; rw [hcnt_none e] at this; omega
  | some v => exact ⟨v, rfl, by rw [← h.cnts n, hcnt_some e]⟩
theorem StQ.hold (h : StQ R F L T f) (hv : vget R.vs n = some v) : StQ ⟨vset R.vs n ⟨v.root, v.held + 1⟩, R.now⟩ F L (T + 1) (fun m => if m = n then f m + 1 else f m) := by
  have ho := h.ok.hold hv
  refine ⟨ho, h.fo, fun m => ?_⟩
  by_cases e : m = n
  · subst e
    rw [if_pos rfl, ← h.cnts, hcnt_some hv, hcnt_some (R := ⟨vset R.vs m ⟨v.root, v.held + 1⟩, R.now⟩) (vget_vset h.ok.keys hv)]
  · rw [if_neg e, ← h.cnts]
    have key : vget (vset R.vs n ⟨v.root, v.held + 1⟩) m = vget R.vs m := by
      cases e2 : vget R.vs m with
      | some u => exact (vget_iff ho.keys).2 (mem_vset.2 (.inr ⟨vget_some e2, e⟩))
      | none =>
        cases e3 : vget (vset R.vs n ⟨v.root, v.held + 1⟩) m with
        | none => rfl
        | some u =>
          rcases mem_vset.1 (vget_some e3) with ⟨h1, _⟩ | ⟨h1, _⟩
          · simp only [Prod.mk.injEq] at h1; exact absurd h1.1 e
          · rw [(vget_iff h.ok.keys).2 h1] at e2; cases e2
    unfold hcnt
    simp only [key]
theorem StQ.rel {hd : Nat} (h : StQ R F L T f) (hv : vget R.vs n = some v) (hh : v.held = hd + 1) (r : RelIs R F n v hd T R' G L ys) : StQ R' G L T (fun m => if m = n then f m - 1 else f m) := by
  refine ⟨r.ok, r.fo, fun m => ?_⟩
  by_cases e : m = n
  · subst e
    rw [if_pos rfl, ← h.cnts, hcnt_some hv, hh]
    cases e2 : vget R'.vs m with
    | some u =>
      rw [hcnt_some e2]
      have := r.at_n _ (vget_some e2) rfl
      simp only [Prod.mk.injEq, true_and] at this
      rw [this]; simp
    | none =>
      rw [hcnt_none e2]
      have : ¬ (m = R.now ∨ 0 < hd) := fun hc => by
        have := r.self.2 hc
        rw [(vget_iff r.ok.keys).2 this] at e2; cases e2
      omega
  · rw [if_neg e, ← h.cnts]
    cases e2 : vget R'.vs m with
    | some u => rw [hcnt_some e2, hcnt_some ((vget_iff h.ok.keys).2 (r.old _ (vget_some e2) e))]
    | none =>
      rw [hcnt_none e2]
      cases e3 : vget R.vs m with
      | none => rw [hcnt_none e3]
      | some u =>
        rw [(vget_iff r.ok.keys).2 (r.kept _ (vget_some e3) e)] at e2
        cases e2
theorem StQ.pub (h : StQ R F L T f) (p : PubIs R F v l T R' G L' ys) : StQ R' G L' (T + 1) f := by
  refine ⟨p.ok, p.fo, fun m => ?_⟩
  rw [← h.cnts]
  by_cases e : m = R.now + 1
  · subst e
    obtain ⟨r, hr, _⟩ := p.new
    rw [hcnt_some hr]
    cases e2 : vget R.vs (R.now + 1) with
    | none => rw [hcnt_none e2]
    | some u =>
      have := h.ok.le _ (List.mem_map_of_mem (f := (·.1)) (vget_some e2))
      simp only at this
      omega
  · cases e2 : vget R'.vs m with
    | some u => rw [hcnt_some e2, hcnt_some ((vget_iff h.ok.keys).2 (p.old _ (vget_some e2) e).1)]
    | none =>
      rw [hcnt_none e2]
      cases e3 : vget R.vs m with
      | none => rw [hcnt_none e3]
      | some u =>
        rw [hcnt_some e3]
        by_cases hc : m ≠ R.now ∨ 0 < u.held
        · rw [(vget_iff p.ok.keys).2 (p.kept _ (vget_some e3) hc)] at e2
          cases e2
        · omega
theorem mapL_cong {r r' : Nat} (h : ∀ q, getL 2 G r' q = getL 2 F r q) : mapL G r' = mapL F r := allL_congr 4096 fun q _ => h q
/-- a version that is held stays as it was -/
theorem StQ.pub_keep {u : Vr} (h : StQ R F L T f) (p : PubIs R F v l T R' G L' ys) (hu : vget R.vs n = some u) (hh : 0 < u.held) : vget R'.vs n = some u ∧ mapL G u.root = mapL F u.root := by
  have hm := p.kept _ (vget_some hu) (.inr hh)
  have hn : n ≠ R.now + 1 := fun e => by
    have := h.ok.le _ (List.mem_map_of_mem (f := (·.1)) (vget_some hu))
    simp only at this
    omega
  exact ⟨(vget_iff p.ok.keys).2 hm, mapL_cong (p.old _ hm hn).2⟩
theorem StQ.rel_keep {hd m : Nat} {u : Vr} (h : StQ R F L T f) (r : RelIs R F n v hd T R' G L ys) (hv : vget R.vs n = some v) (hu : vget R.vs m = some u) (hh : m = n → 0 < hd) : ∃ u', vget R'.vs m = some u' ∧ mapL G u'.root = mapL F u.root := by
  by_cases e : m = n
  · subst e
    have hm := r.self.2 (.inr (hh rfl))
    rw [hv] at hu
    obtain rfl := Option.some.inj hu
    exact ⟨_, (vget_iff r.ok.keys).2 hm, mapL_cong (r.maps _ hm)⟩
  · have hm := r.kept _ (vget_some hu) e
    exact ⟨_, (vget_iff r.ok.keys).2 hm, mapL_cong (r.maps _ hm)⟩
/-- nobody holds anything: the newest version alone is there -/
theorem StQ.alone (h : StQ R F L T f) (hf : ∀ n, f n = 0) : ∃ r, R.vs = [(R.now, ⟨r, 0⟩)] ∧ Solo R F L T R.now r (getL 2 F r) := by
  have all : ∀ x, x ∈ R.vs → x.1 = R.now ∧ x.2.held = 0 := fun x hx => by
    have h1 : x.2.held = 0 := by
      have := h.cnts x.1
      rw [hcnt_some ((vget_iff h.ok.keys).2 hx), hf] at this
      exact this
    exact ⟨(h.ok.swept x hx).resolve_right (by omega), h1⟩
  have hk := h.ok.keys
  have hnow := h.ok.now
  obtain ⟨vs, now⟩ := R
  simp only at *
  match vs, all, hk, hnow with
  | [], _, _, hnow => simp [keysV] at hnow
  | [x], all, _, _ =>
    obtain ⟨m, r, hd⟩ := x
    obtain ⟨e1, e2⟩ := all _ List.mem_cons_self
    simp only at e1 e2
    subst e1; subst e2
    exact ⟨r, rfl, h.ok, h.fo, rfl, fun y hy => by simpa using hy, (vget_iff h.ok.keys).2 List.mem_cons_self, fun _ _ => rfl⟩
  | x :: y :: l, all, hk, _ =>
    have e1 := (all x List.mem_cons_self).1
    have e2 := (all y (List.mem_cons_of_mem _ List.mem_cons_self)).1
    unfold keysV at hk
    rw [List.map_cons, List.map_cons, List.nodup_cons] at hk
    exact absurd (by rw [e1, ← e2]; exact List.mem_cons_self) hk.1
/-- the count that is kept in a map -/
def NumW (H : List (Nat × Value)) (T : Nat) : Prop := ∀ n v, mget H n = some v → ∃ m : Nat, m ≤ T ∧ v = .int .i64 m
theorem NumW.get {H : List (Nat × Value)} (h : NumW H T) (n : Nat) : (mget H n).getD (.int .i64 0) = .int .i64 (cnt H n) ∧ cnt H n ≤ T := by
  unfold cnt
  cases e : mget H n with
  | none => exact ⟨rfl, Nat.zero_le _⟩
  | some v =>
    obtain ⟨m, hm, rfl⟩ := h n v e
    exact ⟨by simp [natAt], by simpa [natAt] using hm⟩
theorem NumW.put {H : List (Nat × Value)} (h : NumW H T) (n m T' : Nat) (hT : T ≤ T') (hm : m ≤ T') : NumW (mput H n (.int .i64 m)) T' := fun a v hv => by
  rw [look_put] at hv
  by_cases e : a = n
  · rw [if_pos e] at hv; exact ⟨m, hm, (Option.some.inj hv).symm⟩
  · rw [if_neg e] at hv
    obtain ⟨k, hk, e⟩ := h a v hv
    exact ⟨k, by omega, e⟩
theorem NumW.mono {H : List (Nat × Value)} (h : NumW H T) {T' : Nat} (hT : T ≤ T') : NumW H T' := fun a v hv => by
  obtain ⟨k, hk, e⟩ := h a v hv
  exact ⟨k, by omega, e⟩
theorem cnt_putN (H : List (Nat × Value)) (n m a : Nat) : cnt (mput H n (.int .i64 m)) a = if a = n then m else cnt H a := cnt_put H n m a
/-- what stands at a round: counts, the version that is kept, what it had -/
structure StW (R : Ro) (F : Fo) (L T : Nat) (H : List (Nat × Value)) (kp : Option Nat) (c : List Pr) : Prop where
  q : StQ R F L T (fun n => cnt H n + if kp = some n then 1 else 0)
  num : NumW H T
  lst : ∀ kn, kp = some kn → ∃ v, vget R.vs kn = some v ∧ mapL F v.root = c
variable {H : List (Nat × Value)} {kp : Option Nat} {c : List Pr}
theorem StQ.cong {f' : Nat → Nat} (h : StQ R F L T f) (e : ∀ n, f n = f' n) : StQ R F L T f' := ⟨h.ok, h.fo, fun n => (h.cnts n).trans (e n)⟩
theorem StW.pub (h : StW R F L T H kp c) (p : PubIs R F v l T R' G L' ys) : StW R' G L' (T + 1) H kp c :=
  ⟨h.q.pub p, h.num.mono (by omega), fun kn e => by
    obtain ⟨u, hu, hc⟩ := h.lst kn e
    have hh : 0 < u.held := by
      have := h.q.cnts kn
      rw [hcnt_some hu, if_pos e] at this
      omega
    obtain ⟨k1, k2⟩ := h.q.pub_keep p hu hh
    exact ⟨u, k1, k2.trans hc⟩⟩
theorem vget_vset_root {vs : List (Nat × Vr)} (hn : (keysV vs).Nodup) {n m : Nat} {v u : Vr} {k : Nat} (hv : vget vs n = some v) (hu : vget vs m = some u) : ∃ u', vget (vset vs n ⟨v.root, k⟩) m = some u' ∧ u'.root = u.root := by
  by_cases e : m = n
  · subst e
    rw [hv] at hu
    obtain rfl := Option.some.inj hu
    exact ⟨_, vget_vset hn hv, rfl⟩
  · exact ⟨u, vget_mem (by rw [keys_vset]; exact hn) (mem_vset.2 (.inr ⟨vget_some hu, e⟩)), rfl⟩
theorem StW.hold (h : StW R F L T H kp c) (hv : vget R.vs n = some v) : StW ⟨vset R.vs n ⟨v.root, v.held + 1⟩, R.now⟩ F L (T + 1) (mput H n (.int .i64 ((cnt H n + 1 : Nat) : Int))) kp c :=
  ⟨(h.q.hold hv).cong fun m => by
      rw [cnt_putN]
      by_cases e : m = n
      · rw [if_pos e, if_pos e, e]; omega
      · rw [if_neg e, if_neg e], h.num.put n _ _ (by omega) (by have := (h.num.get n).2; omega), fun kn e => by
    obtain ⟨u, hu, hc⟩ := h.lst kn e
    obtain ⟨u', k1, k2⟩ := vget_vset_root h.q.ok.keys (k := v.held + 1) hv hu
    exact ⟨u', k1, by rw [k2]; exact hc⟩⟩
/-- the kept one is held -/
theorem StW.keep (h : StW R F L T H none c) (hv : vget R.vs n = some v) : StW ⟨vset R.vs n ⟨v.root, v.held + 1⟩, R.now⟩ F L (T + 1) H (some n) (mapL F v.root) :=
  ⟨(h.q.hold hv).cong fun m => by
      by_cases e : m = n
      · rw [if_pos e, e]; simp
      · rw [if_neg e, if_neg (by simp), if_neg (by simp; exact fun h => e h.symm)], h.num.mono (by omega), fun kn e => by
    obtain rfl := Option.some.inj e
    exact ⟨_, vget_vset h.q.ok.keys hv, rfl⟩⟩
theorem StW.rel {hd : Nat} (h : StW R F L T H kp c) (hv : vget R.vs n = some v) (hh : v.held = hd + 1) (hc : 0 < cnt H n) (r : RelIs R F n v hd T R' G L ys) : StW R' G L T (mput H n (.int .i64 ((cnt H n - 1 : Nat) : Int))) kp c :=
  ⟨(h.q.rel hv hh r).cong fun m => by
      rw [cnt_putN]
      by_cases e : m = n
      · rw [if_pos e, if_pos e, e]; omega
      · rw [if_neg e, if_neg e], h.num.put n _ _ (Nat.le_refl _) (by have := (h.num.get n).2; omega), fun kn e => by
    obtain ⟨u, hu, hcc⟩ := h.lst kn e
    obtain ⟨u', k1, k2⟩ := h.q.rel_keep r hv hu (fun e2 => by
      have := h.q.cnts n
      rw [hcnt_some hv, hh, if_pos (by rw [e, e2])] at this
      omega)
    exact ⟨u', k1, k2.trans hcc⟩⟩
/-- what is counted at last -/
theorem StW.last {kn : Nat} (h : StW R F L T H (some kn) c) : StQ R F L T (fun n => cnt (mput H kn (.int .i64 ((cnt H kn + 1 : Nat) : Int))) n) :=
  h.q.cong fun m => by
    rw [cnt_putN]
    by_cases e : m = kn
    · rw [if_pos e, e]; simp
    · rw [if_neg e, if_neg (by simp; exact fun h => e h.symm)]; rfl
theorem StW.start : StW ro0 fo0 0 0 [] none [] := ⟨⟨ro0_ok, fo0_ok, fun n => by
  by_cases e : n = 0
  · subst e; rfl
  · have : vget ro0.vs n = none := by unfold vget ro0; simp; omega
    rw [hcnt_none this]; rfl⟩, fun n v hv => by simp [mget] at hv, fun kn e => by cases e⟩
end Go.Proofs.Ytmpbhoijkcanmaa.R

/- Roots: slots of a set, sorted by insertion. -/
namespace Go.Proofs.Ytmpbhoijkcanmaa.R
open Go.ChangeShapes Go.WideShapes Go.ChangeAt Go.RowKit Go.Maps Go.Proofs.Ytmpbhoijkcanmaa.G Go.Joins
set_option linter.unusedVariables false
set_option linter.unusedSimpArgs false
set_option linter.unnecessarySimpa false

variable {w w' : World}
set_option maxRecDepth 100000 in
theorem before_fn (s t : Slot) (w : World) : Calls Try.prog 52 #[encS s, encS t] w fun e w' => e = .returned (.bool (ltB s t)) ∧ Below w.heap.size w w' := by
  obtain ⟨se, sc, si⟩ := s
  obtain ⟨te, tc, ti⟩ := t
  have HB : Hid (∀ o1 o2, Below w.heap.size w ((w.alloc o1).alloc o2)) := fun o1 o2 => (((Turned.refl [] w).alloc _).alloc _).below
  obtain ⟨R, hR⟩ : ∃ R, ltB ⟨se, sc, si⟩ ⟨te, tc, ti⟩ = R := ⟨_, rfl⟩
  rw [hR]
  have HR := Lib.hid hR
  clear hR
  unfold encS
  simp only
  by_cases h1 : se = te
  · subst h1
    by_cases h2 : sc = tc
    · subst h2
      have h3 : decide (si < ti) = R := by rw [← HR.out]; unfold ltB; simp
      go_enter Try.func52, Try.ntmps52
      go_wp2
      go_ret
      exact ⟨by first | rfl | rw [h3], HB.out _ _⟩
    · have h3 : decide (sc < tc) = R := by rw [← HR.out]; unfold ltB; simp [h2]
      have hq : (sc == tc) = false := by simpa using h2
      clear h2
      go_enter Try.func52, Try.ntmps52
      go_wp2
      go_ret
      exact ⟨by first | rfl | rw [h3], HB.out _ _⟩
  · have h3 : decide (se < te) = R := by rw [← HR.out]; unfold ltB; simp [h1]
    have hq : (se == te) = false := by simpa using h1
    clear h1
    go_enter Try.func52, Try.ntmps52
    go_wp2
    go_ret
    exact ⟨by first | rfl | rw [h3], HB.out _ _⟩
/-- a row of slots, by its block -/
def RowG (w : World) (g cap : Nat) (xs : List Slot) : Prop := ∃ cur : Array Value, w.heap[g]? = some (.cells cur 31 (0, 0)) ∧ cur.size = cap * 3 ∧ xs.length ≤ cap ∧ ∀ i (h : i < xs.length) r, r < 3 → cur[i * 3 + r]? = (encL xs[i])[r]?
variable {g cap base n : Nat} {xs : List Slot}
theorem RowG.of_owns {v : Value} (h : w.ownsRow base 31 3 v n (flat xs)) (hn : 0 < n) : ∃ g cap, v = .slice (some ⟨g, 0, none⟩) n cap ∧ base ≤ g ∧ n ≤ cap ∧ cap ≤ maxLen ∧ RowG w g cap xs ∧ xs.length = n := by
  obtain ⟨h1, h2⟩ := h
  have hl : xs.length = n := by have := flat_len3 xs; omega
  rcases h2 with ⟨rfl, rfl⟩ | ⟨g, cap, cur, rfl, hg, hh, hnc, hc, hs, ht⟩
  · omega
  · refine ⟨g, cap, rfl, hg, hnc, hc, ⟨cur, hh, hs, by omega, fun i hi r hr => ?_⟩, hl⟩
    have h1 : (cur.toList.take (n * 3))[i * 3 + r]? = cur.toList[i * 3 + r]? := by rw [List.getElem?_take, if_pos (by omega)]
    rw [ht, flat_get3 xs i r hi hr] at h1
    rw [h1]; simp
theorem RowG.owns (h : RowG w g cap xs) (hg : base ≤ g) (hc : cap ≤ maxLen) : w.ownsRow base 31 3 (.slice (some ⟨g, 0, none⟩) xs.length cap) xs.length (flat xs) := by
  obtain ⟨cur, h1, h2, h3, h4⟩ := h
  refine ⟨flat_len3 xs, .inr ⟨g, cap, cur, rfl, hg, h1, h3, hc, h2, ?_⟩⟩
  refine List.ext_getElem? fun j => ?_
  rw [List.getElem?_take]
  by_cases hj : j < xs.length * 3
  · rw [if_pos hj]
    have e1 := h4 (j / 3) (by omega) (j % 3) (by omega)
    have e2 := flat_get3 xs (j / 3) (j % 3) (by omega) (by omega)
    rw [show j / 3 * 3 + j % 3 = j by omega] at e1 e2
    rw [e2, ← e1]; simp
  · rw [if_neg hj, List.getElem?_eq_none (by rw [flat_len3]; omega)]
theorem RowG.cells (h : RowG w g cap xs) (i : Nat) (hi : i < xs.length) : w.cell? ⟨g, i * 3, none⟩ = some (.int .i64 xs[i].e) ∧ w.cell? ⟨g, i * 3 + 1, none⟩ = some (.int .i64 xs[i].c) ∧ w.cell? ⟨g, i * 3 + 2, none⟩ = some (.int .i64 xs[i].i) := by
  obtain ⟨cur, h1, h2, h3, h4⟩ := h
  have key : ∀ r, r < 3 → w.cell? ⟨g, i * 3 + r, none⟩ = (encL xs[i])[r]? := fun r hr => by rw [← h4 i hi r hr]; simp [World.cell?, h1]
  exact ⟨key 0 (by omega), key 1 (by omega), key 2 (by omega)⟩
theorem RowG.frozen (h : RowG w g cap xs) (i : Nat) : w.frozen? ⟨g, i, none⟩ = false := by
  obtain ⟨cur, h1, _⟩ := h
  simp [World.frozen?, h1]
theorem RowG.lt (h : RowG w g cap xs) : g < w.heap.size := by
  obtain ⟨cur, h1, _⟩ := h
  exact lt_of_at h1
theorem RowG.turned (h : RowG w g cap xs) {S : List Nat} (t : Turned S w w') (hn : g ∉ S) : RowG w' g cap xs := by
  obtain ⟨cur, h1, h2⟩ := h
  exact ⟨cur, t.at h1 hn, h2⟩
theorem RowG.set (h : RowG w g cap xs) (i : Nat) (hi : i < xs.length) (x : Slot) : RowG (((w.setCell ⟨g, i * 3, none⟩ (.int .i64 x.e)).setCell ⟨g, i * 3 + 1, none⟩ (.int .i64 x.c)).setCell ⟨g, i * 3 + 2, none⟩ (.int .i64 x.i)) g cap (xs.set i x) := by
  obtain ⟨cur, h1, h2, h3, h4⟩ := h
  refine ⟨_, block_setCell (block_setCell (block_setCell h1 _) _) _, by simp [h2], by simpa using h3, fun j hj r hr => ?_⟩
  have hj' : j < xs.length := by simpa using hj
  have h5 := h4 j hj' r hr
  have hsz : j * 3 + r < cur.size := by omega
  simp only [Array.getElem?_setIfInBounds, Array.size_setIfInBounds]
  by_cases e : i = j
  · subst e
    rw [List.getElem_set_self]
    have : r = 0 ∨ r = 1 ∨ r = 2 := by omega
    rcases this with rfl | rfl | rfl
    · rw [if_neg (by omega), if_neg (by omega), if_pos (by omega), if_pos (by omega)]; rfl
    · rw [if_neg (by omega), if_pos (by omega), if_pos (by omega)]; rfl
    · rw [if_pos (by omega), if_pos (by omega)]; rfl
  · rw [List.getElem_set_ne e, if_neg (by omega), if_neg (by omega), if_neg (by omega)]
    exact h5
/-- one put in -/
def insAt (xs : List Slot) (k : Slot) (p : Nat) : List Slot := xs.take p ++ k :: xs.drop p
theorem insAt_len (xs : List Slot) (k : Slot) (p : Nat) : (insAt xs k p).length = xs.length + 1 := by
  unfold insAt
  rw [List.length_append, List.length_cons, List.length_take, List.length_drop]; omega
theorem insAt_end (xs : List Slot) (k : Slot) : insAt xs k xs.length = xs ++ [k] := by unfold insAt; simp
theorem insAt_at {xs : List Slot} {k : Slot} {p : Nat} (h : p ≤ xs.length) (h2 : p < (insAt xs k p).length) : (insAt xs k p)[p] = k := by
  revert h2
  unfold insAt
  intro h2
  rw [List.getElem_append_right (by simp; omega)]
  simp [Nat.min_eq_left h]
theorem insAt_pre {xs : List Slot} {k : Slot} {q : Nat} (h : q < xs.length) (h2 : q < (insAt xs k (q + 1)).length) : (insAt xs k (q + 1))[q] = xs[q] := by
  revert h2
  unfold insAt
  intro h2
  rw [List.getElem_append_left (by simp; omega)]
  simp
theorem insAt_swap {xs : List Slot} {k : Slot} {q : Nat} (h : q < xs.length) : ((insAt xs k (q + 1)).set (q + 1) xs[q]).set q k = insAt xs k q := by
  have e1 : xs.take (q + 1) = xs.take q ++ [xs[q]] := List.take_succ_eq_append_getElem h
  have e2 : xs.drop q = xs[q] :: xs.drop (q + 1) := List.drop_eq_getElem_cons h
  have hl : (xs.take q).length = q := by simp; omega
  unfold insAt
  rw [e1, e2]
  generalize xs.take q = pre at *
  generalize xs.drop (q + 1) = suf at *
  generalize xs[q] = y at *
  subst hl
  simp [List.set_append]
theorem insAt_perm (xs : List Slot) (k : Slot) (p : Nat) : (insAt xs k p).Perm (xs ++ [k]) := by
  unfold insAt
  have h1 : (xs.take p ++ k :: xs.drop p).Perm (k :: (xs.take p ++ xs.drop p)) := List.perm_middle
  rw [List.take_append_drop] at h1
  exact h1.trans (List.perm_append_singleton k xs).symm
theorem leS_trans3 {a b c : Slot} (h1 : leS a b) (h2 : leS b c) : leS a c := by
  unfold leS ltB at *
  simp only [decide_eq_false_iff_not] at *
  omega
theorem lt_le {a b : Slot} (h : ltB a b = true) : leS a b := by
  unfold leS ltB at *
  simp only [decide_eq_false_iff_not, decide_eq_true_eq] at *
  omega
theorem insAt_sorted {xs : List Slot} {k : Slot} {p : Nat} (hp : p ≤ xs.length) (h : xs.Pairwise leS) (h1 : p = 0 ∨ ∃ q, p = q + 1 ∧ ∃ hq : q < xs.length, ltB k xs[q] = false) (h2 : ∀ y, y ∈ xs.drop p → ltB k y = true) : (insAt xs k p).Pairwise leS := by
  have hx := h
  rw [← List.take_append_drop p xs, List.pairwise_append] at hx
  unfold insAt
  rw [List.pairwise_append, List.pairwise_cons]
  refine ⟨hx.1, ⟨fun y hy => lt_le (h2 y hy), hx.2.1⟩, fun a ha b hb => ?_⟩
  have hak : leS a k := by
    rcases h1 with rfl | ⟨q, rfl, hq, h3⟩
    · simp at ha
    · rw [List.take_succ_eq_append_getElem hq] at ha
      rcases List.mem_append.1 ha with ha | ha
      · refine leS_trans3 ?_ h3
        have hx2 := h
        rw [← List.take_append_drop q xs, List.pairwise_append] at hx2
        exact hx2.2.2 a ha xs[q] (by rw [List.drop_eq_getElem_cons hq]; exact List.mem_cons_self)
      · simp at ha; subst ha; exact h3
  rcases List.mem_cons.1 hb with rfl | hb
  · exact hak
  · exact hx.2.2 a ha b hb
def srtPost (w : World) (M : List (Slot × Value)) (e : Ending) (w' : World) : Prop := ∃ v xs, e = .returned v ∧ SlotsIs (fun s => s ∈ M.map (·.1)) xs ∧ w'.ownsRow w.heap.size 31 3 v xs.length (flat xs) ∧ Below w.heap.size w w'
/-- between two rounds of the range -/
def SoR (w wr : World) (b : Nat) (M : List (Slot × Value)) (v : Value) : Prop := ∃ done xs, IterIs Try.prog 31 encS wr w.heap.size b M done ∧ wr.ownsRow (w.heap.size + 1) 31 3 v xs.length (flat xs) ∧ xs.Perm (done.map (·.1)) ∧ xs.Pairwise leS ∧ Below w.heap.size w wr
/-- one put in at a place -/
structure SoI (w wr : World) (b : Nat) (M done : List (Slot × Value)) (g cap : Nat) (xs : List Slot) (k : Slot) (p : Nat) : Prop where
  it : IterIs Try.prog 31 encS wr w.heap.size b M done
  row : RowG wr g cap (insAt xs k p)
  gt : ∀ y, y ∈ xs.drop p → ltB k y = true
  bel : Below w.heap.size w wr
theorem SoI.calm {w wr wr' : World} {b : Nat} {M done : List (Slot × Value)} {g cap : Nat} {xs : List Slot} {k : Slot} {p : Nat} (h : SoI w wr b M done g cap xs k p) (t : Below wr.heap.size wr wr') : SoI w wr' b M done g cap xs k p :=
  ⟨h.it.turned (Turned.of_below t) (by simp) (by simp), h.row.turned (Turned.of_below t) (by simp), h.gt, h.bel.trans (t.mono h.bel.size)⟩
def set3 (w : World) (g i : Nat) (x : Slot) : World := ((w.setCell ⟨g, i * 3, none⟩ (.int .i64 x.e)).setCell ⟨g, i * 3 + 1, none⟩ (.int .i64 x.c)).setCell ⟨g, i * 3 + 2, none⟩ (.int .i64 x.i)
theorem set3_turned (w : World) (g i : Nat) (x : Slot) : Turned [g] w (set3 w g i x) :=
  (((Turned.refl [g] w).setCell (.inl (by simp)) _).setCell (.inl (by simp)) _).setCell (.inl (by simp)) _
theorem SoI.swap {w wr : World} {b : Nat} {M done : List (Slot × Value)} {g cap : Nat} {xs : List Slot} {k y : Slot} {p q : Nat} (h : SoI w wr b M done g cap xs k p) (hpq : p = q + 1) (hq : q < xs.length) (hy : xs[q] = y) (hlt : ltB k y = true) (hg : w.heap.size + 1 ≤ g) (hb : b < w.heap.size) : SoI w (set3 (set3 wr g p y) g q k) b M done g cap xs k q := by
  have t := (set3_turned wr g p y).trans (set3_turned (set3 wr g p y) g q k)
  refine ⟨h.it.turned t (by simp; omega) (by simp; omega), ?_, fun z hz => ?_, Turned.below_of h.bel t (by simp; omega)⟩
  · have hr := h.row
    subst hpq
    have h1 := hr.set (q + 1) (by rw [insAt_len]; omega) y
    have h2 := h1.set q (by rw [List.length_set, insAt_len]; omega) k
    rw [← hy, insAt_swap hq, hy] at h2
    exact h2
  · rw [List.drop_eq_getElem_cons hq, hy] at hz
    rcases List.mem_cons.1 hz with rfl | hz
    · exact hlt
    · exact h.gt z (by rw [hpq]; exact hz)
theorem SoI.cells {w wr : World} {b : Nat} {M done : List (Slot × Value)} {g cap : Nat} {xs : List Slot} {k y : Slot} {p q : Nat} (h : SoI w wr b M done g cap xs k p) (hpq : p = q + 1) (hq : q < xs.length) (hy : xs[q] = y) :
    wr.cell? ⟨g, p * 3, none⟩ = some (.int .i64 k.e) ∧ wr.cell? ⟨g, p * 3 + 1, none⟩ = some (.int .i64 k.c) ∧ wr.cell? ⟨g, p * 3 + 2, none⟩ = some (.int .i64 k.i) ∧ wr.cell? ⟨g, q * 3, none⟩ = some (.int .i64 y.e) ∧ wr.cell? ⟨g, q * 3 + 1, none⟩ = some (.int .i64 y.c) ∧ wr.cell? ⟨g, q * 3 + 2, none⟩ = some (.int .i64 y.i) := by
  have hr := h.row
  have l1 : p < (insAt xs k p).length := by rw [insAt_len]; omega
  have l2 : q < (insAt xs k p).length := by rw [insAt_len]; omega
  obtain ⟨a0, a1, a2⟩ := hr.cells p l1
  obtain ⟨b0, b1, b2⟩ := hr.cells q l2
  rw [insAt_at (by omega) l1] at a0 a1 a2
  have e : (insAt xs k p)[q] = y := by subst hpq; rw [insAt_pre hq, hy]
  rw [e] at b0 b1 b2
  exact ⟨a0, a1, a2, b0, b1, b2⟩
theorem SoI.done {w wr : World} {b : Nat} {M done : List (Slot × Value)} {g cap m : Nat} {xs : List Slot} {k : Slot} {v : Value} {p : Nat} (h : SoI w wr b M (done ++ [(k, v)]) g cap xs k p) (hp : p ≤ xs.length) (hs : xs.Pairwise leS) (hpm : xs.Perm (done.map (·.1))) (h1 : p = 0 ∨ ∃ q, p = q + 1 ∧ ∃ hq : q < xs.length, ltB k xs[q] = false) (hg : w.heap.size + 1 ≤ g) (hc : cap ≤ maxLen) (hm : m = xs.length + 1) : SoR w wr b M (.slice (some ⟨g, 0, none⟩) m cap) := by
  refine ⟨_, insAt xs k p, h.it, ?_, ?_, insAt_sorted hp hs h1 h.gt, h.bel⟩
  · have := h.row.owns hg hc
    rw [insAt_len] at this
    rw [insAt_len, hm]
    exact this
  · rw [List.map_append]
    exact (insAt_perm xs k p).trans (hpm.append_right _)
set_option maxRecDepth 100000 in
set_option maxHeartbeats 4000000 in
theorem sorted_fn (b : Nat) (M : List (Slot × Value)) (w : World) (h : MapIs Try.prog 31 encS w b M) (hM : M.length ≤ 1048576) : Calls Try.prog 33 #[.map (some b)] w (srtPost w M) := by
  obtain ⟨i0, hi, hz0, hz1, hz2⟩ := infoSl
  have HMap := Lib.hid h
  have HND := Lib.hid h.nodup
  have hbl := h.lt
  clear h
  go_enter Try.func33, Try.ntmps33
  go_wp2_with (first
    | (at_range; refine wp_range _ rfl _ 74 rfl Try.underlying74 b M rfl HMap.out ?_; intro w0 hi0 ht0))
  have H0 : Hid (SoR w w0 b M (.slice none 0 0)) := ⟨[], [], hi0, ⟨rfl, .inl ⟨rfl, rfl⟩⟩, by simp, List.Pairwise.nil, ht0.below⟩
  clear hi0 ht0 HMap
  go_frame
  go_loopw [3] (fun v wr => Hid (SoR w wr b M v)) (fun _ wr => leftIn wr w.heap.size b)
  case atStart => exact H0.out
  case round =>
    clear H0
    have HWr : Hid (wr = wr) := rfl
    obtain ⟨wr0, hwr0⟩ : ∃ wr0, wr = wr0 := ⟨_, rfl⟩
    rw [hwr0] at hrel
    rw [hwr0]
    clear hwr0 HWr
    obtain ⟨done, xs, hit, how, hpm, hso, hbl2⟩ := hrel.out
    have HIt := Lib.hid hit
    have HOw := Lib.hid how
    have HPm := Lib.hid (And.intro hpm (And.intro hso hbl2))
    clear hrel hit how hpm hso hbl2
    go_wp2_with (first
      | (at_next; refine wp_next _ rfl _ rfl w.heap.size b M done rfl HIt.out ?_ ?_))
    · intro hp
      have HP := Lib.hid hp
      clear hp
      go_wp2
      go_ret
      have hpm2 := HPm.out.1.trans (HP.out.map _)
      exact ⟨_, xs, rfl, ⟨fun s => hpm2.mem_iff, hpm2.nodup_iff.2 HND.out, HPm.out.2.1⟩, owns_mono HOw.out (by omega), HPm.out.2.2⟩
    · rintro s v w2 hmem hi2 ht2 hsz hen
      have hr : w.heap.size + 1 ≤ w2.heap.size := hi2.lt.1
      have HI2 := Lib.hid hi2
      have HO2 : Hid (∀ o o', ((w2.alloc o).alloc o').ownsRow (w.heap.size + 1) 31 3 u3 xs.length (flat xs)) := fun o o' => owns_turned (owns_turned HOw.out ht2 (by simp)) (((Turned.refl [] w2).alloc o).alloc o') (by simp)
      have HB2 : Hid (Below w.heap.size w w2) := Turned.below_of HPm.out.2.2 ht2 (by simp)
      have hlen : xs.length + 1 ≤ 1048576 := by
        have h1 := hi2.len_le
        have h2 := HPm.out.1.length_eq
        simp at h1 h2
        omega
      have HSz := Lib.hid hr
      have HLt : Hid (leftIn wr0 w.heap.size b = M.length - done.length ∧ done.length < M.length) := ⟨iter_left HIt.out, by have := hi2.len_le; simp at this; omega⟩
      obtain ⟨k, hk⟩ : ∃ k, s = k := ⟨_, rfl⟩
      have HK := Lib.hid hk
      obtain ⟨se, sc, si⟩ := s
      unfold encS at hen
      simp only at hen
      obtain ⟨nx, hnx⟩ : ∃ nx, xs.length = nx := ⟨_, rfl⟩
      rw [hnx] at hlen HO2
      have HNx := Lib.hid hnx
      clear hmem hi2 ht2 hsz hr HOw HIt hk hnx
      go_wp2_with (first
        | (at_builtin; refine wpList_append_own_at _ rfl _ _ 50 rfl (w.heap.size + 1) 31 i0 (.agg #[.int .i64 0, .int .i64 0, .int .i64 0]) 3 24 Try.underlying50 hi hz0 hz1 hz2 rfl (by decide) _ _ _ rfl (HO2.out _ _) ⟨w2.heap.size + 1, 0, none⟩ 1 1 (encL ⟨se, sc, si⟩) rfl rfl ?c1 ?c2 ?c3 ?c4 ?c5 ?_))
      case c1 =>
        intro q u hu
        have := cells_new (w2.alloc (.cells #[.int .i64 se, .int .i64 sc, .int .i64 si] 31)) (encL ⟨se, sc, si⟩) 31 q u hu
        rw [World.size_alloc] at this
        exact this
      case c2 => intro u hu; simp [encL] at hu; rcases hu with rfl | rfl | rfl <;> rfl
      case c3 => unfold maxLen; omega
      case c4 => omega
      case c5 => have := HSz.out; simp; omega
      intro v' w4 hown' hgrow hnil hblk
      have hob := own_above (HO2.out (.cells #[] 0) (.cells #[] 0))
      have ht4 : Turned u3.ownBlock.toList w2 w4 := ((((Turned.refl [] w2).alloc _).alloc _).nil_mono).grown hgrow fun k' hk' => .inl (by rw [hk']; simp)
      have hab : ∀ i, i ∈ u3.ownBlock.toList → w.heap.size + 1 ≤ i := fun i hi => by
        cases e : u3.ownBlock with
        | none => rw [e] at hi; simp at hi
        | some c => rw [e] at hi; simp at hi; have := hob c e; omega
      have hit4 : IterIs Try.prog 31 encS w4 w.heap.size b M (done ++ [(⟨se, sc, si⟩, v)]) := HI2.out.turned ht4 (fun hm => by have := hab _ hm; omega) (fun hm => by have := hab _ hm; omega)
      have hb4 : Below w.heap.size w w4 := Turned.below_of HB2.out ht4 fun i hi => by have := hab _ hi; omega
      have hfl : flat xs ++ encL ⟨se, sc, si⟩ = flat (xs ++ [⟨se, sc, si⟩]) := by unfold flat; simp
      rw [hfl] at hown'
      obtain ⟨g, cap, rfl, hg, hnc, hcap, hrow, _⟩ := RowG.of_owns hown' (Nat.succ_pos _)
      have HG : Hid (w.heap.size + 1 ≤ g ∧ cap ≤ maxLen) := ⟨hg, hcap⟩
      rw [← insAt_end, HNx.out, HK.out] at hrow
      rw [HK.out] at hit4
      have S0 : Hid (SoI w w4 b M (done ++ [(k, v)]) g cap xs k nx) := ⟨hit4, hrow, fun y hy => by rw [List.drop_of_length_le (by rw [HNx.out]; omega)] at hy; simp at hy, hb4⟩
      obtain ⟨m, hm⟩ : ∃ m, nx + 1 = m := ⟨_, rfl⟩
      rw [hm]
      rw [hm] at hnc
      have HM := Lib.hid hm
      have hwm : IntKind.i64.wrap ((m : Int) - 1) = (nx : Nat) := by rw [IntWalk.i64_in _ (by omega)]; omega
      have hm1 : m ≤ 1048576 := by omega
      have HEx : Hid (∀ wr' p, p ≤ nx → SoI w wr' b M (done ++ [(k, v)]) g cap xs k p → (p = 0 ∨ ∃ q, p = q + 1 ∧ ∃ hq : q < xs.length, ltB k xs[q] = false) → SoR w wr' b M (.slice (some ⟨g, 0, none⟩) m cap) ∧ leftIn wr' w.heap.size b < leftIn wr0 w.heap.size b) := fun wr' p hp h h1 => ⟨h.done (by rw [HNx.out]; exact hp) HPm.out.2.1 HPm.out.1 h1 HG.out.1 HG.out.2 (by rw [HNx.out]; exact HM.out.symm), by
        rw [iter_left h.it, HLt.out.1]
        have := HLt.out.2
        simp; omega⟩
      clear hown' hgrow hnil hblk hob ht4 hab hit4 hb4 hfl hg hcap hrow hm HO2 HI2 HB2 HLt
      go_wp2
      go_loopw [5] (fun pv wr => ∃ p : Nat, p ≤ nx ∧ pv = .int .i64 p ∧ Hid (SoI w wr b M (done ++ [(k, v)]) g cap xs k p)) (fun pv _ => (intOf pv).toNat)
      case atStart => exact ⟨nx, Nat.le_refl _, rfl, S0.out⟩
      case round =>
        obtain ⟨p, hp, rfl, hB⟩ := hrel
        clear S0
        by_cases h0 : p = 0
        · subst h0
          have HE : Hid (∀ n, SoR w (wr.drewN n) b M (.slice (some ⟨g, 0, none⟩) m cap) ∧ leftIn (wr.drewN n) w.heap.size b < leftIn wr0 w.heap.size b) := fun n => HEx.out _ 0 hp (hB.out.calm ((Turned.refl [] wr).drewN n).below) (.inl rfl)
          clear HEx hB
          rw [show ((0 : Nat) : Int) = 0 from rfl]
          go_upto_region 7 with fail
          go_quiet (fail)
          go_wp2
          go_roundw
          all_goals first | exact (HE.out _).1 | exact (HE.out _).2
        · obtain ⟨q, hpq⟩ : ∃ q, p = q + 1 := ⟨p - 1, by omega⟩
          have hqx : q < xs.length := by rw [HNx.out]; omega
          obtain ⟨y, hy⟩ : ∃ y, xs[q] = y := ⟨_, rfl⟩
          have hp0 : decide ((0 : Int) < (p : Int)) = true := by simp; omega
          have hp1 : decide (0 < p) = true := by simp; omega
          have hwp : IntKind.i64.wrap ((p : Int) - 1) = (q : Nat) := by rw [IntWalk.i64_in _ (by omega)]; omega
          have hpm : p < m := by have := HM.out; omega
          have hqm : q < m := by omega
          have hqp : q < p := by omega
          obtain ⟨R, hR⟩ : ∃ R, ltB k y = R := ⟨_, rfl⟩
          have hcl : ∀ wv, Below wr.heap.size wr wv → SoI w wv b M (done ++ [(k, v)]) g cap xs k p := fun wv hb => hB.out.calm hb
          have HC : Hid (∀ wv, Below wr.heap.size wr wv → wv.cell? ⟨g, p * 3, none⟩ = some (.int .i64 k.e) ∧ wv.cell? ⟨g, p * 3 + 1, none⟩ = some (.int .i64 k.c) ∧ wv.cell? ⟨g, p * 3 + 2, none⟩ = some (.int .i64 k.i) ∧ wv.cell? ⟨g, q * 3, none⟩ = some (.int .i64 y.e) ∧ wv.cell? ⟨g, q * 3 + 1, none⟩ = some (.int .i64 y.c) ∧ wv.cell? ⟨g, q * 3 + 2, none⟩ = some (.int .i64 y.i)) := fun wv hb => (hcl wv hb).cells hpq hqx hy
          have HFz : Hid (∀ wv, Below wr.heap.size wr wv → ∀ j, wv.frozen? ⟨g, j, none⟩ = false) := fun wv hb j => (hcl wv hb).row.frozen j
          have CB : Hid (∀ ww, Calls Try.prog 52 #[.agg #[.int .i64 k.e, .int .i64 k.c, .int .i64 k.i], .agg #[.int .i64 y.e, .int .i64 y.c, .int .i64 y.i]] ww fun e w' => e = .returned (.bool R) ∧ Below ww.heap.size ww w') := fun ww => by
            have := before_fn k y ww
            rw [hR] at this
            exact this
          have HSw : Hid (R = true → ∀ wv, Below wr.heap.size wr wv → SoI w (set3 (set3 wv g p y) g q k) b M (done ++ [(k, v)]) g cap xs k q) := fun hR' wv hb => (hcl wv hb).swap hpq hqx hy (by rw [hR, hR']) HG.out.1 hbl
          have HE : Hid (R = false → ∀ wv, Below wr.heap.size wr wv → SoR w wv b M (.slice (some ⟨g, 0, none⟩) m cap) ∧ leftIn wv w.heap.size b < leftIn wr0 w.heap.size b) := fun hR' wv hb => HEx.out wv p hp (hcl wv hb) (.inr ⟨q, hpq, hqx, by rw [hy, hR, hR']⟩)
          have HSet : Hid (∀ wv, Below wr.heap.size wr wv → (∃ z0 z1 z2, (set3 wv g p y).cell? ⟨g, q * 3, none⟩ = some z0 ∧ (set3 wv g p y).cell? ⟨g, q * 3 + 1, none⟩ = some z1 ∧ (set3 wv g p y).cell? ⟨g, q * 3 + 2, none⟩ = some z2) ∧ ∀ j, (set3 wv g p y).frozen? ⟨g, j, none⟩ = false) := fun wv hb => by
            have hrw : RowG (set3 wv g p y) g cap ((insAt xs k p).set p y) := (hcl wv hb).row.set p (by rw [insAt_len]; omega) y
            obtain ⟨z0, z1, z2⟩ := hrw.cells q (by rw [List.length_set, insAt_len]; omega)
            exact ⟨⟨_, _, _, z0, z1, z2⟩, hrw.frozen⟩
          obtain ⟨ke, kc, ki⟩ := k
          obtain ⟨ye, yc, yi⟩ := y
          simp only at HC CB HSw
          obtain ⟨c0, c1, c2, d0, d1, d2⟩ := HC.out wr (Below.refl _ wr)
          clear HEx hB hcl hqx hy hR h0 hpq
          go_upto_region 7 with fail
          go_region_held3 (fun w' => w'.cell? ⟨g, p * 3, none⟩ = some (.int .i64 ke) ∧ w'.cell? ⟨g, p * 3 + 1, none⟩ = some (.int .i64 kc) ∧ w'.cell? ⟨g, p * 3 + 2, none⟩ = some (.int .i64 ki) ∧ w'.cell? ⟨g, q * 3, none⟩ = some (.int .i64 ye) ∧ w'.cell? ⟨g, q * 3 + 1, none⟩ = some (.int .i64 yc) ∧ w'.cell? ⟨g, q * 3 + 2, none⟩ = some (.int .i64 yi)) (first | exact K6.out | go_keep)
            (first
              | (go_at_call 52; ((with_reducible refine (CB.out _).mono ?_); rintro e w5 ⟨rfl, hb5⟩; have HB5 := Lib.hid (((Turned.refl [] wr).drew.below).trans (hb5.mono (Nat.le_refl _))); have K6 := Lib.hid (HC.out _ HB5.out); clear hb5)))
          all_goals
            cases R
            · obtain ⟨hE1, hE2⟩ := HE.out rfl _ HB5.out
              have HE1 := Lib.hid hE1
              have HE2 := Lib.hid hE2
              clear hE1 hE2 HE HSw HC CB K6 HB5 HFz
              go_wp2
              go_roundw
              all_goals first | exact HE1.out | exact HE2.out
            · have HS2 := Lib.hid (HSw.out rfl)
              clear HE HSw c0 c1 c2 d0 d1 d2
              obtain ⟨e0, e1, e2, f0, f1, f2⟩ := K6.out
              go_upto_region 10 with fail
              have hb6 : Below wr.heap.size wr (w5.alloc (.cells #[.int .i64 ke, .int .i64 kc, .int .i64 ki] 31)) := HB5.out.alloc HB5.out.size _
              have hnew := fun j u hu => cells_new w5 [.int .i64 ke, .int .i64 kc, .int .i64 ki] 31 j u hu
              have x0 := hnew 0 _ rfl
              have x1 := hnew 1 _ rfl
              have x2 := hnew 2 _ rfl
              rw [addr_add_none, Nat.zero_add] at x0 x1 x2
              have hgx : g ≠ w5.heap.size := fun e => by
                have h1 := (HS2.out _ HB5.out).row.lt
                have h2 := (((set3_turned w5 g p ⟨ye, yc, yi⟩).trans (set3_turned _ g q ⟨ke, kc, ki⟩))).size
                have h3 : g < w5.heap.size := lt_of_cell e0
                omega
              have hS6 := HS2.out _ hb6
              clear hnew e0 e1 e2 f0 f1 f2
              obtain ⟨e0, e1, e2, f0, f1, f2⟩ := HC.out _ hb6
              have fz := HFz.out _ hb6
              generalize w5.alloc (.cells #[.int .i64 ke, .int .i64 kc, .int .i64 ki] 31) = w6 at *
              generalize w5.heap.size = xb at *
              have y0 := x0
              have y1 := x1
              have y2 := x2
              have HS6 := Lib.hid hS6
              have HX7 : Hid (∀ c v, w6.cell? ⟨xb, c, none⟩ = some v → (set3 w6 g p ⟨ye, yc, yi⟩).cell? ⟨xb, c, none⟩ = some v) := fun c v hv => (set3_turned w6 g p ⟨ye, yc, yi⟩).cell hv (by simpa using hgx.symm)
              have H7 := Lib.hid (HSet.out w6 hb6)
              clear hb6 hS6 HS2 HC HFz K6 CB HSet
              clear x0 x1 x2
              have x0 := HX7.out 0 _ y0
              have x1 := HX7.out 1 _ y1
              have x2 := HX7.out 2 _ y2
              clear HX7 y0 y1 y2
              go_upto_region 11 with fail
              have e7 : ((w6.setCell ⟨g, p * 3, none⟩ (.int .i64 ye)).setCell ⟨g, p * 3 + 1, none⟩ (.int .i64 yc)).setCell ⟨g, p * 3 + 2, none⟩ (.int .i64 yi) = set3 w6 g p ⟨ye, yc, yi⟩ := rfl
              rw [e7]
              clear e7 e0 e1 e2 f0 f1 f2 fz
              generalize set3 w6 g p ⟨ye, yc, yi⟩ = w7 at *
              obtain ⟨⟨z0, z1, z2, e0, e1, e2⟩, fz⟩ := H7.out
              unfold set3 at HS6
              simp only at HS6
              go_wp2
              go_roundw
              all_goals first | exact ⟨q, by omega, by go_num, HS6.out⟩ | (simp [intOf]; omega)
end Go.Proofs.Ytmpbhoijkcanmaa.R

/- Roots: versions, a list that is kept, and a map of counts beside them. -/
namespace Go.Proofs.Ytmpbhoijkcanmaa.R
open Go.ChangeShapes Go.WideShapes Go.ChangeAt Go.RowKit Go.Maps Go.Proofs.Ytmpbhoijkcanmaa.G
set_option linter.unusedVariables false
set_option linter.unusedSimpArgs false
set_option linter.unnecessarySimpa false

variable {w ww w' : World} {rb hb L L' T n : Nat} {R R' : Ro} {F G : Fo} {K K1 K2 Kx : List (Nat × Obj)} {H H' : List (Nat × Value)}
theorem owns_le2 {w : World} {base n sz : Nat} {t : TypeId} {v : Value} {xs : List Value} (h : w.ownsRow base t sz v n xs) : n ≤ maxLen := by
  rcases h.2 with ⟨_, rfl⟩ | ⟨g, cap, cur, _, _, _, h1, h2, _⟩
  · decide
  · omega
/-- a block beside it changes -/
theorem RtM.upd {b : Nat} {o o' : Obj} (h : RtM w ww rb L R F (K1 ++ (b, o) :: K2)) (hb : w.heap.size ≤ b) (t : Turned [b] ww w') (ho : w'.heap[b]? = some o') : RtM w w' rb L R F (K1 ++ (b, o') :: K2) := by
  have hat := fun x hx => RtM.at (x := x) h hx
  have hnd := h.nodup
  have hbel := h.bel
  obtain ⟨f, mb, mo, blk, h⟩ := h
  obtain ⟨Ka, c1, c2, c3⟩ := h.cv
  have ek : keysK (K1 ++ (b, o) :: K2) = keysK K1 ++ b :: keysK K2 := by unfold keysK; simp
  have ek' : keysK (K1 ++ (b, o') :: K2) = keysK K1 ++ b :: keysK K2 := by unfold keysK; simp
  rw [ek] at hnd c3
  have hnd2 := hnd
  rw [List.nodup_append, List.nodup_cons] at hnd2
  refine c1.make w' _ (Turned.below_of hbel t (by simpa using hb)) (fun x hx => t.at (c2 x hx) ?_) (fun x hx => ?_) (by rw [ek']; exact hnd) fun c hc hm => ?_
  · have hm : x.1 ∈ keysK Ka := mem_keysK.2 ⟨_, hx⟩
    have := c3 _ hm
    simp only [List.mem_append, List.mem_cons, not_or] at this
    simpa using this.2.1
  · rcases List.mem_append.1 hx with hx | hx
    · refine t.at (hat x (List.mem_append.2 (.inl hx))) ?_
      have h1 := hnd2.2.2 x.1 (mem_keysK.2 ⟨_, hx⟩) b List.mem_cons_self
      simpa using h1
    · rcases List.mem_cons.1 hx with rfl | hx
      · exact ho
      · refine t.at (hat x (List.mem_append.2 (.inr (List.mem_cons_of_mem _ hx)))) ?_
        have h1 := hnd2.2.1.1
        simp only [List.mem_singleton]
        exact fun e => h1 (e ▸ mem_keysK.2 ⟨_, hx⟩)
  · rw [ek'] at hc
    exact c3 c hm hc
/-- versions, blocks beside them, a map of counts -/
def StK (w wr : World) (rb hb L : Nat) (R : Ro) (F : Fo) (K1 : List (Nat × Obj)) (H : List (Nat × Value)) : Prop :=
  ∃ ho, w.heap.size ≤ hb ∧ RtM w wr rb L R F (K1 ++ [(hb, ho)]) ∧ ∀ ww : World, ww.heap[hb]? = some ho → MapIs Try.prog 61 encU ww hb H
theorem StK.map (h : StK w ww rb hb L R F K1 H) : MapIs Try.prog 61 encU ww hb H := by
  obtain ⟨ho, _, h1, h2⟩ := h
  exact h2 ww (h1.at (x := (hb, ho)) (by simp))
theorem StK.calm (h : StK w ww rb hb L R F K1 H) (b : Below ww.heap.size ww w') : StK w w' rb hb L R F K1 H := by
  obtain ⟨ho, h0, h1, h2⟩ := h
  exact ⟨ho, h0, h1.calm b, h2⟩
theorem StK.bel (h : StK w ww rb hb L R F K1 H) : Below w.heap.size w ww := by
  obtain ⟨ho, _, h1, _⟩ := h
  exact h1.bel
theorem StK.at (h : StK w ww rb hb L R F K1 H) {x : Nat × Obj} (hx : x ∈ K1) : ww.heap[x.1]? = some x.2 := by
  obtain ⟨ho, _, h1, _⟩ := h
  exact h1.at (List.mem_append.2 (.inl hx))
theorem StK.call (h : StK w ww rb hb L R F K1 H) : ∃ K, RtM w ww rb L R F K ∧ ∀ w' L' R' G, RtM w w' rb L' R' G K → StK w w' rb hb L' R' G K1 H := by
  obtain ⟨ho, h0, h1, h2⟩ := h
  exact ⟨_, h1, fun w' L' R' G h => ⟨ho, h0, h, h2⟩⟩
theorem StK.put (h : StK w ww rb hb L R F K1 H) (t : Turned [hb] ww w') (m : MapIs Try.prog 61 encU w' hb H') : StK w w' rb hb L R F K1 H' := by
  obtain ⟨ho, h0, h1, h2⟩ := h
  obtain ⟨o', ho'⟩ := at_some m.lt
  exact ⟨o', h0, h1.upd h0 t ho', fun ww hw => m.kept (by rw [hw, ho'])⟩
theorem StK.sub (h : StK w ww rb hb L R F K1 H) (hs : ∀ x, x ∈ K2 → x ∈ K1) (hn : (keysK K2).Nodup) : StK w ww rb hb L R F K2 H := by
  obtain ⟨ho, h0, h1, h2⟩ := h
  refine ⟨ho, h0, h1.sub (fun x hx => ?_) ?_, h2⟩
  · rcases List.mem_append.1 hx with hx | hx
    · exact List.mem_append.2 (.inl (hs x hx))
    · exact List.mem_append.2 (.inr hx)
  · have hnd := h1.nodup
    have e1 : keysK (K1 ++ [(hb, ho)]) = keysK K1 ++ [hb] := by unfold keysK; simp
    have e2 : keysK (K2 ++ [(hb, ho)]) = keysK K2 ++ [hb] := by unfold keysK; simp
    rw [e1, List.nodup_append] at hnd
    rw [e2, List.nodup_append]
    refine ⟨hn, hnd.2.1, fun x hx y hy => hnd.2.2 x ?_ y hy⟩
    obtain ⟨o, ho⟩ := mem_keysK.1 hx
    exact mem_keysK.2 ⟨o, hs _ ho⟩
theorem StK.nodup (h : StK w ww rb hb L R F K1 H) : (keysK K1).Nodup := by
  obtain ⟨ho, _, h1, _⟩ := h
  have hnd := h1.nodup
  have e1 : keysK (K1 ++ [(hb, ho)]) = keysK K1 ++ [hb] := by unfold keysK; simp
  rw [e1, List.nodup_append] at hnd
  exact hnd.1
theorem StK.row (h : StK w ww rb hb L R F K1 H) (b : Below ww.heap.size ww w') {n sz : Nat} {t : TypeId} {v : Value} {xs : List Value} (r : w'.ownsRow ww.heap.size t sz v n xs) : ∃ K2, StK w w' rb hb L R F (K2 ++ K1) H ∧ RowO K2 w.heap.size t sz v n xs := by
  obtain ⟨ho, h0, h1, h2⟩ := h
  obtain ⟨K2, h3, h4⟩ := h1.row b r
  exact ⟨K2, ⟨ho, h0, by rw [List.append_assoc]; exact h3, h2⟩, h4⟩
theorem RtM.put (h : RtM w ww rb L R F Kx) (o : Obj) : RtM w (ww.alloc o) rb L R F ((ww.heap.size, o) :: Kx) := by
  obtain ⟨f, mb, mo, blk, h⟩ := h
  exact ⟨f, mb, mo, blk, h.putK o⟩
theorem StK.alloc (h : StK w ww rb hb L R F K1 H) (o : Obj) : StK w (ww.alloc o) rb hb L R F ((ww.heap.size, o) :: K1) H := by
  obtain ⟨ho, h0, h1, h2⟩ := h
  exact ⟨ho, h0, h1.put o, h2⟩
/-- the beginning -/
theorem StK.start {w1 : World} (h : RtM w w1 rb L R F []) : StK w (w1.alloc (.map #[] 0)) rb w1.heap.size L R F [] [] := by
  have hm : MapIs Try.prog 61 encU (w1.alloc (.map #[] 0)) w1.heap.size ([] : List (Nat × Value)) := MapIs.made w1
  have hat : (w1.alloc (.map #[] 0)).heap[w1.heap.size]? = some (.map #[] 0) := World.alloc_heap_new w1 _
  exact ⟨_, h.bel.size, h.put _, fun ww hw => hm.kept (by rw [hw, hat])⟩
/-- changes that are handed in are copied, in a drawn region -/
theorem step_append_chs {w : World} {ops : Array Oper} {o : Oper} {a : Act} {KK : Act → World → Prop} {Q : Exit → Act → World → Prop} {E : Prop} (hgd : o.guard = none) (s x : Operand)
    (ho : o.op = .call { callee := .builtin .append, args := #[s, x], argTypes := #[67, 67] }) (base : Nat) (v : Value) (hs : a.eval s = v) (hown : w.ownsRow base 83 6 v 0 [])
    (ad : Option Addr) (len cap : Nat) (l : List ChD) (hx : a.eval x = .slice ad len cap) (hl : ChsAt w ad len l) (hc : ad = none → cap = 0) (hn : len ≤ 1048576) (hbase : base ≤ w.heap.size)
    (h : ∀ v' w', w'.ownsRow base 83 6 v' len (l.flatMap encCh) → w.grownBy w' v.ownBlock → KK (a.put o.dst v') w') : if Region.wanted o (yielded ops a.tmps) = true then Oper.wp Try.prog o a w KK Q else E := by
  obtain ⟨i0, hi, hz0, hz1, hz2⟩ := info_parts infoChg
  cases ad with
  | none =>
    have hl0 : len = 0 := by
      rcases hl.2 with h0 | ⟨b, off, e, _⟩
      · exact h0
      · cases e
    subst hl0
    obtain rfl := hc rfl
    obtain rfl : l = [] := List.length_eq_zero_iff.1 hl.1
    have hw : Region.wanted o (yielded ops a.tmps) = true := by simp [Region.wanted, hgd]
    rw [if_pos hw]
    have hrun := run_append_owned_none (P := Try.prog) (w := w) base 67 o.type 83 i0 6 Try.underlying67 hi v 0 [] hown
    unfold Oper.wp execOp
    simp only [ho, resolve, invoke, builtin, Sem.run_bind, Sem.run_pure, Result.andThen_ok, List.map_toArray, List.map_cons, List.map_nil, hs, hx, hrun]
    exact h v w hown ⟨rfl, rfl, rfl, Nat.le_refl _, fun k _ _ => rfl⟩
  | some p =>
    refine step_append_at hgd s x 67 ho base 83 i0 _ 6 48 Try.underlying67 hi hz0 hz1 hz2 rfl (by decide) v 0 [] hs hown p len cap (l.flatMap encCh) hx (by rw [flatC_len, hl.1]) (chs_cells hl) (encCh_one l) (by unfold maxLen; omega) (by omega) hbase (fun v' w' h1 h2 _ => h v' w' (by rw [Nat.zero_add, List.nil_append] at h1; exact h1) h2)
theorem le_allocd3 (w : World) (o : Obj) : w.heap.size ≤ (w.alloc o).drew.heap.size := by simp
theorem below_app3 {w w4 : World} {o : Obj} (h : (w.alloc o).drew.grownBy w4 (some w.heap.size)) : Below w.heap.size w w4 :=
  Turned.below (((((Turned.refl [] w).alloc o).drew).grown h) fun k e => .inr (by simp only [Option.some.injEq] at e; omega))
theorem owns_emptyc (w : World) : (w.alloc (.cells #[] 83)).drew.ownsRow w.heap.size 83 6 (.slice (some ⟨w.heap.size, 0, none⟩) 0 0) 0 [] := owns_empty w 83 6
theorem stk_now (h : StK w ww rb hb L R F K1 H) : Calls Try.prog 24 #[.pointer (some ⟨rb, 0, none⟩)] ww fun e w' => e = .returned (.int .u64 (R.now : Nat)) ∧ ww = w' := by
  obtain ⟨K, ⟨f, mb, mo, blk, h1⟩, _⟩ := h.call
  exact rnow_fn h1
theorem stk_all (h : StK w ww rb hb L R F K1 H) (hR : RoOk R F T) (hL : L ≤ 2 ^ 34) (hn : n < 2 ^ 64) {v : Vr} (hv : vget R.vs n = some v) : Calls Try.prog 25 #[.pointer (some ⟨rb, 0, none⟩), .int .u64 (n : Nat)] ww (rallPost ww (mapL F v.root)) := by
  obtain ⟨K, ⟨f, mb, mo, blk, h1⟩, _⟩ := h.call
  exact rall_yes h1 hL hn hv (hR.root hv)
theorem stk_hold (h : StK w ww rb hb L R F K1 H) (hn : n < 2 ^ 64) {v : Vr} (hv : vget R.vs n = some v) (hs : v.held ≤ 2 ^ 40) : Calls Try.prog 26 #[.pointer (some ⟨rb, 0, none⟩), .int .u64 (n : Nat)] ww fun e w' => e = .returned (.int .i64 0) ∧ StK w w' rb hb L ⟨vset R.vs n ⟨v.root, v.held + 1⟩, R.now⟩ F K1 H := by
  obtain ⟨K, ⟨f, mb, mo, blk, h1⟩, h2⟩ := h.call
  exact (rhold_yes h1 hn hv hs).mono fun e w' ⟨e1, e2⟩ => ⟨e1, h2 _ _ _ _ ⟨f, mb, mo, blk, e2⟩⟩
theorem stk_hold_no (h : StK w ww rb hb L R F K1 H) (hn : n < 2 ^ 64) (hv : vget R.vs n = none) : Calls Try.prog 26 #[.pointer (some ⟨rb, 0, none⟩), .int .u64 (n : Nat)] ww fun e w' => e = .returned (.int .i64 3) ∧ ww = w' := by
  obtain ⟨K, ⟨f, mb, mo, blk, h1⟩, h2⟩ := h.call
  exact rhold_no h1 hn hv
/-- what went, as a call tells it: each once, none that is there -/
def GoneP (w w' : World) (rb hb L : Nat) (R' : Ro) (G : Fo) (K1 : List (Nat × Obj)) (H : List (Nat × Value)) (a : Option Addr) (len : Nat) (ys : List Slot) : Prop :=
  StK w w' rb hb L R' G K1 H ∧ Sl3s w' a len ys ∧ len ≤ maxLen ∧ ys.Nodup ∧ ∀ s, s ∈ ys → s.ok ∧ ¬ HasS G s
theorem stk_rel {hd : Nat} (h : StK w ww rb hb L R F K1 H) (hR : RoOk R F T) (hF : Ok F L) (hL : L ≤ 2 ^ 34) (hn : n < 2 ^ 64) {v : Vr} (hv : vget R.vs n = some v) (hh : v.held = hd + 1) (hs : v.held ≤ 2 ^ 40) :
    Calls Try.prog 28 #[.pointer (some ⟨rb, 0, none⟩), .int .u64 (n : Nat)] ww fun e w' => ∃ (a : Option Addr) (len cap : Nat) (R' : Ro) (G : Fo) (ys : List Slot), e = .returned (.tuple #[.slice a len cap, .int .i64 0]) ∧ RelIs R F n v hd T R' G L ys ∧ GoneP w w' rb hb L R' G K1 H a len ys := by
  obtain ⟨K, ⟨f, mb, mo, blk, h1⟩, h2⟩ := h.call
  refine (rrel_yes h1 hL hn hR.keys hv hh hs (hR.root hv)).mono fun e w' ⟨a, len, cap, R', G, ys, mo', e1, e2, e3, e4, e5⟩ => ?_
  have hr := rel_is hR hF hv hh e3
  obtain ⟨a2, cap2, e6, h6, _⟩ := sl3s_of_owns e4
  simp only [Value.slice.injEq] at e6
  obtain ⟨rfl, -, rfl⟩ := e6
  exact ⟨a, len, cap, R', G, ys, e2, hr, h2 _ _ _ _ ⟨f, mb, mo', blk, e5⟩, h6, owns_le2 e4, hr.gone.nodup, fun s hs => ⟨HasS.ok hF ((hr.gone.mem s).1 hs).1, ((hr.gone.mem s).1 hs).2⟩⟩
/-- changes of one's own, made since -/
theorem stk_pub {w1 : World} {l : List ChD} (h : StK w w1 rb hb L R F K1 H) (hR : RoOk R F T) (hT : T ≤ 2 ^ 34) (hL : L ≤ 2 ^ 33) {a : Option Addr} {len cap : Nat} (b : Below w1.heap.size w1 ww) (hrow : ww.ownsRow w1.heap.size 83 6 (.slice a len cap) len (l.flatMap encCh))
    (hok : ∀ x, x ∈ l → x.ok) (hn : len ≤ 1048576) (hval : ∀ x, x ∈ l → x.val) {v : Vr} (hv : vget R.vs R.now = some v) :
    Calls Try.prog 27 #[.pointer (some ⟨rb, 0, none⟩), .int .u64 (R.now : Nat), .slice a len cap] ww fun e w' => ∃ (a' : Option Addr) (len' cap' : Nat) (R' : Ro) (G : Fo) (ys : List Slot), e = .returned (.tuple #[.int .u64 ((R.now + 1 : Nat) : Int), .slice a' len' cap', .int .i64 0]) ∧ PubIs R F v l T R' G (L + 1 + 3 * l.length) ys ∧ GoneP w w' rb hb (L + 1 + 3 * l.length) R' G K1 H a' len' ys := by
  obtain ⟨K, h1, h2⟩ := h.call
  have hnd := h1.nodup
  obtain ⟨K2, h3, r3⟩ := h1.row b hrow
  obtain ⟨f, mb, mo, blk, h3⟩ := h3
  refine (rpub_ok h3 hR hT hL a len cap l (chsK_row r3 (fun x hx => List.mem_append.2 (.inl hx)) rfl) hok hn hval hv).mono fun e w' ⟨a', len', cap', F', r, R', G, ys, e1, e2, e3, e4, e4', e5, e6, e7⟩ => ?_
  have hp := pub_is hR hv e3 e4 e5
  obtain ⟨a2, cap2, e8, h8, _⟩ := sl3s_of_owns e6
  simp only [Value.slice.injEq] at e8
  obtain ⟨rfl, -, rfl⟩ := e8
  refine ⟨a', len', cap', R', G, ys, e2, hp, h2 _ _ _ _ (e7.sub (fun x hx => List.mem_append.2 (.inr hx)) hnd), h8, owns_le2 e6, hp.gone.1.nodup, fun s hs => ⟨?_, hp.gone.2 s hs⟩⟩
  rcases e5 with ⟨_, _, _, rfl⟩ | ⟨_, _, d⟩
  · cases hs
  · exact HasS.ok e3 ((d.gone.mem s).1 hs).1
theorem stk_pub_bad {w1 : World} {l : List ChD} (h : StK w w1 rb hb L R F K1 H) {a : Option Addr} {len cap : Nat} (b : Below w1.heap.size w1 ww) (hrow : ww.ownsRow w1.heap.size 83 6 (.slice a len cap) len (l.flatMap encCh))
    (hok : ∀ x, x ∈ l → x.ok) (hn : len ≤ maxLen) (hval : ¬ ∀ x, x ∈ l → x.val) :
    Calls Try.prog 27 #[.pointer (some ⟨rb, 0, none⟩), .int .u64 (R.now : Nat), .slice a len cap] ww fun e w' => e = .returned (.tuple #[.int .u64 0, .slice none 0 0, .int .i64 2]) ∧ GoneP w w' rb hb L R F K1 H none 0 [] := by
  have hc := h.calm b
  obtain ⟨K, ⟨f, mb, mo, blk, h1⟩, h2⟩ := hc.call
  obtain ⟨a', cap', e, hat⟩ := chsAt_of hrow
  simp only [Value.slice.injEq] at e
  obtain ⟨rfl, -, rfl⟩ := e
  exact (rpub_loop h1 a len cap l hat hok hn hval).mono fun e w' ⟨e1, e2⟩ => ⟨e1, hc.calm e2, ⟨rfl, .inl rfl⟩, by decide, List.nodup_nil, fun s hs => by cases hs⟩
theorem stk_slots (h : StK w ww rb hb L R F K1 H) (hL : L ≤ 2 ^ 34) : Calls Try.prog 30 #[.pointer (some ⟨rb, 0, none⟩)] ww fun e w' => ∃ (a : Option Addr) (len cap : Nat) (zs : List Slot), e = .returned (.slice a len cap) ∧ SlotsIs (HasS F) zs ∧ Sl3s w' a len zs ∧ len ≤ maxLen ∧ Below ww.heap.size ww w' := by
  obtain ⟨K, ⟨f, mb, mo, blk, h1⟩, _⟩ := h.call
  refine (rslots_fn h1 hL).mono fun e w' ⟨v, zs, e1, e2, e3, e4⟩ => ?_
  have hle := owns_le2 e3
  obtain ⟨a, cap, rfl, h5, _⟩ := sl3s_of_owns e3
  exact ⟨a, _, cap, zs, e1, e2, h5, hle, e4⟩
end Go.Proofs.Ytmpbhoijkcanmaa.R

/- Roots: a version that is held stays: the walk. -/
namespace Go.Proofs.Ytmpbhoijkcanmaa.R
open Go.ChangeShapes Go.WideShapes Go.ChangeAt Go.RowKit Go.Maps Go.Proofs.Ytmpbhoijkcanmaa.G
set_option linter.unusedVariables false
set_option linter.unusedSimpArgs false
set_option linter.unnecessarySimpa false

/-- between two rounds -/
structure StG (w wr : World) (rb hb : Nat) (L : Nat) (R : Ro) (F : Fo) (T : Nat) (H : List (Nat × Value)) (K1 : List (Nat × Obj)) (kp : Option Nat) (c : List Pr) (b : Bool) (kv lv : Value) : Prop where
  mem : StK w wr rb hb L R F K1 H
  is : StW R F L T H kp c
  no : b = false → kp = none ∧ K1 = []
  yes : b = true → ∃ kn a cap, kp = some kn ∧ kv = .int .u64 ((kn : Nat) : Int) ∧ lv = .slice a c.length cap ∧ RowO K1 w.heap.size 43 5 lv c.length (flatP c)
def StL (w wr : World) (rb hb i : Nat) (b : Bool) (d : Nat) (kv lv : Value) : Prop := ∃ L R F T H K1 kp c, L ≤ 200 * i ∧ T ≤ 2 * i + d ∧ StG w wr rb hb L R F T H K1 kp c b kv lv
theorem iter_nodup {α : Type} {P : Program} {kt : TypeId} {enc : α → Value} {w : World} {r b : Nat} {l done : List (α × Value)} (h : IterIs P kt enc w r b l done) (hn : (l.map (·.1)).Nodup) : (done.map (·.1)).Nodup := by
  obtain ⟨E, clock, since, c0, seen, idx, h1, h2, h3, h4, h5, h6, h7, h8, h9, h10, h11⟩ := h
  have e : (done.map (·.1)).map some = idx.map fun i => (l.map (·.1))[i]? := by
    have := congrArg (List.map (Option.map (·.1))) h11
    rw [List.map_map, List.map_map] at this
    rw [List.map_map]
    refine Eq.trans ?_ (this.trans (List.map_congr_left fun i _ => ?_))
    · rfl
    · simp
  have hk : ((done.map (·.1)).map some).Nodup := by
    rw [e]
    refine nodup_map_on h8 fun i j hi hj hne he => hne ?_
    exact (List.getElem?_inj (by simpa using h9 i hi) hn).1 he
  rw [List.Nodup, List.pairwise_map] at hk
  exact hk.imp fun h e => h (by rw [e])
theorem iter_fresh {α : Type} {P : Program} {kt : TypeId} {enc : α → Value} {w : World} {r b : Nat} {l done : List (α × Value)} {k : α} {v : Value} (h : IterIs P kt enc w r b l (done ++ [(k, v)])) (hn : (l.map (·.1)).Nodup) : k ∉ done.map (·.1) := by
  have := iter_nodup h hn
  rw [List.map_append, List.nodup_append] at this
  exact fun hm => this.2.2 k hm k (by simp) rfl
/-- one version alone: its slots -/
theorem Solo.hasS {R : Ro} {F : Fo} {L T m r : Nat} {g : Nat → Option Ent} (h : Solo R F L T m r g) (s : Slot) : HasS F s ↔ s ∈ (mapL F r).map (·.2.s) := by
  rw [slots_iff h.ok.pre h.fo s, List.mem_map]
  constructor
  · rintro ⟨x, hx, q, hq, e, he, hs⟩
    rw [h.one x hx] at he
    exact ⟨(q, e), allL_mem.2 ⟨hq, he⟩, hs⟩
  · rintro ⟨⟨q, e⟩, hx, hs⟩
    obtain ⟨hq, he⟩ := allL_mem.1 hx
    exact ⟨_, vget_some h.v, q, hq, e, he, hs⟩
/-- the slots of a row of pairs, in a set -/
structure PrIn (w0 w : World) (bm : Nat) (c : List Pr) (j : Nat) (M : List (Slot × Value)) : Prop where
  map : MapIs Try.prog 31 encS w bm M
  iff : ∀ s, (mget M s).isSome = true ↔ s ∈ (c.take j).map (·.2.s)
  len : M.length ≤ j
  bel : Below w0.heap.size w0 w
theorem PrIn.put {w0 w w' : World} {bm j : Nat} {c : List Pr} {M : List (Slot × Value)} (h : PrIn w0 w bm c j M) (hj : j < c.length) (hb : w0.heap.size ≤ bm) (m : MapIs Try.prog 31 encS w' bm (mput M c[j].2.s (.bool true))) (t : Turned [bm] w w') : PrIn w0 w' bm c (j + 1) (mput M c[j].2.s (.bool true)) := by
  refine ⟨m, fun s => ?_, ?_, Turned.below_of h.bel t (by simpa using hb)⟩
  · rw [look_put, List.take_succ_eq_append_getElem hj, List.map_append]
    by_cases e : s = c[j].2.s
    · rw [if_pos e]; simp [e]
    · rw [if_neg e, h.iff]
      have : s ∈ [c[j]].map (·.2.s) ↔ False := by simp [e]
      rw [List.mem_append, this, or_false]
  · have := length_put_le M c[j].2.s (.bool true)
    have := h.len
    omega
theorem PrIn.mem {w0 w : World} {bm : Nat} {c : List Pr} {M : List (Slot × Value)} (h : PrIn w0 w bm c c.length M) (s : Slot) : s ∈ M.map (·.1) ↔ s ∈ c.map (·.2.s) := by
  have := h.iff s
  rw [List.take_length] at this
  rw [← this]
  constructor
  · intro hm
    obtain ⟨p, hp, rfl⟩ := List.mem_map.1 hm
    rw [look_of_mem h.map.nodup hp]; rfl
  · intro hm
    obtain ⟨v, hv⟩ := Option.isSome_iff_exists.1 hm
    exact List.mem_map_of_mem (f := (·.1)) (mem_of_look hv)
/-- an iterator, wherever its block and the map's lie as they are -/
def ItK (rI hb : Nat) (io ho : Obj) (H : List (Nat × Value)) (done : List (Nat × Value)) : Prop := ∀ ww : World, ww.heap[rI]? = some io → ww.heap[hb]? = some ho → IterIs Try.prog 61 encU ww rI hb H done
/-- as the counts are let go of, one by one -/
def StI (w wr : World) (rb hb rI : Nat) (ho : Obj) (H : List (Nat × Value)) (done : List (Nat × Value)) (f : Nat → Nat) : Prop := ∃ L R F T io, L ≤ 10000 ∧ T ≤ 100 ∧ RtM w wr rb L R F [(rI, io), (hb, ho)] ∧ ItK rI hb io ho H done ∧ StQ R F L T f
theorem StI.it {w wr : World} {rb hb rI : Nat} {ho : Obj} {H done : List (Nat × Value)} {f : Nat → Nat} (h : StI w wr rb hb rI ho H done f) : IterIs Try.prog 61 encU wr rI hb H done := by
  obtain ⟨L, R, F, T, io, _, _, h1, h2, _⟩ := h
  exact h2 wr (h1.at (x := (rI, io)) (by simp)) (h1.at (x := (hb, ho)) (by simp))
theorem StI.next {w wr w' : World} {rb hb rI : Nat} {ho : Obj} {H done done' : List (Nat × Value)} {f : Nat → Nat} (h : StI w wr rb hb rI ho H done f) (hr : w.heap.size ≤ rI) (t : Turned [rI] wr w') (hi : IterIs Try.prog 61 encU w' rI hb H done') : StI w w' rb hb rI ho H done' f := by
  obtain ⟨L, R, F, T, io, h0, h0', h1, h2, h3⟩ := h
  obtain ⟨io', ho'⟩ := at_some hi.lt.1
  have hne : hb ≠ rI := fun e => by
    have := h1.nodup
    rw [e] at this
    simp [keysK] at this
  have hb' : w'.heap[hb]? = some ho := t.at (h1.at (x := (hb, ho)) (by simp)) (by simpa using hne)
  exact ⟨L, R, F, T, io', h0, h0', RtM.upd (K1 := []) h1 hr t ho', fun ww k1 k2 => hi.kept (by rw [k2, hb']) (by rw [k1, ho']), h3⟩
theorem StI.cong {w wr : World} {rb hb rI : Nat} {ho : Obj} {H done : List (Nat × Value)} {f g : Nat → Nat} (h : StI w wr rb hb rI ho H done f) (e : ∀ n, f n = g n) : StI w wr rb hb rI ho H done g := by
  obtain ⟨L, R, F, T, io, h0, h0', h1, h2, h3⟩ := h
  exact ⟨L, R, F, T, io, h0, h0', h1, h2, h3.cong e⟩
theorem sti_rel {w wr : World} {rb hb rI n : Nat} {ho : Obj} {H done : List (Nat × Value)} {f : Nat → Nat} (h : StI w wr rb hb rI ho H done f) (hf : 0 < f n) :
    Calls Try.prog 28 #[.pointer (some ⟨rb, 0, none⟩), .int .u64 (n : Nat)] wr fun e w' => ∃ (a : Option Addr) (len cap : Nat), e = .returned (.tuple #[.slice a len cap, .int .i64 0]) ∧ StI w w' rb hb rI ho H done (fun m => if m = n then f m - 1 else f m) := by
  obtain ⟨L, R, F, T, io, h0, h0', ⟨f9, mb, mo, blk, h1⟩, h2, h3⟩ := h
  obtain ⟨v, hv, hvh⟩ := h3.yes hf
  have hn : n < 2 ^ 64 := by
    have k1 := h3.ok.le n (List.mem_map_of_mem (f := (·.1)) (vget_some hv))
    have k2 := h3.ok.small.1
    omega
  obtain ⟨hd, hh⟩ : ∃ hd, v.held = hd + 1 := ⟨v.held - 1, by omega⟩
  have hle : v.held ≤ T := h3.ok.small.2 _ (vget_some hv)
  refine (rrel_yes h1 (by omega) hn h3.ok.keys hv hh (by omega) (h3.ok.root hv)).mono fun e w' ⟨a, len, cap, R', G, ys, mo', e1, e2, e3, e4, e5⟩ => ?_
  exact ⟨a, len, cap, e2, L, R', G, T, io, h0, h0', ⟨f9, mb, mo', blk, e5⟩, h2, h3.rel hv hh (rel_is h3.ok h3.fo hv hh e3)⟩
theorem StI.start {w ww w' : World} {rb hb L T : Nat} {R : Ro} {F : Fo} {K1 : List (Nat × Obj)} {H : List (Nat × Value)} {f : Nat → Nat} (h : StK w ww rb hb L R F K1 H) (hL : L ≤ 10000) (hT : T ≤ 100) (hq : StQ R F L T f) (hi : IterIs Try.prog 61 encU w' ww.heap.size hb H []) (t : Turned [] ww w') : ∃ ho, StI w w' rb hb ww.heap.size ho H [] f := by
  obtain ⟨ho, h0, h1, h2⟩ := h
  obtain ⟨io, hio⟩ := at_some hi.lt.1
  have hho : ww.heap[hb]? = some ho := h1.at (x := (hb, ho)) (by simp)
  have hho' := t.at hho (by simp)
  have h3 := (h1.sub (Ky := [(hb, ho)]) (fun x hx => List.mem_append.2 (.inr hx)) (by simp [keysK]))
  have hbel := h3.bel
  obtain ⟨f9, mb, mo, blk, h4⟩ := h3
  obtain ⟨Ka, c1, c2, c3⟩ := h4.cv
  have hlt := lt_of_at hho
  refine ⟨ho, L, R, F, T, io, hL, hT, c1.make w' _ (hbel.trans (t.below.mono hbel.size)) (fun x hx => t.at (c2 x hx) (by simp)) (fun x hx => ?_) ?_ fun b hb' hm => ?_, fun ww2 k1 k2 => hi.kept (by rw [k2, hho']) (by rw [k1, hio]), hq⟩
  · simp at hx
    rcases hx with rfl | rfl
    · exact hio
    · exact hho'
  · simp [keysK]; omega
  · simp [keysK] at hb'
    obtain ⟨o, hoo⟩ := mem_keysK.1 hm
    have h5 := lt_of_at (c2 _ hoo)
    rcases hb' with rfl | rfl
    · exact absurd h5 (by simp)
    · exact c3 b hm (by simp [keysK])
/-- behind the call of a round -/
def StR (w wr : World) (rb hb i : Nat) (b : Bool) (kv lv gv : Value) : Prop := ∃ L R F T H K1 kp c a len cap ys, L ≤ 200 * (i + 1) ∧ T ≤ 2 * (i + 1) ∧ StG w wr rb hb L R F T H K1 kp c b kv lv ∧ gv = .slice a len cap ∧ Sl3s wr a len ys ∧ len ≤ maxLen ∧ ys.Nodup ∧ ∀ s, s ∈ ys → s.ok ∧ ¬ HasS F s
theorem StR.mk0 {w wr w' : World} {rb hb i L L' T T' cb : Nat} {R R' : Ro} {F G : Fo} {H H' : List (Nat × Value)} {K1 : List (Nat × Obj)} {kp : Option Nat} {c : List Pr} {b : Bool} {kv lv : Value} {o : Obj} {a : Option Addr} {len cap : Nat} {ys : List Slot} (hG : StG w wr rb hb L R F T H K1 kp c b kv lv) (hg : GoneP w w' rb hb L' R' G ((cb, o) :: K1) H' a len ys) (hW : StW R' G L' T' H' kp c) (hL : L' ≤ 200 * (i + 1)) (hT : T' ≤ 2 * (i + 1)) : StR w w' rb hb i b kv lv (.slice a len cap) := by
  obtain ⟨h1, h2, h3, h4, h5⟩ := hg
  exact ⟨L', R', G, T', H', K1, kp, c, a, len, cap, ys, hL, hT, ⟨h1.sub (fun x hx => List.mem_cons_of_mem _ hx) hG.mem.nodup, hW, hG.no, hG.yes⟩, rfl, h2, h3, h4, h5⟩
set_option maxRecDepth 100000 in
set_option maxHeartbeats 16000000 in
theorem rstay_law (a : Option Addr) (n cap at_ : Nat) (l : List CallD) (w : World) (hl : CallsAt w a n l) (hlo : ∀ x, x ∈ l → x.ok w) (hn : n ≤ maxLen) (hat : at_ < 256) :
    Calls Try.prog 7 #[.slice a n cap, .int .u8 (at_ : Nat)] w fun e w' => e = .returned (.bool true) ∧ Below w.heap.size w w' := by
  have HAl := Lib.hid alive24
  have HB0 := Lib.hid (Below.refl w.heap.size w)
  have CM := Lib.hid (many_fn a n cap l hl hn fun x hx => (hlo x hx).len)
  unfold maxLen at hn
  have HL := Lib.hid (And.intro hl hlo)
  have hll := hl.1
  clear hl hlo
  have CN := Lib.hid (rnew_fn w (Below.refl w.heap.size w))
  have hmm := @run_makeMap Try.prog
  go_enter Try.func7, Try.ntmps7
  go_upto_if 31 with (first
    | (go_at_call 21; ((with_reducible refine CM.out.mono ?_); rintro e w1 ⟨⟨B, rfl, hB⟩, rfl⟩)))
  cases B
  rotate_left
  · clear hB
    go_wp2_with (go_at_call 22; ((with_reducible refine (HAl.out _).mono ?_); rintro e wE ⟨rfl, hb⟩))
    go_ret
    exact ⟨rfl, hb⟩
  obtain ⟨hn40, hl60⟩ := hB rfl
  have HL60 := Lib.hid hl60
  clear hB hl60 CM
  obtain ⟨k, hk⟩ : ∃ k, at_ % (n + 1) = k := ⟨_, rfl⟩
  have hkn : k ≤ n := by have := Nat.mod_lt at_ (show n + 1 > 0 by omega); omega
  have hw1 : IntKind.i64.wrap ((n : Int) + 1) = (n : Int) + 1 := IntWalk.i64_in _ (by omega)
  have hk2 : ((at_ : Int)).tmod ((n : Int) + 1) = (k : Nat) := by
    rw [Int.tmod_eq_emod_of_nonneg (by omega), ← hk, Int.natCast_emod]; rfl
  have hw2 : IntKind.i64.wrap ((k : Nat) : Int) = (k : Nat) := IntWalk.i64_in _ (by omega)
  have hw3 : IntKind.i64.wrap ((at_ : Nat) : Int) = (at_ : Nat) := IntWalk.i64_in _ (by omega)
  go_wp2_with (first
    | (go_at_call 23; ((with_reducible refine CN.out.mono ?_); rintro e w1 ⟨rb, rfl, hs⟩; have S0 := Lib.hid hs; clear hs CN)))
  have S1 := Lib.hid (StK.start (S0.out.calm ((Turned.refl [] w1).alloc (.cells #[] 43)).below))
  rw [show w1.heap.size + 1 = (w1.alloc (.cells #[] 43)).heap.size by simp]
  generalize (w1.alloc (.cells #[] 43)).heap.size = hb at *
  generalize (w1.alloc (.cells #[] 43)).alloc (.map #[] 0) = w3 at *
  have H0 : Hid (∀ kv lv, StL w w3 rb hb 0 (decide (k < 0)) 0 kv lv) := fun kv lv => ⟨0, ro0, fo0, 0, [], [], none, [], by omega, by omega, S1.out, StW.start, fun _ => ⟨rfl, rfl⟩, fun h => by simp at h⟩
  clear S0 S1 hmm hw1 hw2 hw3 hk2 hk hat
  go_loopw [10, 7, 8] (fun iv kv lv wr => ∃ i : Nat, i ≤ n ∧ iv = .int .i64 i ∧ Hid (StL w wr rb hb i (decide (k < i)) 0 kv lv)) (fun v _ _ _ => n + 1 - (intOf v).toNat)
  case atStart => exact ⟨0, Nat.zero_le _, rfl, H0.out _ _⟩
  case round =>
    obtain ⟨i, hi, rfl, hB⟩ := hrel
    clear H0
    have hil : decide (i ≤ n) = true := by simpa using hi
    have hil2 : decide ((i : Int) ≤ n) = true := by simpa using hi
    go_upto_if 52 with fail
    go_cut [7, 8] (fun kv lv wc => Hid (StL w wc rb hb i (decide (k ≤ i)) 1 kv lv))
    case first =>
      by_cases hik : i = k
      · subst hik
        obtain ⟨L, R, F, T, H, K1, kp, c, hL, hT, hG⟩ := hB.out
        obtain ⟨hkp, hK1⟩ := hG.no (by simp)
        subst hkp; subst hK1
        obtain ⟨v, hv⟩ : ∃ v, vget R.vs R.now = some v := by
          obtain ⟨x, hx, e⟩ := List.mem_map.1 hG.is.q.ok.now
          refine ⟨x.2, (vget_iff hG.is.q.ok.keys).2 ?_⟩
          rw [← e]; exact hx
        have hsm := hG.is.q.ok.small
        have hn64 : R.now < 2 ^ 64 := by omega
        have PN := Lib.hid (stk_now hG.mem)
        have PA : Hid (Calls Try.prog 25 #[.pointer (some ⟨rb, 0, none⟩), .int .u64 (R.now : Nat)] wr fun e w' => ∃ a cap K2, e = .returned (.tuple #[.slice a (mapL F v.root).length cap, .int .i64 0]) ∧ StK w w' rb hb L R F K2 H ∧ RowO K2 w.heap.size 43 5 (.slice a (mapL F v.root).length cap) (mapL F v.root).length (flatP (mapL F v.root))) := by
          refine (stk_all hG.mem hG.is.q.ok (by omega) hn64 hv).mono fun e w' ⟨a, n', cap, e0, e1, e2, e3⟩ => ?_
          subst e0
          obtain ⟨K2, h1, h2⟩ := hG.mem.row e3 e2
          rw [List.append_nil] at h1
          exact ⟨a, cap, K2, e1, h1, h2⟩
        have PH : Hid (∀ ww a cap K2, StK w ww rb hb L R F K2 H → RowO K2 w.heap.size 43 5 (.slice a (mapL F v.root).length cap) (mapL F v.root).length (flatP (mapL F v.root)) → Calls Try.prog 26 #[.pointer (some ⟨rb, 0, none⟩), .int .u64 (R.now : Nat)] ww fun e w' => e = .returned (.int .i64 0) ∧ StL w w' rb hb i true 1 (.int .u64 ((R.now : Nat) : Int)) (.slice a (mapL F v.root).length cap)) := fun ww a cap K2 hk2 hro => by
          have hle : v.held ≤ T := hsm.2 _ (vget_some hv)
          refine (stk_hold hk2 hn64 hv (by omega)).mono fun e w' ⟨e1, e2⟩ => ⟨e1, L, _, F, T + 1, H, K2, _, _, hL, by omega, e2, hG.is.keep hv, (fun h => by cases h), fun _ => ⟨R.now, a, cap, rfl, rfl, rfl, hro⟩⟩
        have hki : decide (i ≤ i) = true := by simp
        generalize (mapL F v.root).length = cl at *
        generalize R.now = nw at *
        clear hv hG hB hL hT hsm hn64
        go_wp2_with (first
          | (go_at_call 24; ((with_reducible refine PN.out.mono ?_); rintro e w4 ⟨rfl, rfl⟩; clear PN))
          | (go_at_call 25; ((with_reducible refine PA.out.mono ?_); rintro e w5 ⟨a5, cap5, K2, rfl, hs5, ho5⟩; have S5 := Lib.hid (And.intro hs5 ho5); clear hs5 ho5 PA))
          | (go_at_call 26; ((with_reducible refine (PH.out _ _ _ _ S5.out.1 S5.out.2).mono ?_); rintro e w6 ⟨rfl, hs6⟩; have S6 := Lib.hid hs6; clear hs6 PH S5)))
        go_meet
        rw [hki]
        exact S6.out
      · have hne : ((i : Int) == (k : Int)) = false := by rw [beq_eq_false_iff_ne]; omega
        have hne2 : (i == k) = false := by simpa using hik
        have e : decide (k < i) = decide (k ≤ i) := by simp; omega
        rw [e] at hB
        have HB2 : Hid (StL w wr rb hb i (decide (k ≤ i)) 1 u7 u8) := by
          obtain ⟨L, R, F, T, H, K1, kp, c, hL, hT, hG⟩ := hB.out
          exact ⟨L, R, F, T, H, K1, kp, c, hL, by omega, hG⟩
        clear hik hB e
        go_wp2
        go_meet
        exact HB2.out
    case rest =>
      have HC := Lib.hid hcut.out
      clear hcut
      by_cases hin : i = n
      · subst hin
        obtain ⟨L, R, F, T, H, K1, kp, c, hL, hT, hG⟩ := HC.out
        obtain ⟨kn, la, lcap, rfl, hkv, hlv, hro⟩ := hG.yes (by simpa using hkn)
        obtain ⟨v, hv, hm⟩ := hG.is.lst kn rfl
        have hkn64 : kn < 2 ^ 64 := by
          have h1 := hG.is.q.ok.le kn (List.mem_map_of_mem (f := (·.1)) (vget_some hv))
          have h2 := hG.is.q.ok.small.1
          omega
        obtain ⟨q, hq⟩ : ∃ q, cnt H kn = q := ⟨_, rfl⟩
        have hq2 := hG.is.num.get kn
        rw [hq] at hq2
        have hqT := hq2.2
        have hT100 : T ≤ 100 := by omega
        have hL1 : L ≤ 10000 := by omega
        have hwq : IntKind.i64.wrap ((q : Int) + 1) = (q : Int) + 1 := IntWalk.i64_in _ (by omega)
        obtain ⟨ky, hky⟩ := keyU kn hkn64
        have HKK := Lib.hid hky
        have hlk : (Instr.lookup 62 (.map (some hb)) (.int .u64 (kn : Nat)) false).run Try.prog wc = .ok (.int .i64 (q : Nat)) wc := by
          have := hG.mem.map.run_look keyedU encU_inj Try.underlying62 (zeroI wc) kn hky false
          rw [if_neg (by simp), hq2.1] at this
          exact this
        have HMp := Lib.hid hG.mem.map
        obtain ⟨H5, hH5⟩ : ∃ H5, mput H kn (.int .i64 ((q : Int) + 1)) = H5 := ⟨_, rfl⟩
        have HQ : Hid (StQ R F L T (fun n => cnt H5 n)) := by
          have := hG.is.last
          rw [hq, show ((q + 1 : Nat) : Int) = (q : Int) + 1 by omega, hH5] at this
          exact this
        have HNu : Hid (NumW H5 (T + 1)) := by
          have := hG.is.num.put kn (q + 1) (T + 1) (by omega) (by omega)
          rw [show ((q + 1 : Nat) : Int) = (q : Int) + 1 by omega, hH5] at this
          exact this
        have HP : Hid (∀ w5, MapIs Try.prog 61 encU w5 hb (mput H kn (.int .i64 ((q : Int) + 1))) → Turned [hb] wc w5 → StK w w5 rb hb L R F K1 H5 ∧ MapIs Try.prog 61 encU w5 hb H5) := fun w5 hm5 ht5 => by
          rw [hH5] at hm5
          exact ⟨hG.mem.put ht5 hm5, hm5⟩
        obtain rfl := hkv
        clear hB HC hL hT hG hlv hro hv hm hq hq2 hqT hky hH5 HL HL60
        go_wp2_with (first
          | (at_mapUpdate; refine wp_put _ rfl _ _ _ 62 rfl keyedU encU_inj Try.underlying62 hb H rfl HMp.out kn rfl _ rfl HKK.out ?_; intro w5 hm5 ht5; have S5 := Lib.hid (HP.out w5 hm5 ht5); clear hm5 ht5 hlk)
          | (at_range; refine wp_range _ rfl _ 62 rfl Try.underlying62 hb H5 rfl S5.out.2 ?_; intro w6 hi6 ht6))
        obtain ⟨ho, hst⟩ := StI.start S5.out.1 hL1 hT100 HQ.out hi6 ht6
        have HR : Hid (w.heap.size ≤ w5.heap.size) := S5.out.1.bel.size
        have HNd := Lib.hid S5.out.2.nodup
        generalize w5.heap.size = rI at *
        have S6 : Hid (StI w w6 rb hb rI ho H5 [] (fun m => if m ∈ ([] : List (Nat × Value)).map (·.1) then 0 else cnt H5 m)) := hst.cong fun m => by simp
        clear hst hi6 ht6 S5 HQ HP HMp HKK
        go_frame
        go_loopw [20] (fun _ wr => ∃ done, Hid (StI w wr rb hb rI ho H5 done (fun m => if m ∈ done.map (·.1) then 0 else cnt H5 m))) (fun _ wr => leftIn wr rI hb)
        case atStart => exact ⟨[], S6.out⟩
        case round =>
          obtain ⟨done, hSI⟩ := hrel
          clear S6
          have HIt := Lib.hid hSI.out.it
          go_wp2_with (first
            | (at_next; refine wp_next _ rfl _ rfl rI hb H5 done rfl HIt.out ?_ ?_))
          · intro hp
            have HAlone : Hid (∃ L R F T io r, (L ≤ 10000 ∧ T ≤ 100) ∧ RtM w wr rb L R F [(rI, io), (hb, ho)] ∧ R.vs = [(R.now, ⟨r, 0⟩)] ∧ Solo R F L T R.now r (getL 2 F r)) := by
              obtain ⟨L, R, F, T, io, h0, h0', h1, h2, h3⟩ := hSI.out
              obtain ⟨r, hr1, hr2⟩ := h3.alone fun m => by
                by_cases hm : m ∈ done.map (·.1)
                · rw [if_pos hm]
                · rw [if_neg hm]
                  unfold cnt
                  cases e : mget H5 m with
                  | none => rfl
                  | some u => exact absurd ((hp.map _).mem_iff.2 (List.mem_map_of_mem (f := (·.1)) (mem_of_look e))) hm
              exact ⟨L, R, F, T, io, r, ⟨h0, h0'⟩, h1, hr1, hr2⟩
            clear hp hSI HIt
            obtain ⟨L, R, F, T, io, r, ⟨hL9, hT9⟩, hM9, hvs, hso⟩ := HAlone.out
            have hM0 := hM9.sub (Ky := []) (by simp) (by simp [keysK])
            have hnw : R.now < 2 ^ 64 := by have := hso.ok.small.1; omega
            obtain ⟨c, hc⟩ : ∃ c, mapL F r = c := ⟨_, rfl⟩
            have hcl : c.length ≤ 4096 := by rw [← hc]; exact allL_len _ _
            have HCok : Hid (∀ x, x ∈ c → x.2.s.ok) := fun x hx => HasS.ok hso.fo ((hso.hasS _).2 (by rw [hc]; exact List.mem_map_of_mem (f := (·.2.s)) hx))
            have HHas : Hid (∀ s, HasS F s ↔ s ∈ c.map (·.2.s)) := fun s => by rw [← hc]; exact hso.hasS s
            have HBw : Hid (Below w.heap.size w wr) := hM0.bel
            obtain ⟨f9, mb9, mo9, blk9, hA9⟩ := hM0
            have PN : Hid (∀ ww, Below wr.heap.size wr ww → Calls Try.prog 24 #[.pointer (some ⟨rb, 0, none⟩)] ww fun e w' => e = .returned (.int .u64 (R.now : Nat)) ∧ ww = w') := fun ww hb => rnow_fn (hA9.calm hb)
            have PA : Hid (Calls Try.prog 25 #[.pointer (some ⟨rb, 0, none⟩), .int .u64 (R.now : Nat)] wr fun e w' => ∃ a cap, e = .returned (.tuple #[.slice a c.length cap, .int .i64 0]) ∧ Below wr.heap.size wr w' ∧ Sl5 w' a c.length c) := by
              have hv := hso.v
              have := rall_yes hA9 (by omega) hnw hv (hso.ok.root hv)
              rw [show (Vr.root ⟨r, 0⟩) = r from rfl, hc] at this
              refine this.mono fun e w' ⟨a2, n2, cap2, e0, e1, e2, e3⟩ => ?_
              subst e0
              obtain ⟨_, _, e14, h14, _⟩ := sl5_of_owns e2
              simp only [Value.slice.injEq] at e14
              obtain ⟨rfl, -, rfl⟩ := e14
              exact ⟨_, _, e1, e3, h14⟩
            have PV : Hid (∀ ww, Below wr.heap.size wr ww → Calls Try.prog 31 #[.pointer (some ⟨rb, 0, none⟩)] ww fun e w' => ∃ g cap, e = .returned (.slice (some ⟨g, 0, none⟩) 1 cap) ∧ w'.cell? ⟨g, 0, none⟩ = some (.int .u64 (R.now : Nat)) ∧ Below wr.heap.size wr w' ∧ Below ww.heap.size ww w') := fun ww hb => (rvers_one (hA9.calm hb) hvs).mono fun e w' ⟨a2, cap2, e1, e2, e3⟩ => by
              obtain ⟨h1, h2⟩ := e2
              rcases h2 with ⟨_, h2⟩ | ⟨g, c', cur, e, hg, hh, hn, hcc, hs, ht⟩
              · omega
              · simp only [Value.slice.injEq] at e
                obtain ⟨rfl, -, rfl⟩ := e
                refine ⟨g, cap2, e1, ?_, hb.trans (e3.mono hb.size), e3⟩
                have : (cur.toList.take (1 * 1))[0]? = cur.toList[0]? := by rw [List.getElem?_take, if_pos (by omega)]
                rw [ht] at this
                simp [World.cell?, hh]
                simpa [encU] using this.symm
            have PS : Hid (∀ ww, Below wr.heap.size wr ww → Calls Try.prog 30 #[.pointer (some ⟨rb, 0, none⟩)] ww fun e w' => ∃ (a : Option Addr) (len cap : Nat) (zs : List Slot), e = .returned (.slice a len cap) ∧ Below ww.heap.size ww w' ∧ (∀ w9, Below w'.heap.size w' w9 → Sl3s w9 a len zs) ∧ len ≤ maxLen ∧ SlotsIs (HasS F) zs) := fun ww hb => (rslots_fn (hA9.calm hb) (by omega)).mono fun e w' ⟨v, zs, e1, e2, e3, e4⟩ => by
              have hle := owns_le2 e3
              obtain ⟨a2, cap2, rfl, h5, _⟩ := sl3s_of_owns e3
              exact ⟨a2, _, cap2, zs, e1, e4, fun w9 h9 => h5.below h9, hle, e2⟩
            obtain ⟨nw, hnwE⟩ : ∃ nw, R.now = nw := ⟨_, rfl⟩
            rw [hnwE] at PN PA PV hnw
            obtain ⟨cl, hclE⟩ : ∃ cl, c.length = cl := ⟨_, rfl⟩
            rw [hclE] at PA hcl
            have HClE := Lib.hid hclE
            have hmm := @run_makeMap Try.prog
            clear hM9 hvs hso hc hA9 HAlone hL9 hT9 hnwE hclE HR HNd HNu
            go_wp2_with (first
              | (go_at_call 24; ((with_reducible refine (PN.out _ (Below.refl _ _)).mono ?_); rintro e w9 ⟨rfl, rfl⟩))
              | (go_at_call 25; ((with_reducible refine PA.out.mono ?_); rintro e w10 ⟨pa, pcap, rfl, hb10, hp10⟩; have S10 := Lib.hid (And.intro hb10 hp10); clear hb10 hp10 PA)))
            have H0 : Hid (PrIn w10 (w10.alloc (.map #[] 0)) w10.heap.size c 0 []) := ⟨MapIs.made w10, fun s => by simp [mget], Nat.le_refl _, ((Turned.refl [] w10).alloc _).below⟩
            generalize w10.alloc (.map #[] 0) = w11 at *
            go_loopw [28] (fun jv wv => ∃ j : Nat, j ≤ cl ∧ jv = .int .i64 j ∧ Hid (∃ M, PrIn w10 wv w10.heap.size c j M)) (fun jv _ => cl - (intOf jv).toNat)
            case atStart => exact ⟨0, Nat.zero_le _, rfl, _, H0.out⟩
            case round =>
              obtain ⟨j, hj, rfl, hB⟩ := hrel
              clear H0
              by_cases hlt : j < cl
              · have hjc : j < c.length := by rw [HClE.out]; exact hlt
                obtain ⟨M, hM⟩ := hB.out
                obtain ⟨pb, poff, rfl, c0, c1, c2, c3, c4⟩ := (S10.out.2.turned (Turned.of_below hM.bel) (by simp)).at j hjc
                have hok := HCok.out _ (List.getElem_mem hjc)
                have HKy := Lib.hid (keyS _ hok)
                have HMap := Lib.hid hM.map
                have HPut : Hid (∀ w5, MapIs Try.prog 31 encS w5 w10.heap.size (mput M c[j].2.s (.bool true)) → Turned [w10.heap.size] wr w5 → ∃ M', PrIn w10 w5 w10.heap.size c (j + 1) M') := fun w5 hm5 ht5 => ⟨_, hM.put hjc (Nat.le_refl _) hm5 ht5⟩
                generalize c[j] = pr at *
                obtain ⟨pn, ⟨⟨se, sc, si⟩, sg⟩⟩ := pr
                simp only at c1 c2 c3 HKy HPut
                unfold encS at HKy
                simp only at HKy
                obtain ⟨ky, hky⟩ := HKy.out
                have HKK := Lib.hid hky
                clear hok hM hky HKy hjc c0 c4 hB
                go_wp2_with (first
                  | (at_mapUpdate; refine wp_put _ rfl _ _ _ 74 rfl keyedS encS_inj Try.underlying74 w10.heap.size M rfl HMap.out ⟨se, sc, si⟩ rfl _ rfl HKK.out ?_; intro w5 hm5 ht5; have H5' := Lib.hid (HPut.out w5 hm5 ht5); clear hm5 ht5 c1 c2 c3))
                go_roundw
                case rel => exact ⟨j + 1, by omega, by go_num, H5'.out⟩
                case measure => simp [intOf]; omega
              · obtain rfl : j = cl := by omega
                obtain ⟨M, hM⟩ := hB.out
                have hbv := S10.out.1.trans (hM.bel.mono S10.out.1.size)
                have HBv := Lib.hid hbv
                have HMp := Lib.hid hM.map
                have HIn : Hid (∀ s, s ∈ M.map (·.1) ↔ s ∈ c.map (·.2.s)) := by
                  have := hM
                  rw [← HClE.out] at this
                  exact this.mem
                have hMl : M.length ≤ 1048576 := by have := hM.len; omega
                clear hB hlt hM hbv
                go_upto_region 60 with (first
                  | (go_at_call 31; ((with_reducible refine (PV.out _ HBv.out).mono ?_); rintro e w12 ⟨vb, vcap, rfl, hvc, hb12, hb12r⟩; have HB12 := Lib.hid hb12; have HMp12 := Lib.hid (HMp.out.turned (Turned.of_below hb12r) (by simp)); clear hb12 hb12r PV HMp HBv)))
                have N60 : Hid (∀ ww, Below w12.heap.size w12 ww → Calls Try.prog 24 #[.pointer (some ⟨rb, 0, none⟩)] ww fun e w' => e = .returned (.int .u64 (nw : Nat)) ∧ ww = w') := fun ww hb => PN.out _ (HB12.out.trans (hb.mono HB12.out.size))
                have S60 : Hid (∀ ww, Below w12.heap.size w12 ww → Calls Try.prog 30 #[.pointer (some ⟨rb, 0, none⟩)] ww fun e w' => ∃ (a : Option Addr) (len cap : Nat) (zs : List Slot), e = .returned (.slice a len cap) ∧ Below ww.heap.size ww w' ∧ (∀ w9, Below w'.heap.size w' w9 → Sl3s w9 a len zs) ∧ len ≤ maxLen ∧ SlotsIs (HasS F) zs) := fun ww hb => PS.out _ (HB12.out.trans (hb.mono HB12.out.size))
                have T60 : Hid (∀ ww, Below w12.heap.size w12 ww → Calls Try.prog 33 #[.map (some w10.heap.size)] ww fun e w' => ∃ (a : Option Addr) (len cap : Nat) (zs : List Slot), e = .returned (.slice a len cap) ∧ Below ww.heap.size ww w' ∧ (∀ w9, Below w'.heap.size w' w9 → Sl3s w9 a len zs) ∧ len ≤ maxLen ∧ SlotsIs (fun s => s ∈ M.map (·.1)) zs) := fun ww hb => (sorted_fn w10.heap.size M ww (HMp12.out.turned (Turned.of_below hb) (by simp)) hMl).mono fun e w' ⟨v, zs, e1, e2, e3, e4⟩ => by
                  have hle := owns_le2 e3
                  obtain ⟨a2, cap2, rfl, h5, _⟩ := sl3s_of_owns e3
                  exact ⟨a2, _, cap2, zs, e1, e4, fun w9 h9 => h5.below h9, hle, e2⟩
                have E60 : Hid (∀ ww a1 n1 c1 a2 n2 c2 xs ys, Sl3s ww a1 n1 xs → Sl3s ww a2 n2 ys → n1 ≤ maxLen → n2 ≤ maxLen → SlotsIs (HasS F) xs → SlotsIs (fun s => s ∈ M.map (·.1)) ys → Calls Try.prog 32 #[.slice a1 n1 c1, .slice a2 n2 c2] ww fun e w' => e = .returned (.bool true) ∧ Below ww.heap.size ww w') := fun ww a1 n1 c1 a2 n2 c2 xs ys h1 h2 h3 h4 h5 h6 => by
                  have he : xs = ys := h5.uniq h6 fun s => by rw [HHas.out, HIn.out]
                  have := same_slots xs ys a1 a2 n1 n2 c1 c2 ww h1 h2 h3 h4
                  rw [decide_eq_true he] at this
                  exact this
                have KP : Hid (∀ ww w' : World, Below w12.heap.size w12 ww → Below ww.heap.size ww w' → w'.cell? ⟨vb, 0, none⟩ = some (.int .u64 (nw : Nat)) ∧ Below w12.heap.size w12 w') := fun ww w' h1 h2 => by
                  have h3 := h1.trans (h2.mono h1.size)
                  exact ⟨(Turned.of_below h3).cell hvc (by simp), h3⟩
                have HF : Hid (∀ w', Below w12.heap.size w12 w' → Below w.heap.size w w') := fun w' hb => by
                  have h1 := HB12.out.trans (hb.mono HB12.out.size)
                  exact HBw.out.trans (h1.mono HBw.out.size)
                have hA1 : ∀ ww, Below w12.heap.size w12 ww → Below w12.heap.size w12 ww.drew := fun ww h => h.trans (((Turned.refl [] ww).drew.below).mono h.size)
                have hB12 := Below.refl w12.heap.size w12
                clear PN PS HMp12 HIn HHas HCok HClE S10 HB12 hMl HBw
                go_region_held3 (fun w' => w'.cell? ⟨vb, 0, none⟩ = some (.int .u64 (nw : Nat)) ∧ Below w12.heap.size w12 w') (first | exact hKp | go_keep)
                  (first
                    | (go_at_call 24; ((with_reducible refine (N60.out _ ?_).mono ?_); (go_split_ands; assumption); rintro e w3 ⟨rfl, rfl⟩))
                    | (go_at_call 30; ((with_reducible refine (S60.out _ ?_).mono ?_); (go_split_ands; assumption); rintro e w13 ⟨a13, n13, cap13, z13, rfl, hb13, hs13, hn13, hz13⟩; go_split_ands; have hKp := KP.out _ w13 (by assumption) hb13; have X13 := Lib.hid (And.intro hs13 (And.intro hn13 hz13)); clear hs13 hn13 hz13))
                    | (go_at_call 33; ((with_reducible refine (T60.out _ ?_).mono ?_); (go_split_ands; assumption); rintro e w14 ⟨a14, n14, cap14, z14, rfl, hb14, hs14, hn14, hz14⟩; go_split_ands; have hKp := KP.out _ w14 (by assumption) hb14; have X14 := Lib.hid (And.intro hs14 (And.intro hn14 hz14)); clear hs14 hn14 hz14))
                    | (go_at_call 32; ((with_reducible refine (E60.out _ _ _ _ _ _ _ _ _ (X13.out.1 _ ?_) (X14.out.1 _ ?_) X13.out.2.1 X14.out.2.1 X13.out.2.2 X14.out.2.2).mono ?_); (first | exact Below.refl _ _ | exact hb13 | exact hb14); (first | exact Below.refl _ _ | exact hb13 | exact hb14); rintro e w15 ⟨rfl, hb15⟩; go_split_ands; have hKp := KP.out _ w15 (by assumption) hb15))
                    | (go_at_call 22; ((with_reducible refine (HAl.out _).mono ?_); rintro e w16 ⟨rfl, hb16⟩; go_split_ands; have hKp := KP.out _ w16 (by assumption) hb16)))
                all_goals
                  go_wp2
                  go_ret
                  exact ⟨rfl, HF.out _ (by first | assumption | exact hKp.2)⟩
          · rintro m u w7 hmem hi7 ht7 hsz hen
            have hSI7 := hSI.out.next HR.out ht7 hi7
            obtain ⟨hv, hhv, rfl⟩ := HNu.out m u (look_of_mem HNd.out hmem)
            have hcm : cnt H5 m = hv := by
              unfold cnt
              rw [look_of_mem HNd.out hmem]
              simp [natAt]
            have hmd : m ∉ done.map (·.1) := iter_fresh hi7 HNd.out
            have hst : Hid (StI w w7 rb hb rI ho H5 (done ++ [(m, .int .i64 (hv : Nat))]) (fun n => if n = m then hv - 0 else if n ∈ done.map (·.1) then 0 else cnt H5 n)) := hSI7.cong fun n => by
              by_cases e : n = m
              · rw [if_pos e, e, if_neg hmd, hcm]; rfl
              · rw [if_neg e]
            have hfin : Hid (∀ wr', StI w wr' rb hb rI ho H5 (done ++ [(m, .int .i64 (hv : Nat))]) (fun n => if n = m then hv - hv else if n ∈ done.map (·.1) then 0 else cnt H5 n) → StI w wr' rb hb rI ho H5 (done ++ [(m, .int .i64 (hv : Nat))]) (fun n => if n ∈ (done ++ [(m, Value.int .i64 ((hv : Nat) : Int))]).map (·.1) then 0 else cnt H5 n) ∧ leftIn wr' rI hb < leftIn wr rI hb) := fun wr' h => by
              refine ⟨h.cong fun n => ?_, ?_⟩
              · rw [List.map_append]
                by_cases e : n = m
                · rw [if_pos e, if_pos (by simp [e])]; omega
                · rw [if_neg e]
                  have : n ∈ done.map (·.1) ++ [(m, Value.int .i64 ((hv : Nat) : Int))].map (·.1) ↔ n ∈ done.map (·.1) := by simp [e]
                  simp only [this]
              · rw [iter_left h.it, iter_left hSI.out.it]
                have h1 := h.it.len_le
                rw [List.length_append, List.length_singleton] at *
                omega
            unfold encU at hen
            clear hmem hi7 ht7 hsz hSI hSI7 HIt hcm hmd
            go_wp2
            go_loopw [22] (fun jv wr => ∃ j : Nat, j ≤ hv ∧ jv = .int .i64 j ∧ Hid (StI w wr rb hb rI ho H5 (done ++ [(m, .int .i64 (hv : Nat))]) (fun n => if n = m then hv - j else if n ∈ done.map (·.1) then 0 else cnt H5 n))) (fun jv _ => hv - (intOf jv).toNat)
            case atStart => exact ⟨0, Nat.zero_le _, rfl, hst.out⟩
            case round =>
              obtain ⟨j, hj, rfl, hB⟩ := hrel
              clear hst
              by_cases hlt : j < hv
              · have CR : Hid (Calls Try.prog 28 #[.pointer (some ⟨rb, 0, none⟩), .int .u64 (m : Nat)] wr fun e w' => ∃ (a : Option Addr) (len cap : Nat), e = .returned (.tuple #[.slice a len cap, .int .i64 0]) ∧ StI w w' rb hb rI ho H5 (done ++ [(m, .int .i64 (hv : Nat))]) (fun n => if n = m then hv - (j + 1) else if n ∈ done.map (·.1) then 0 else cnt H5 n)) := (sti_rel hB.out (by rw [if_pos rfl]; omega)).mono fun e w' ⟨a, len, cap, e1, e2⟩ => ⟨a, len, cap, e1, e2.cong fun n => by
                  by_cases e : n = m
                  · rw [if_pos e, if_pos e, if_pos e]; omega
                  · rw [if_neg e, if_neg e, if_neg e]⟩
                clear hB
                go_wp2_with (first
                  | (go_at_call 28; ((with_reducible refine CR.out.mono ?_); rintro e w8 ⟨a8, n8, cap8, rfl, hs8⟩; have S8 := Lib.hid hs8; clear hs8)))
                go_roundw
                case rel => exact ⟨j + 1, by omega, by go_num, S8.out⟩
                case measure => simp [intOf]; omega
              · obtain rfl : j = hv := by omega
                have HF := Lib.hid (hfin.out _ hB.out)
                clear hB hlt hfin
                go_wp2
                go_roundw
                all_goals first | exact ⟨_, HF.out.1⟩ | exact HF.out.2
      · have hlt : i < n := by omega
        have hne : ((i : Int) == (n : Int)) = false := by rw [beq_eq_false_iff_ne]; omega
        have hne2 : (i == n) = false := by simpa using hin
        obtain ⟨bk, hbk⟩ : ∃ bk, decide (k ≤ i) = bk := ⟨_, rfl⟩
        rw [hbk] at HC
        have HBk := Lib.hid hbk
        clear hbk
        obtain ⟨L, R, F, T, H, K1, kp, c, hL, hT, hG⟩ := HC.out
        obtain ⟨pb, poff, x, rfl, hpb, hx, k0, k1, k2, k3⟩ := CallsAt.cells (HL.out.1.below hG.mem.bel) i hlt
        have hxo := HL.out.2 x (List.mem_of_getElem? hx)
        have hx60 := HL60.out x (List.mem_of_getElem? hx)
        obtain ⟨op, odd, cn, ca, cl, cc, ch⟩ := x
        simp only at k0 k1 k2 k3 hxo hx60
        have hnew := fun j u hu => cells_new wc [.int .u8 (op : Nat), .bool odd, .int .u64 (cn : Nat), .slice ca cl cc] 69 j u hu
        have g0 := hnew 0 _ rfl
        have g2 := hnew 2 _ rfl
        have g3 := hnew 3 _ rfl
        rw [addr_add_none, Nat.zero_add] at g0 g2 g3
        obtain ⟨d, hd⟩ : ∃ d, op % 8 = d := ⟨_, rfl⟩
        have hd8 : d < 8 := by omega
        have hop := hxo.op
        have hr : ((op : Int)).tmod 8 = (d : Nat) := by
          rw [Int.tmod_eq_emod_of_nonneg (by omega)]; omega
        have hwd : IntKind.u8.wrap ((d : Nat) : Int) = (d : Nat) := IntWalk.u8_in _ (by omega)
        have hS := hG.mem.alloc (.cells #[.int .u8 (op : Nat), .bool odd, .int .u64 (cn : Nat), .slice ca cl cc] 69)
        have HS := Lib.hid hS
        have HG := Lib.hid (And.intro hL (And.intro hT hG))
        have HXo := Lib.hid hxo
        clear hB HC hnew hxo hin hS hG hL hT hx hpb hop
        go_upto_region 20 with fail
        generalize wc.alloc (.cells #[.int .u8 (op : Nat), .bool odd, .int .u64 (cn : Nat), .slice ca cl cc] 69) = wx at *
        generalize wc.heap.size = cb at *
        go_upto_block 2 with fail
        go_cut [12] (fun gv wv => Hid (StR w wv rb hb i bk u7 u8 gv))
        case first =>
            go_upto_if 96 with fail
            go_cut [96] (fun u wv => u = .bool (decide (d < 4)) ∧ wv = wx)
            case first =>
              have hcs : d = 0 ∨ d = 1 ∨ d = 2 ∨ d = 3 ∨ d = 4 ∨ d = 5 ∨ d = 6 ∨ d = 7 := by omega
              clear hd hr hwd
              rcases hcs with rfl | rfl | rfl | rfl | rfl | rfl | rfl | rfl
              all_goals
                go_wp2
                go_meet
                exact ⟨rfl, rfl⟩
            case rest =>
              obtain ⟨hu, hwx⟩ := hcut
              subst hu
              rw [hwx]
              clear hwx
              obtain ⟨hL, hT, hG⟩ := HG.out
              have hbx := HS.out.bel
              have hsm := hG.is.q.ok.small
              have hn64 : R.now < 2 ^ 64 := by omega
              by_cases hd4 : d < 4
              · have hdd : decide (d < 4) = true := by simpa using hd4
                rw [hdd]
                obtain ⟨v, hv⟩ : ∃ v, vget R.vs R.now = some v := by
                  obtain ⟨x, hx, e⟩ := List.mem_map.1 hG.is.q.ok.now
                  refine ⟨x.2, (vget_iff hG.is.q.ok.keys).2 ?_⟩
                  rw [← e]; exact hx
                have hchl : ch.length = cl := HXo.out.at_.1
                have CNow : Hid (∀ ww, Below wx.heap.size wx ww → Calls Try.prog 24 #[.pointer (some ⟨rb, 0, none⟩)] ww fun e w' => e = .returned (.int .u64 (R.now : Nat)) ∧ ww = w') := fun ww hb => stk_now (HS.out.calm hb)
                have HK : Hid (∀ w' L' R' G H', StK w w' rb hb L' R' G ((cb, .cells #[.int .u8 (op : Nat), .bool odd, .int .u64 (cn : Nat), .slice ca cl cc] 69) :: K1) H' → w'.cell? ⟨cb, 3, none⟩ = some (.slice ca cl cc)) := fun w' L' R' G H' h => by
                  have := h.at (x := (cb, _)) List.mem_cons_self
                  simp [World.cell?, this]
                have CPub : Hid (∀ ww a' cap', Below wx.heap.size wx ww → ww.ownsRow wx.heap.size 83 6 (.slice a' cl cap') cl (ch.flatMap encCh) → Calls Try.prog 27 #[.pointer (some ⟨rb, 0, none⟩), .int .u64 (R.now : Nat), .slice a' cl cap'] ww fun e w' => ∃ n1 a2 len2 cap2 e2, e = .returned (.tuple #[.int .u64 n1, .slice a2 len2 cap2, .int .i64 e2]) ∧ StR w w' rb hb i bk u7 u8 (.slice a2 len2 cap2) ∧ w'.cell? ⟨cb, 3, none⟩ = some (.slice ca cl cc)) := fun ww a' cap' hb hr => by
                  by_cases hval : ∀ x, x ∈ ch → x.val
                  · exact (stk_pub HS.out hG.is.q.ok (by omega) (by omega) hb hr HXo.out.chs (by omega) hval hv).mono fun e w' ⟨a2, len2, cap2, R', G, ys, e1, e2, e3⟩ => ⟨_, a2, len2, cap2, 0, e1, StR.mk0 hG e3 (hG.is.pub e2) (by omega) (by omega), HK.out _ _ _ _ _ e3.1⟩
                  · exact (stk_pub_bad HS.out hb hr HXo.out.chs (by unfold maxLen; omega) hval).mono fun e w' ⟨e1, e3⟩ => ⟨_, none, 0, 0, 2, e1, StR.mk0 hG e3 hG.is (by omega) (by omega), HK.out _ _ _ _ _ e3.1⟩
                have HAt : Hid (∀ o, ChsAt (wx.alloc o).drew ca cl ch ∧ (ca = none → cc = 0)) := fun o => ⟨HXo.out.at_.below (hbx.trans ((((Turned.refl [] wx).alloc o).drew.below).mono hbx.size)), HXo.out.cap⟩
                have HKb : Hid (∀ w', Below wx.heap.size wx w' → w'.cell? ⟨cb, 3, none⟩ = some (.slice ca cl cc)) := fun w' hb => (Turned.of_below hb).cell g3 (by simp)
                have hcl60 : cl ≤ 60 := by omega
                generalize R.now = nw at *
                clear hL hT hG hbx hsm hd4 hdd hv hchl hx60 g0 g2 HG hd hr hwd HK
                go_upto_region 31 with fail
                go_region_held3 (fun w' => w'.cell? ⟨cb, 3, none⟩ = some (.slice ca cl cc)) (first | exact K6.out | exact K5.out | go_keep)
                  (first
                    | (refine step_append_chs (by rfl) _ _ (by rfl) wx.heap.size _ (by rfl) (owns_emptyc wx) ca cl cc ch (by rfl) (HAt.out _).1 (HAt.out (.map #[] 0)).2 (by omega) (le_allocd3 wx _) ?_; intro v5 w5 ho5 hg5; obtain ⟨a5, cap5, rfl, -⟩ := chsAt_of ho5; have O5 := Lib.hid (And.intro ho5 (below_app3 hg5)); have K5 := Lib.hid (HKb.out _ O5.out.2); clear ho5 hg5)
                    | (go_at_call 24; ((with_reducible refine (CNow.out _ ?_).mono ?_); (first | exact O5.out.2 | exact ((Turned.refl [] _).drew).below | exact (((Turned.refl [] _).alloc _).drew).below); rintro e w4 ⟨rfl, rfl⟩))
                    | (go_at_call 27; ((with_reducible refine (CPub.out _ _ _ O5.out.2 O5.out.1).mono ?_); rintro e w6 ⟨n1, a2, len2, cap2, e2, rfl, hs6, hk6⟩; have S6 := Lib.hid hs6; have K6 := Lib.hid hk6; clear hs6 hk6)))
                all_goals
                  go_wp2
                  go_meet
                  exact S6.out
              · have hdd : decide (d < 4) = false := by simpa using hd4
                rw [hdd]
                obtain ⟨q, hq⟩ : ∃ q, cnt H cn = q := ⟨_, rfl⟩
                have hq2 := hG.is.num.get cn
                rw [hq] at hq2
                have hnn := HXo.out.n
                simp only at hnn
                have HK : Hid (∀ w' L' R' G H', StK w w' rb hb L' R' G ((cb, .cells #[.int .u8 (op : Nat), .bool odd, .int .u64 (cn : Nat), .slice ca cl cc] 69) :: K1) H' → w'.cell? ⟨cb, 2, none⟩ = some (.int .u64 (cn : Nat))) := fun w' L' R' G H' h => by
                  have := h.at (x := (cb, _)) List.mem_cons_self
                  simp [World.cell?, this]
                have HLk : Hid (∀ w' L' R' G, StK w w' rb hb L' R' G ((cb, .cells #[.int .u8 (op : Nat), .bool odd, .int .u64 (cn : Nat), .slice ca cl cc] 69) :: K1) H → (Instr.lookup 62 (.map (some hb)) (.int .u64 (cn : Nat)) false).run Try.prog w' = .ok (.int .i64 (q : Nat)) w') := fun w' L' R' G h => by
                  obtain ⟨y, hy⟩ := keyU cn hnn
                  have := h.map.run_look keyedU encU_inj Try.underlying62 (zeroI w') cn hy false
                  rw [if_neg (by simp), hq2.1] at this
                  exact this
                have HKy := Lib.hid (keyU cn hnn)
                have hz : Hid (StR w wx rb hb i bk u7 u8 (.slice none 0 0)) := StR.mk0 hG (⟨HS.out, ⟨rfl, .inl rfl⟩, by decide, List.nodup_nil, fun s hs => by cases hs⟩ : GoneP w wx rb hb L R F _ H none 0 []) hG.is (by omega) (by omega)
                have hqT : q ≤ T := hq2.2
                have hwq : IntKind.i64.wrap ((q : Int) + 1) = (q : Int) + 1 := IntWalk.i64_in _ (by omega)
                have hcs : (d = 4 ∨ d = 5) ∨ d = 6 ∨ d = 7 := by omega
                rcases hcs with hcs | hcs
                · cases hv : vget R.vs cn with
                  | none =>
                    have CH := Lib.hid (stk_hold_no HS.out hnn hv)
                    clear hL hT hG hbx hsm hd4 hdd hx60 g0 g3 HG hd hr hwd HK HLk hq hq2 hwq hqT hv
                    rcases hcs with rfl | rfl
                    all_goals
                      go_wp2_with (first
                        | (go_at_call 26; ((with_reducible refine CH.out.mono ?_); rintro e w5 ⟨rfl, rfl⟩)))
                      go_meet
                      exact hz.out
                  | some v =>
                    have hle : v.held ≤ T := hsm.2 _ (vget_some hv)
                    have CH : Hid (Calls Try.prog 26 #[.pointer (some ⟨rb, 0, none⟩), .int .u64 (cn : Nat)] wx fun e w' => e = .returned (.int .i64 0) ∧ StK w w' rb hb L ⟨vset R.vs cn ⟨v.root, v.held + 1⟩, R.now⟩ F ((cb, .cells #[.int .u8 (op : Nat), .bool odd, .int .u64 (cn : Nat), .slice ca cl cc] 69) :: K1) H ∧ w'.cell? ⟨cb, 2, none⟩ = some (.int .u64 (cn : Nat)) ∧ (Instr.lookup 62 (.map (some hb)) (.int .u64 (cn : Nat)) false).run Try.prog w' = .ok (.int .i64 (q : Nat)) w') := (stk_hold HS.out hnn hv (by omega)).mono fun e w' ⟨e1, e2⟩ => ⟨e1, e2, HK.out _ _ _ _ _ e2, HLk.out _ _ _ _ e2⟩
                    have HE : Hid (∀ w6, StK w w6 rb hb L ⟨vset R.vs cn ⟨v.root, v.held + 1⟩, R.now⟩ F ((cb, .cells #[.int .u8 (op : Nat), .bool odd, .int .u64 (cn : Nat), .slice ca cl cc] 69) :: K1) (mput H cn (.int .i64 ((q : Int) + 1))) → StR w w6 rb hb i bk u7 u8 (.slice none 0 0)) := fun w6 h6 => by
                      have hW := hG.is.hold hv
                      rw [hq, show ((q + 1 : Nat) : Int) = (q : Int) + 1 by omega] at hW
                      exact StR.mk0 hG (⟨h6, ⟨rfl, .inl rfl⟩, by decide, List.nodup_nil, fun s hs => by cases hs⟩ : GoneP w w6 rb hb L _ F _ _ none 0 []) hW (by omega) (by omega)
                    obtain ⟨ky, hky⟩ := HKy.out
                    have HKK := Lib.hid hky
                    clear hL hT hG hbx hsm hd4 hdd hx60 g0 g3 HG hd hr hwd HK HLk hq hq2 hqT hv hle hky HKy
                    rcases hcs with rfl | rfl
                    all_goals
                      go_wp2_with (first
                        | (go_at_call 26; ((with_reducible refine CH.out.mono ?_); rintro e w5 ⟨rfl, hs5, hc5, hl5⟩; have S5 := Lib.hid hs5; clear hs5))
                        | (at_mapUpdate; refine wp_put _ rfl _ _ _ 62 rfl keyedU encU_inj Try.underlying62 hb H rfl S5.out.map cn rfl _ rfl HKK.out ?_; intro w6 hm6 ht6; have S6 := Lib.hid (HE.out _ (S5.out.put ht6 hm6)); clear hm6 ht6 hc5 hl5))
                      go_meet
                      exact S6.out
                · have hlk := HLk.out _ _ _ _ HS.out
                  by_cases hq0 : q = 0
                  · have hd0 : decide ((0 : Int) < (q : Int)) = false := by simp; omega
                    have hd1 : decide (0 < q) = false := by simp; omega
                    clear hL hT hG hbx hsm hd4 hdd hx60 g0 g3 HG hd hr hwd HK HLk hq hq2 hwq hqT hq0
                    rcases hcs with rfl | rfl
                    all_goals
                      go_wp2
                      go_meet
                      exact hz.out
                  · have hd0 : decide ((0 : Int) < (q : Int)) = true := by simp; omega
                    have hd1 : decide (0 < q) = true := by simp; omega
                    have hwm : IntKind.i64.wrap ((q : Int) - 1) = (q : Int) - 1 := IntWalk.i64_in _ (by omega)
                    obtain ⟨v, hv, hvh⟩ := hG.is.q.yes (n := cn) (by rw [hq]; omega)
                    rw [hq] at hvh
                    obtain ⟨hd9, hh9⟩ : ∃ hd9, v.held = hd9 + 1 := ⟨v.held - 1, by omega⟩
                    have hle : v.held ≤ T := hsm.2 _ (vget_some hv)
                    have CR : Hid (∀ w5, StK w w5 rb hb L R F ((cb, .cells #[.int .u8 (op : Nat), .bool odd, .int .u64 (cn : Nat), .slice ca cl cc] 69) :: K1) (mput H cn (.int .i64 ((q : Int) - 1))) → w5.cell? ⟨cb, 2, none⟩ = some (.int .u64 (cn : Nat)) ∧ Calls Try.prog 28 #[.pointer (some ⟨rb, 0, none⟩), .int .u64 (cn : Nat)] w5 fun e w' => ∃ a2 len2 cap2, e = .returned (.tuple #[.slice a2 len2 cap2, .int .i64 0]) ∧ StR w w' rb hb i bk u7 u8 (.slice a2 len2 cap2)) := fun w5 h5 => ⟨HK.out _ _ _ _ _ h5, (stk_rel h5 hG.is.q.ok hG.is.q.fo (by omega) hnn hv hh9 (by omega)).mono fun e w' ⟨a2, len2, cap2, R', G, ys, e1, e2, e3⟩ => by
                      have hW := hG.is.rel hv hh9 (by omega) e2
                      rw [hq, show ((q - 1 : Nat) : Int) = (q : Int) - 1 by omega] at hW
                      exact ⟨a2, len2, cap2, e1, StR.mk0 hG e3 hW (by omega) (by omega)⟩⟩
                    obtain ⟨ky, hky⟩ := HKy.out
                    have HKK := Lib.hid hky
                    clear hL hT hG hbx hsm hd4 hdd hx60 g0 g3 HG hd hr hwd HK HLk hq hq2 hqT hv hle hky HKy hq0 hvh hh9 hwq
                    rcases hcs with rfl | rfl
                    all_goals
                      go_wp2_with (first
                        | (at_mapUpdate; refine wp_put _ rfl _ _ _ 62 rfl keyedU encU_inj Try.underlying62 hb H rfl HS.out.map cn rfl _ rfl HKK.out ?_; intro w5 hm5 ht5; obtain ⟨hc5, hr5⟩ := CR.out _ (HS.out.put ht5 hm5); have C5 := Lib.hid hr5; clear hm5 ht5 hlk g2 hr5)
                        | (go_at_call 28; ((with_reducible refine C5.out.mono ?_); rintro e w6 ⟨a6, len6, cap6, rfl, hs6⟩; have S6 := Lib.hid hs6; clear hs6)))
                      go_meet
                      exact S6.out
        case rest =>
          obtain ⟨L, R, F, T, H, K1, kp, c, ga, glen, gcap, ys, hL, hT, hG, rfl, hsl, hgl, hnd, hdis⟩ := hcut.out
          have CS : Hid (Calls Try.prog 30 #[.pointer (some ⟨rb, 0, none⟩)] wc fun e w' => ∃ a2 len2 cap2, e = .returned (.slice a2 len2 cap2) ∧ Below wc.heap.size wc w' ∧ Calls Try.prog 29 #[.slice ga glen gcap, .slice a2 len2 cap2] w' fun e w9 => e = .returned (.bool false) ∧ Below wc.heap.size wc w9) := (stk_slots hG.mem (by omega)).mono fun e w' ⟨a2, len2, cap2, zs, e1, e2, e3, e4, e5⟩ =>
            ⟨a2, len2, cap2, e1, e5, (some_no ys zs ga a2 glen len2 gcap cap2 w' (hsl.below e5) e3 hgl e4 (fun s hs => (hdis s hs).1) (fun s hs => HasS.ok hG.is.q.fo ((e2.mem s).1 hs)) hnd fun s hs hm => (hdis s hs).2 ((e2.mem s).1 hm)).mono fun e w9 ⟨h1, h2⟩ => ⟨h1, e5.trans (h2.mono e5.size)⟩⟩
          have HE : Hid (∀ w', Below wc.heap.size wc w' → StL w w' rb hb (i + 1) bk 0 u7 u8) := fun w' hb => ⟨L, R, F, T, H, K1, kp, c, hL, by omega, hG.mem.calm hb, hG.is, hG.no, hG.yes⟩
          have hbk := HBk.out
          by_cases hki : k ≤ i
          · have hd0 : decide ((k : Int) ≤ (i : Int)) = true := by simp; omega
            have hd1 : decide (k ≤ i) = true := by simp; omega
            rw [hd1] at hbk
            obtain ⟨kn, la, lcap, rfl, hkv, hlv, hro⟩ := hG.yes hbk.symm
            obtain ⟨v, hv, hm⟩ := hG.is.lst kn rfl
            have hcl : c.length ≤ 1048576 := by
              have : c.length ≤ 4096 := by rw [← hm]; exact allL_len _ _
              omega
            have hkn64 : kn < 2 ^ 64 := by
              have h1 := hG.is.q.ok.le kn (List.mem_map_of_mem (f := (·.1)) (vget_some hv))
              have h2 := hG.is.q.ok.small.1
              omega
            have CA : Hid (∀ ww, Below wc.heap.size wc ww → Calls Try.prog 25 #[.pointer (some ⟨rb, 0, none⟩), .int .u64 (kn : Nat)] ww fun e w' => ∃ a2 cap2, e = .returned (.tuple #[.slice a2 c.length cap2, .int .i64 0]) ∧ Below wc.heap.size wc w' ∧ Calls Try.prog 14 #[.slice a2 c.length cap2, .slice la c.length lcap] w' fun e w9 => e = .returned (.bool true) ∧ Below wc.heap.size wc w9) := fun ww hb => by
              have := stk_all (hG.mem.calm hb) hG.is.q.ok (by omega) hkn64 hv
              rw [hm] at this
              refine this.mono fun e w' ⟨a2, n2, cap2, e0, e1, e2, e3⟩ => ?_
              subst e0
              obtain ⟨_, _, e14, h14, _⟩ := sl5_of_owns e2
              simp only [Value.slice.injEq] at e14
              obtain ⟨rfl, -, rfl⟩ := e14
              have hb2 := hb.trans (e3.mono hb.size)
              have hro2 : w'.ownsRow w.heap.size 43 5 u8 c.length (flatP c) := hro.row w' fun x hx => (Turned.of_below hb2).at (hG.mem.at hx) (by simp)
              rw [hlv] at hro2
              obtain ⟨_, _, e15, h15, _⟩ := sl5_of_owns hro2
              simp only [Value.slice.injEq] at e15
              obtain ⟨rfl, -, rfl⟩ := e15
              refine ⟨_, _, e1, hb2, ?_⟩
              have h9 := same_pairs c c _ _ _ _ cap2 lcap w' h14 h15 hcl hcl
              rw [decide_eq_true (rfl : c = c)] at h9
              exact h9.mono fun e w9 ⟨h1, h2⟩ => ⟨h1, hb2.trans (h2.mono hb2.size)⟩
            have hb1 : decide (k < i + 1) = bk := by rw [← hbk]; simp; omega
            have HB1 := Lib.hid hb1
            generalize c.length = cl9 at *
            obtain rfl := hkv
            obtain rfl := hlv
            clear hbk hL hT hG hsl hgl hnd hdis hro hv hm hcl hkn64 hcut HG HS HXo hd hr hwd g0 g2 g3 hx60 hb1 hd8
            go_wp2_with (first
              | (go_at_call 30; ((with_reducible refine CS.out.mono ?_); rintro e w5 ⟨a5, n5, cap5, rfl, hb5, hc5⟩; have C5 := Lib.hid hc5; clear hc5 CS))
              | (go_at_call 29; ((with_reducible refine C5.out.mono ?_); rintro e w6 ⟨rfl, hb6⟩; have B6 := Lib.hid hb6; clear hb6 C5 hb5))
              | (go_at_call 25; ((with_reducible refine (CA.out _ B6.out).mono ?_); rintro e w7 ⟨a7, cap7, rfl, hb7, hc7⟩; have C7 := Lib.hid hc7; clear hc7 hb7 CA))
              | (go_at_call 14; ((with_reducible refine C7.out.mono ?_); rintro e w8 ⟨rfl, hb8⟩; have B8 := Lib.hid hb8; clear hb8 C7)))
            go_roundw
            case rel => exact ⟨i + 1, by omega, by go_num, by rw [HB1.out]; exact HE.out _ B8.out⟩
            case measure => simp [intOf]; omega
          · have hd0 : decide ((k : Int) ≤ (i : Int)) = false := by simp; omega
            have hd1 : decide (k ≤ i) = false := by simp; omega
            rw [hd1] at hbk
            have hb1 : decide (k < i + 1) = bk := by rw [← hbk]; simp; omega
            have HB1 := Lib.hid hb1
            clear hbk hL hT hG hsl hgl hnd hdis hcut HG HS HXo hd hr hwd g0 g2 g3 hx60 hb1 hd8 hki
            go_wp2_with (first
              | (go_at_call 30; ((with_reducible refine CS.out.mono ?_); rintro e w5 ⟨a5, n5, cap5, rfl, hb5, hc5⟩; have C5 := Lib.hid hc5; clear hc5 CS))
              | (go_at_call 29; ((with_reducible refine C5.out.mono ?_); rintro e w6 ⟨rfl, hb6⟩; have B6 := Lib.hid hb6; clear hb6 C5 hb5)))
            go_roundw
            case rel => exact ⟨i + 1, by omega, by go_num, by rw [HB1.out]; exact HE.out _ B6.out⟩
            case measure => simp [intOf]; omega
end Go.Proofs.Ytmpbhoijkcanmaa.R

/- Roots: calls that are handed in, read as a list. -/
namespace Go.Proofs.Ytmpbhoijkcanmaa.R
open Go.ChangeShapes Go.WideShapes Go.ChangeAt Go.RowKit Go.Maps Go.Proofs.Ytmpbhoijkcanmaa.G Go.Deep Go.Joins
set_option linter.unusedVariables false
set_option linter.unusedSimpArgs false
set_option linter.unnecessarySimpa false

theorem mem_weightsAll {H : Type} {P : Program} {e : TypeId} {x : DataW H} {l : List (DataW H)} {z : Nat} (hx : x ∈ l) (hz : z ∈ x.weights P e) : z ∈ DataW.weightsAll P e l := by
  induction l with
  | nil => cases hx
  | cons d r ih =>
    rw [DataW.weightsAll]
    rcases List.mem_cons.1 hx with rfl | hx
    · exact List.mem_append.2 (.inl hz)
    · exact List.mem_append.2 (.inr (ih hx))
theorem weights_slice {H : Type} {P : Program} {t e : TypeId} (ht : P.underlying t = some (.slice e)) (elems spare : List (DataW H)) : DataW.weights P t (.slice elems spare) = (elems.length + spare.length) * P.bytesOf e :: (DataW.weightsAll P e elems ++ DataW.weightsAll P e spare) := by
  rw [DataW.weights]; simp only [ht]
/-- a slice that is handed in, each element's reach told -/
theorem rows_ofW {α : Type} [Inhabited α] {P : Program} {H : Type} {encd : TypeId × Value → H} {W : World} {base : Nat} {spare : Nat → Bool} {held : Bool} {t e : TypeId} {sz : Nat} (hsz : 0 < sz) (enc : α → List Value) (hlen : ∀ x, (enc x).length = sz) (ok : α → Prop)
    (ht : P.underlying t = some (.slice e)) (hc : P.cellsOf e = sz)
    (elem : ∀ (n : Nat) (cs : List Value) (y : DataW H × List MemPlace), cs.length = sz → DataW.trod encd P W base spare held n e cs = some y → (∀ z, z ∈ y.1.weights P e → z ≤ reachBytes) → ∃ x, ok x ∧ cs = enc x)
    {a : Option Addr} {len cap fuel : Nat} {y : DataW H × List MemPlace} (h : DataW.trod encd P W base spare held fuel t [.slice a len cap] = some y) (hw : ∀ z, z ∈ y.1.weights P t → z ≤ reachBytes) : ∃ l, RowsAt W sz enc a len l ∧ (∀ x ∈ l, ok x) ∧ len ≤ maxLen ∧ len ≤ cap := by
  rcases open_slice ht h with ⟨e, _⟩ | ⟨x, l, c, m, n, D, Pl, e, hb, hl, hm, hmm, hy, hx⟩
  · simp at e; obtain ⟨rfl, rfl, rfl⟩ := e
    exact ⟨[], ⟨rfl, .inl rfl⟩, by simp, by decide, by omega⟩
  · simp at e; obtain ⟨rfl, rfl, rfl⟩ := e
    have hlm : len ≤ m := by rw [hmm]; split <;> omega
    rw [hy] at hw
    simp only [weights_slice ht] at hw
    have key : ∀ i, i < len → ∃ t : α, ok t ∧ ∀ j u, (enc t)[j]? = some u → W.cell? ((x.add (i * sz)).add j) = some u := by
      intro i hi
      obtain ⟨cs, h1, h2⟩ := hx i (by omega)
      rw [hc] at h1
      obtain ⟨hcl, hcg⟩ := cells_read h1
      obtain ⟨t, hok, rfl⟩ := elem _ _ _ hcl h2 fun z hz => hw z (List.mem_cons_of_mem _ (List.mem_append.2 (.inl (mem_weightsAll (List.mem_map.2 ⟨i, by simpa using hi, rfl⟩) hz))))
      refine ⟨t, hok, fun j u hu => ?_⟩
      have hj : j < sz := by
        rcases Nat.lt_or_ge j sz with h | h
        · exact h
        · rw [List.getElem?_eq_none (by rw [hlen]; exact h)] at hu; cases hu
      rw [hcg j hj]; exact hu
    obtain ⟨V, hV⟩ := choose_lt key
    refine ⟨(List.range len).map V, ⟨by simp, ?_⟩, ?_, by omega, by omega⟩
    · by_cases h0 : len = 0
      · exact .inl h0
      · right
        have hl0 : 0 < (enc (V 0)).length := by rw [hlen]; exact hsz
        have h00 := (hV 0 (by omega)).2 0 _ (List.getElem?_eq_getElem hl0)
        have hs := spot_none h00
        obtain ⟨b, off, sp⟩ := x
        have hs' : sp = none := by
          have : ((⟨b, off, sp⟩ : Addr).add (0 * sz)).add 0 = ⟨b, off, sp⟩ := by simp [Addr.add]
          rw [this] at hs; exact hs
        subst hs'
        refine ⟨b, off, rfl, lt_of_cell (by simpa [Addr.add] using h00), fun i hi j u hu => ?_⟩
        simp only [List.getElem_map, List.getElem_range] at hu
        have := (hV i (by simpa using hi)).2 j u hu
        rw [addr_add_none, addr_add_none] at this
        exact this
    · intro t ht
      obtain ⟨i, hi, rfl⟩ := List.mem_map.1 ht
      exact (hV i (by simpa using hi)).1
theorem none_cap2 {P : Program} {H : Type} {encd : TypeId × Value → H} {W : World} {base : Nat} {spare : Nat → Bool} {held : Bool} {t e : TypeId} {fuel : Nat} {a : Option Addr} {len cap : Nat} {y : DataW H × List MemPlace} (ht : P.underlying t = some (.slice e)) (h : DataW.trod encd P W base spare held fuel t [.slice a len cap] = some y) : a = none → cap = 0 := fun ha => by
  rcases Go.Deep.open_slice ht h with ⟨e, _⟩ | ⟨x, l, c, m, n, D, Pl, e, _⟩
  · simp at e; exact e.2.2
  · simp at e; rw [ha] at e; exact absurd e.1 (by simp)
section
variable {H : Type} {enc : TypeId × Value → H} {w : World} {base : Nat} {spare : Nat → Bool} {held : Bool}
theorem call_trod {fuel : Nat} {cs : List Value} {y : DataW H × List MemPlace} (hl : cs.length = 4) (h : DataW.trod enc Try.prog w base spare held fuel 69 cs = some y) (hw : ∀ z, z ∈ y.1.weights Try.prog 69 → z ≤ reachBytes) : ∃ x : CallD, x.ok w ∧ cs = encCall x := by
  have e1 : Try.prog.cellsOf 5 = 1 := by kernel_rfl
  have e2 : Try.prog.cellsOf 4 = 1 := by kernel_rfl
  have e3 : Try.prog.cellsOf 61 = 1 := by kernel_rfl
  have e4 : Try.prog.cellsOf 67 = 1 := by kernel_rfl
  have e5 : Try.prog.bytesOf 83 = 48 := by kernel_rfl
  obtain ⟨c0, c1, c2, c3, rfl⟩ : ∃ c0 c1 c2 c3, cs = [c0, c1, c2, c3] := by
    match cs, hl with
    | [c0, c1, c2, c3], _ => exact ⟨c0, c1, c2, c3, rfl⟩
  obtain ⟨y0, y1, y2, y3, n, rfl, _, h0, h1, h2, h3⟩ := trod_struct4 Try.underlying69 h
  simp only [e1, e2, e3, e4, List.drop_zero, List.drop_succ_cons, List.take_succ_cons, List.take_zero] at h0 h1 h2 h3
  obtain ⟨p, k0, rfl, w0⟩ := DataW.trod_int Try.underlying5 h0
  obtain ⟨g, k1, _⟩ := DataW.trod_bool Try.underlying4 h1
  obtain ⟨m, k2, rfl, w2⟩ := DataW.trod_int Try.underlying61 h2
  simp only [List.cons.injEq, and_true] at k0 k1 k2
  have b0 := bounds_u8 w0
  obtain ⟨pn, rfl⟩ : ∃ pn : Nat, p = pn := ⟨p.toNat, by omega⟩
  have hw2 := w2
  simp [Lit.wf, IntKind.min, IntKind.max, IntKind.signed, IntKind.bits] at hw2
  obtain ⟨mn, rfl⟩ : ∃ mn : Nat, m = mn := ⟨m.toNat, by omega⟩
  have hw3 : ∀ z, z ∈ y3.1.weights Try.prog 67 → z ≤ reachBytes := fun z hz => hw z (by
    rw [DataW.weights]
    simp only [Try.underlying69]
    simp [DataW.weightsEach, hz])
  obtain ⟨a, len, cap, rfl⟩ : ∃ a len cap, c3 = .slice a len cap := by
    rcases open_slice Try.underlying67 h3 with ⟨e, _⟩ | ⟨x, l, c, m, n, D, Pl, e, _⟩
    · simp at e; exact ⟨_, _, _, e⟩
    · simp at e; exact ⟨_, _, _, e⟩
  obtain ⟨l, l1, l2, l3, l4⟩ := chgs_of h3
  have hcap := none_cap2 Try.underlying67 h3
  have hlen : len ≤ 4398046511104 := by
    rcases open_slice Try.underlying67 h3 with ⟨e, _⟩ | ⟨x, l', c, m', n', D, Pl, e, hb, hl', hm, hmm, hy, hx⟩
    · simp at e; omega
    · simp at e; obtain ⟨rfl, rfl, rfl⟩ := e
      rw [hy] at hw3
      simp only [weights_slice Try.underlying67, e5] at hw3
      have := hw3 _ List.mem_cons_self
      simp at this
      unfold reachBytes at this
      omega
  exact ⟨⟨pn, g, mn, a, len, cap, l⟩, ⟨by simp only; omega, by simp only; omega, l1, l2, hcap, hlen⟩, by rw [k0, k1, k2]; rfl⟩
theorem calls_of {fuel : Nat} {a : Option Addr} {len cap : Nat} {y : DataW H × List MemPlace} (h : DataW.trod enc Try.prog w base spare held fuel 57 [.slice a len cap] = some y) (hw : ∀ z, z ∈ y.1.weights Try.prog 57 → z ≤ reachBytes) : ∃ l, CallsAt w a len l ∧ (∀ x ∈ l, x.ok w) ∧ len ≤ maxLen ∧ len ≤ cap :=
  rows_ofW (by omega) encCall (fun _ => rfl) (CallD.ok w) Try.underlying57 (by kernel_rfl) (fun _ _ _ => call_trod) h hw
end
end Go.Proofs.Ytmpbhoijkcanmaa.R

/- Versions: one that is held stays as it was, whatever is published, held and let go; a slot goes just once, and not as long as a version has it; behind all that only the newest version is there, and its slots. Any calls, whenever the held one is held. No condition. -/
namespace Go.Proofs.Ytmpbhoijkcanmaa.rootsStay
open Go.ChangeShapes Go.WideShapes Go.ChangeAt Go.RowKit Go.Joins
set_option linter.unusedVariables false

theorem own : ownKnob Try.prog.godebug = none := by kernel_rfl

set_option maxRecDepth 100000 in
theorem lifted (os : Os) (started : os.Started) (H : Type) (enc : TypeId × Value → H) :
    ReturnsInHanded {} Try.checked os 7 .any (Rows.rootsStaySpec.pre6 enc Try.prog Try.f7 Rows.rootsStayRow.domain false) (Rows.rootsStaySpec.post enc Try.prog Try.f7 false true false false) := by
  refine returnsInHanded_of_change_sized (C := Try.checked) own started (by kernel_rfl) Try.func7
    (ChangeSpec.witness6 (enc := enc) (C := Try.checked) false ⟨#[], #[.slice none 0 0, .int .u8 0], []⟩ 8 (by kernel_rfl) (by kernel_rfl) (by kernel_rfl) (by kernel_rfl)) ?_
  intro W base args ds gs before hval0 hW hcnd hsz _
  have hval : ∀ (j : Nat) t v, Try.f7.params[j]? = some t → args[j]? = some v → Value.okWide Try.prog W .any base t v := hval0
  have hW' := hW
  obtain ⟨p, q, hA0, hV, rfl, hfz, hnd⟩ := hW
  have hA : DataW.TrodAll enc Try.prog W 0 (fun _ => true) true Try.f7.params.toList args.toList ds p := hA0
  rw [Try.params7] at hA hval
  obtain ⟨v0, vs0, d0, ds0, p0, q0, hargs, rfl, rfl, h0, r0⟩ := trodAll_cons hA
  obtain ⟨v1, vs1, d1, ds1, p1, q1, rfl, rfl, rfl, h1, r1⟩ := trodAll_cons r0
  obtain ⟨rfl, rfl, rfl⟩ := trodAll_nil r1
  obtain rfl : args = #[v0, v1] := by cases args; simp_all
  obtain ⟨rfl, rfl⟩ := trodVars_none hV
  obtain ⟨a0, len0, cap0, rfl⟩ := okWide_slice Try.underlying57 (hval 0 57 v0 rfl rfl)
  have k0 := h0
  have lt0 : ∀ x ∈ p0, x.block < W.heap.size := by obtain ⟨m, hm⟩ := k0; exact DataW.trod_lt m _ _ _ hm
  obtain ⟨l0, l0a, l0o, l0m, _⟩ : ∃ l, R.CallsAt W a0 len0 l ∧ (∀ x ∈ l, x.ok W) ∧ len0 ≤ maxLen ∧ len0 ≤ cap0 := by
    obtain ⟨fuel, hf⟩ := h0
    refine R.calls_of hf fun z hz => ?_
    have := List.all_eq_true.1 hsz z (DataW.weights_mem_each (j := 0) (t := 57) (d := d0) rfl rfl z hz)
    simpa using this
  obtain ⟨a1, rfl, rfl, rfl, w1⟩ := open_int Try.underlying5 (hval 1 5 v1 rfl rfl) h1
  have b1 := w1
  simp [Lit.wf, IntKind.min, IntKind.max, IntKind.signed, IntKind.bits] at b1
  obtain ⟨n1, rfl⟩ : ∃ n : Nat, a1 = n := ⟨a1.toNat, by omega⟩
  clear hA0 hval0
  simp only [List.append_nil] at hW'
  refine (R.rstay_law a0 len0 cap0 n1 l0 W l0a l0o l0m (by omega)).mono fun e W' ⟨he, bel⟩ => ?_
  subst he
  exact ⟨_, rfl, _, _, _, [], _, [], hW', trodAll_mk1 (shut_bool Try.underlying4 _), (trodAll_cons_mk (Below.trod R.laidOut (by kernel_rfl) (of_decide_eq_true (by kernel_rfl)) k0 bel lt0) (trodAll_cons_mk (shut_int Try.underlying5 w1) trodAll_mk0)), rfl, bel.frame _, fun h => by cases h⟩

theorem over : Rows.rootsStayRow.holds Try.pinned (OpenSpec.ofChange Rows.rootsStaySpec) :=
  OpenClaim.holds_of_wide 7 Try.f7 rfl rfl rfl rfl rfl rfl rfl ⟨rfl, rfl, rfl, rfl, rfl⟩ rfl rfl rfl rfl rfl (by kernel_rfl) Try.func7 (by kernel_rfl)
    (of_decide_eq_true (by kernel_rfl)) (by unfold Func.isWrapper; first | (rw [if_pos (by decide +kernel)]; kernel_rfl) | (rw [if_neg (by decide +kernel)]; exact ⟨rfl, rfl⟩))
    (fun os started H enc _ => lifted os started H enc)

theorem proved : Rows.RootsStaySaid :=
  over
#print axioms proved
end Go.Proofs.Ytmpbhoijkcanmaa.rootsStay
