/- Versions: one in which nothing is changed shares all its nodes and lets no slot go; changes that are all told at once, of unlike pages, make the same map as one by one; numbers rise one by one. Any changes ahead, any changes. No condition. -/
import Derived.Test.YtmpbhoijkcanmaaRows
import Derived.WalkKit
import Derived.ProofKit
import Derived.OpenShut
import Derived.Below
import Derived.ChangeOld
import Derived.Lib.SmallJoins
import Derived.Test.YtmpbhoijkcanmaaQ14

/- Roots: nothing changed, or all told at once: the walk. -/
namespace Go.Proofs.Ytmpbhoijkcanmaa.R
open Go.ChangeShapes Go.WideShapes Go.ChangeAt Go.RowKit Go.Maps Go.Proofs.Ytmpbhoijkcanmaa.G
set_option linter.unusedVariables false
set_option linter.unusedSimpArgs false
set_option linter.unnecessarySimpa false

theorem none_cap {P : Program} {H : Type} {encd : TypeId × Value → H} {W : World} {base : Nat} {spare : Nat → Bool} {held : Bool} {t e : TypeId} {fuel : Nat} {a : Option Addr} {len cap : Nat} {y : DataW H × List MemPlace} (ht : P.underlying t = some (.slice e)) (h : DataW.trod encd P W base spare held fuel t [.slice a len cap] = some y) : a = none → cap = 0 := fun ha => by
  rcases Go.Deep.open_slice ht h with ⟨e, _⟩ | ⟨x, l, c, m, n, D, Pl, e, _⟩
  · simp at e; exact e.2.2
  · simp at e; rw [ha] at e; exact absurd e.1 (by simp)
theorem zeroBo (w : World) : (zeroValue 4).run Try.prog w = .ok (.bool false) w := by kernel_rfl
/-- the pages seen so far -/
def PgIs (w : World) (bm : Nat) (l : List ChD) (i : Nat) : Prop := ∃ M, MapIs Try.prog 3 encI w bm M ∧ ((l.take i).map ChD.page).Nodup ∧ (∀ x, x ∈ l.take i → x.val) ∧ ∀ p : Int, mget M p = if p ∈ (l.take i).map ChD.page then some (.bool true) else none
theorem PgIs.look {w : World} {bm i : Nat} {l : List ChD} (h : PgIs w bm l i) {p : Int} (hp : I64 p) : (Instr.lookup 54 (.map (some bm)) (.int .i64 p) false).run Try.prog w = .ok (.bool (decide (p ∈ (l.take i).map ChD.page))) w := by
  obtain ⟨M, hM, _, _, hm⟩ := h
  obtain ⟨k, hk⟩ := keyI p hp
  have := hM.run_look keyedI encI_inj Try.underlying54 (zeroBo w) p hk false
  rw [hm] at this
  have e : ((if p ∈ (l.take i).map ChD.page then some (Value.bool true) else none).getD (.bool false)) = .bool (decide (p ∈ (l.take i).map ChD.page)) := by split <;> simp_all
  rw [if_neg (by simp), e] at this
  exact this
theorem PgIs.put {w' : World} {bm i : Nat} {l : List ChD} {c : ChD} (hc : l[i]? = some c) (hv : c.val) (hn : c.page ∉ (l.take i).map ChD.page) {M : List (Int × Value)} (h1 : ((l.take i).map ChD.page).Nodup) (h2 : ∀ x, x ∈ l.take i → x.val) (h3 : ∀ p : Int, mget M p = if p ∈ (l.take i).map ChD.page then some (.bool true) else none) (hM : MapIs Try.prog 3 encI w' bm (mput M c.page (.bool true))) : PgIs w' bm l (i + 1) := by
  have e := take_snoc hc
  refine ⟨_, hM, ?_, fun x hx => ?_, fun p => ?_⟩
  · rw [e, List.map_append, List.nodup_append]
    exact ⟨h1, by simp, fun x hx y hy exy => hn (by simp at hy; rw [← hy, ← exy]; exact hx)⟩
  · rw [e] at hx
    rcases List.mem_append.1 hx with hx | hx
    · exact h2 x hx
    · simp at hx; subst hx; exact hv
  · rw [look_put, h3, e, List.map_append]
    by_cases hp : p = c.page
    · rw [if_pos hp, if_pos (by simp [hp])]
    · rw [if_neg hp]
      have : p ∈ (l.take i).map ChD.page ++ [c].map ChD.page ↔ p ∈ (l.take i).map ChD.page := by simp [hp]
      simp only [this]
theorem rev_take {l : List ChD} {n j : Nat} (h : l.length = n) {c : ChD} (hj : j < n) (hc : l[n - 1 - j]? = some c) : l.reverse.take (j + 1) = l.reverse.take j ++ [c] := by
  refine take_snoc ?_
  rw [List.getElem?_reverse (by omega), h]
  exact hc
theorem chgs_app (g : Nat → Option Ent) (l l' : List ChD) : chgs (chgs g l) l' = chgs g (l ++ l') := by unfold chgs; rw [List.foldl_append]
theorem owns_le {w : World} {base n sz : Nat} {t : TypeId} {v : Value} {xs : List Value} (h : w.ownsRow base t sz v n xs) : n ≤ maxLen := by
  rcases h.2 with ⟨_, rfl⟩ | ⟨g, cap, cur, _, _, _, h1, h2, _⟩
  · decide
  · omega
set_option maxRecDepth 100000 in
set_option maxHeartbeats 8000000 in
theorem rsame_law (a b : Option Addr) (n m cap capb : Nat) (ah l : List ChD) (w : World) (ha : ChsAt w a n ah) (hao : ∀ x, x ∈ ah → x.ok) (hca : a = none → cap = 0) (hb : ChsAt w b m l) (hbo : ∀ x, x ∈ l → x.ok) (hcb : b = none → capb = 0) (hn : n ≤ maxLen) (hm : m ≤ maxLen) :
    Calls Try.prog 9 #[.slice a n cap, .slice b m capb] w fun e w' => e = .returned (.bool true) ∧ Below w.heap.size w w' := by
  have HAl := Lib.hid alive24
  have HB0 := Lib.hid (Below.refl w.heap.size w)
  unfold maxLen at hn hm
  by_cases hlen : 30 < n ∨ 12 < m
  · have hd : decide ((30 : Int) < n) = true ∨ (decide ((30 : Int) < n) = false ∧ decide ((12 : Int) < m) = true) := by
      simp only [decide_eq_true_eq, decide_eq_false_iff_not]; omega
    clear ha hb hao hbo hlen
    rcases hd with hd | ⟨hd, hd2⟩
    all_goals
      go_enter Try.func9, Try.ntmps9
      go_wp2_with (go_at_call 22; ((with_reducible refine (HAl.out _).mono ?_); rintro e wE ⟨rfl, hb⟩))
      go_ret
      exact ⟨rfl, hb⟩
  have hd : decide ((30 : Int) < n) = false := by simp only [decide_eq_false_iff_not]; omega
  have hd2 : decide ((12 : Int) < m) = false := by simp only [decide_eq_false_iff_not]; omega
  have hn30 : n ≤ 30 := by omega
  have hm12 : m ≤ 12 := by omega
  clear hlen
  have CN := Lib.hid (rnew_fn w (Below.refl w.heap.size w))
  have CN2 : Hid (∀ w1 : World, Calls Try.prog 23 #[] w1 fun e w' => ∃ rb, e = .returned (.pointer (some ⟨rb, 0, none⟩)) ∧ RtM w1 w' rb 0 ro0 fo0 []) := fun w1 => rnew_fn w1 (Below.refl w1.heap.size w1)
  have HA := Lib.hid (And.intro ha (And.intro hao hca))
  have HL := Lib.hid (And.intro hb (And.intro hbo hcb))
  have hal : ah.length = n := ha.1
  have hll : l.length = m := hb.1
  obtain ⟨g1, hg1⟩ : ∃ g1, chgs (fun _ => none) ah = g1 := ⟨_, rfl⟩
  obtain ⟨L1, hL1⟩ : ∃ L1, 0 + 1 + 3 * ah.length = L1 := ⟨_, rfl⟩
  have hL1' : L1 ≤ 1000 := by omega
  clear ha hb hao hbo hca hcb
  have HC1 : Hid (∀ ww : World, Below w.heap.size w ww → ∀ o, ChsAt (ww.alloc o) a n ah ∧ ww.heap.size ≤ (ww.alloc o).heap.size) := fun ww h o => ⟨HA.out.1.below (h.alloc h.size o), by simp⟩
  have HC2 : Hid (∀ ww : World, Below w.heap.size w ww → ∀ o, ChsAt (ww.alloc o) b m l ∧ ww.heap.size ≤ (ww.alloc o).heap.size) := fun ww h o => ⟨HL.out.1.below (h.alloc h.size o), by simp⟩
  go_enter Try.func9, Try.ntmps9
  go_upto_region 6 with (first
    | (go_at_call 23; ((with_reducible refine (CN2.out _).mono ?_); rintro e w2 ⟨rb, rfl, hs⟩; have S0 := Lib.hid (Two.start S00.out hs).swap; clear hs S00 CN2))
    | (go_at_call 23; ((with_reducible refine CN.out.mono ?_); rintro e w1 ⟨ra, rfl, hs⟩; have S00 := Lib.hid hs; clear hs CN)))
  by_cases hval : ∀ x, x ∈ ah → x.val
  rotate_left
  · have PB : Hid (∀ ra rb L R F w2 w3 a3 cap3, Two w w2 ra 0 ro0 fo0 rb L R F [] → Below w2.heap.size w2 w3 → w3.ownsRow w2.heap.size 83 6 (.slice a3 n cap3) n (ah.flatMap encCh) → Calls Try.prog 27 #[.pointer (some ⟨ra, 0, none⟩), .int .u64 0, .slice a3 n cap3] w3 fun e w' => e = .returned (.tuple #[.int .u64 0, .slice none 0 0, .int .i64 2]) ∧ Two w w' ra 0 ro0 fo0 rb L R F []) := fun ra rb L R F w2 w3 a3 cap3 h hb hr => two_pub_bad h hb hr HA.out.2.1 (by unfold maxLen; omega) hval
    have PN : Hid (∀ ra La rb L R F ww, Two w ww ra La ro0 fo0 rb L R F [] → Calls Try.prog 24 #[.pointer (some ⟨ra, 0, none⟩)] ww fun e w' => e = .returned (.int .u64 0) ∧ ww = w') := fun ra La rb L R F ww h => two_now h
    clear hval
    go_wp2_with (first
      | (at_builtin; refine wpList_append_chs rfl _ _ rfl w2.heap.size _ rfl (owns_empty w2 83 6) a n cap ah rfl (HC1.out w2 S0.out.bel _).1 HA.out.2.2 (by omega) (HC1.out w2 S0.out.bel _).2 ?_; intro v3 w3 ho3 hg3; obtain ⟨a3, cap3, rfl, _⟩ := chsAt_of ho3; have O3 := Lib.hid (And.intro ho3 (below_app2 hg3)); clear ho3 hg3)
      | (go_at_call 27; ((with_reducible refine (PB.out _ _ _ _ _ _ _ _ _ S0.out O3.out.2 O3.out.1).mono ?_); rintro e w4 ⟨rfl, hs⟩; have S1 := Lib.hid hs.swap; clear hs S0 O3))
      | (at_builtin; refine wpList_append_chs rfl _ _ rfl w4.heap.size _ rfl (owns_empty w4 83 6) a n cap ah rfl (HC1.out w4 S1.out.bel _).1 HA.out.2.2 (by omega) (HC1.out w4 S1.out.bel _).2 ?_; intro v5 w5 ho5 hg5; obtain ⟨a5, cap5, rfl, _⟩ := chsAt_of ho5; have O5 := Lib.hid (And.intro ho5 (below_app2 hg5)); clear ho5 hg5)
      | (go_at_call 27; ((with_reducible refine (PB.out _ _ _ _ _ _ _ _ _ S1.out O5.out.2 O5.out.1).mono ?_); rintro e w6 ⟨rfl, hs⟩; have S2 := Lib.hid hs.swap; clear hs S1 O5))
      | (go_at_call 24; ((with_reducible refine (PN.out _ _ _ _ _ _ _ S2.out).mono ?_); rintro e w7 ⟨rfl, rfl⟩))
      | (go_at_call 22; ((with_reducible refine (HAl.out _).mono ?_); rintro e wE ⟨rfl, hb⟩; have HE := Lib.hid (S2.out.bel.trans (hb.mono S2.out.bel.size)); clear hb)))
    go_ret
    exact ⟨rfl, HE.out⟩
  have PG : Hid (∀ ra rb L R F w2 w3 a3 cap3, Two w w2 ra 0 ro0 fo0 rb L R F [] → Below w2.heap.size w2 w3 → w3.ownsRow w2.heap.size 83 6 (.slice a3 n cap3) n (ah.flatMap encCh) → Calls Try.prog 27 #[.pointer (some ⟨ra, 0, none⟩), .int .u64 0, .slice a3 n cap3] w3 fun e w' => ∃ a' len' cap' R' G r', e = .returned (.tuple #[.int .u64 1, .slice a' len' cap', .int .i64 0]) ∧ Two w w' ra L1 R' G rb L R F [] ∧ Solo R' G L1 1 1 r' g1) := fun ra rb L R F w2 w3 a3 cap3 h hb hr => by
    have := solo_pub h Solo.start (by omega) (by omega) hb hr HA.out.2.1 (by omega) hval
    rw [hL1, hg1] at this
    exact this.mono fun e w' ⟨a', len', cap', R', G, r', e1, _, e2, e3⟩ => ⟨a', len', cap', R', G, r', e1, e2, e3⟩
  have PN : Hid (∀ ra La Ra Fa rb L R F ww, Two w ww ra La Ra Fa rb L R F [] → Calls Try.prog 35 #[.pointer (some ⟨ra, 0, none⟩)] ww fun e w' => ∃ N : Nat, N = Fa.ids.length ∧ e = .returned (.int .i64 N) ∧ ww = w') := fun ra La Ra Fa rb L R F ww h => (two_nodes h).mono fun e w' ⟨h1, h2⟩ => ⟨_, rfl, h1, h2⟩
  have PE : Hid (∀ ra Ra Fa r rb L R F w2 N, Two w w2 ra L1 Ra Fa rb L R F [] → Solo Ra Fa L1 1 1 r g1 → N = Fa.ids.length → Calls Try.prog 27 #[.pointer (some ⟨ra, 0, none⟩), .int .u64 1, .slice none 0 0] w2 fun e w' => ∃ a' cap' R' G r', e = .returned (.tuple #[.int .u64 2, .slice a' 0 cap', .int .i64 0]) ∧ Two w w' ra (L1 + 1) R' G rb L R F [] ∧ Solo R' G (L1 + 1) 2 2 r' g1 ∧ N = G.ids.length) := fun ra Ra Fa r rb L R F w2 N h hs hN => by
    have := solo_pub (l := []) (a := none) (len := 0) (cap := 0) h hs (by omega) (by omega) (Below.refl _ w2) ⟨rfl, .inl ⟨rfl, rfl⟩⟩ (fun x hx => absurd hx (by simp)) (by omega) (fun x hx => absurd hx (by simp))
    refine this.mono fun e w' ⟨a', len', cap', R', G, r', e1, e2, e3, e4⟩ => ?_
    obtain ⟨rfl, e5⟩ := e2 rfl
    exact ⟨a', cap', R', G, r', e1, e3, e4, hN.trans e5.symm⟩
  obtain ⟨L3, hL3⟩ : ∃ L3, L1 + 1 + 1 + 3 * l.length = L3 := ⟨_, rfl⟩
  have hL3' : L3 ≤ 2000 := by omega
  have PC : Hid (∀ ra Ra Fa r rb L R F w2 w3 a3 cap3, Two w w2 ra (L1 + 1) Ra Fa rb L R F [] → Solo Ra Fa (L1 + 1) 2 2 r g1 → (∀ x, x ∈ l → x.val) → Below w2.heap.size w2 w3 → w3.ownsRow w2.heap.size 83 6 (.slice a3 m cap3) m (l.flatMap encCh) → Calls Try.prog 27 #[.pointer (some ⟨ra, 0, none⟩), .int .u64 2, .slice a3 m cap3] w3 fun e w' => ∃ a' len' cap' R' G r', e = .returned (.tuple #[.int .u64 3, .slice a' len' cap', .int .i64 0]) ∧ Two w w' ra L3 R' G rb L R F [] ∧ Solo R' G L3 3 3 r' (chgs g1 l)) := fun ra Ra Fa r rb L R F w2 w3 a3 cap3 h hs hval hb hr => by
    have := solo_pub h hs (by omega) (by omega) hb hr HL.out.2.1 (by omega) hval
    rw [hL3] at this
    exact this.mono fun e w' ⟨a', len', cap', R', G, r', e1, _, e2, e3⟩ => ⟨a', len', cap', R', G, r', e1, e2, e3⟩
  have hmm := @run_makeMap Try.prog
  clear hval
  go_upto_region 15 with (first
      | (at_builtin; refine wpList_append_chs rfl _ _ rfl w2.heap.size _ rfl (owns_empty w2 83 6) a n cap ah rfl (HC1.out w2 S0.out.bel _).1 HA.out.2.2 (by omega) (HC1.out w2 S0.out.bel _).2 ?_; intro v3 w3 ho3 hg3; obtain ⟨a3, cap3, rfl, _⟩ := chsAt_of ho3; have O3 := Lib.hid (And.intro ho3 (below_app2 hg3)); clear ho3 hg3)
      | (go_at_call 27; ((with_reducible refine (PG.out _ _ _ _ _ _ _ _ _ S0.out O3.out.2 O3.out.1).mono ?_); rintro e w4 ⟨a4, n4, cap4, Ra1, Fa1, r1, rfl, hs, hso⟩; have S1 := Lib.hid hs.swap; have So1 := Lib.hid hso; clear hs hso S0 O3))
      | (at_builtin; refine wpList_append_chs rfl _ _ rfl w4.heap.size _ rfl (owns_empty w4 83 6) a n cap ah rfl (HC1.out w4 S1.out.bel _).1 HA.out.2.2 (by omega) (HC1.out w4 S1.out.bel _).2 ?_; intro v5 w5 ho5 hg5; obtain ⟨a5, cap5, rfl, _⟩ := chsAt_of ho5; have O5 := Lib.hid (And.intro ho5 (below_app2 hg5)); clear ho5 hg5)
      | (go_at_call 27; ((with_reducible refine (PG.out _ _ _ _ _ _ _ _ _ S1.out O5.out.2 O5.out.1).mono ?_); rintro e w6 ⟨a6, n6, cap6, Rb1, Fb1, s1, rfl, hs, hso⟩; have S2 := Lib.hid hs.swap; have So2 := Lib.hid hso; clear hs hso S1 O5))
      | (go_at_call 35; ((with_reducible refine (PN.out _ _ _ _ _ _ _ _ _ S2.out).mono ?_); rintro e w7 ⟨N, hN, rfl, rfl⟩; have HN := Lib.hid hN; clear hN))
      | (go_at_call 27; ((with_reducible refine (PE.out _ _ _ _ _ _ _ _ _ _ S2.out So1.out HN.out).mono ?_); rintro e w8 ⟨a8, cap8, Ra2, Fa2, r2, rfl, hs, hso, hN⟩; have S3 := Lib.hid hs; have So3 := Lib.hid hso; have CN3 : Hid (Calls Try.prog 35 #[.pointer (some ⟨ra, 0, none⟩)] w8 fun e w' => e = .returned (.int .i64 N) ∧ w8 = w') := (by have := two_nodes hs; rw [← hN] at this; exact this); clear hs hso hN S2 So1))
      | (go_at_call 35; ((with_reducible refine CN3.out.mono ?_); rintro e w9 ⟨rfl, rfl⟩; clear CN3)))
  have hmap0 : MapIs Try.prog 3 encI (w8.alloc (.map #[] 0)) w8.heap.size ([] : List (Int × Value)) := MapIs.made w8
  have HB8 : Hid (Below w8.heap.size w8 (w8.alloc (.map #[] 0))) := ((Turned.refl [] w8).alloc _).below
  have HP0 : Hid (PgIs (w8.alloc (.map #[] 0)) w8.heap.size l 0) := ⟨[], hmap0, by simp, by simp, fun p => by simp [mget]⟩
  have HS8 : Hid (w8.heap.size = w8.heap.size) := rfl
  generalize w8.alloc (.map #[] 0) = w10 at *
  obtain ⟨bm, hbm⟩ : ∃ bm, w8.heap.size = bm := ⟨_, rfl⟩
  have HBM : Hid (w8.heap.size ≤ bm) := Nat.le_of_eq hbm
  rw [hbm] at HP0
  rw [hbm]
  clear hmap0 HS8 hd hd2 hbm HC1 HA PG PE PN HN
  go_wp2
  go_loopw [18] (fun v wr => ∃ i : Nat, i ≤ m ∧ v = .int .i64 i ∧ Hid (PgIs wr bm l i ∧ Below w8.heap.size w8 wr)) (fun v _ => m - (intOf v).toNat)
  case atStart => exact ⟨0, Nat.zero_le _, rfl, HP0.out, HB8.out⟩
  case round =>
    obtain ⟨i, hi, rfl, hB⟩ := hrel
    clear HP0 HB8
    have HW : Hid (Below w.heap.size w wr) := S3.out.bel.trans (hB.out.2.mono S3.out.bel.size)
    by_cases hlt : i < m
    · obtain ⟨pb, poff, x, rfl, hpb, hx, k0, k1, k2, k3, k4, k5⟩ := ChsAt.cells (HL.out.1.below HW.out) i hlt
      have hxo : I64 x.page := (HL.out.2.1 _ (List.mem_of_getElem? hx)).1
      have hlk := hB.out.1.look hxo
      obtain ⟨M, hM, h1, h2, h3⟩ := hB.out.1
      have hne : pb ≠ bm := by
        obtain ⟨b1, o1, _, e1, hb1, _⟩ := RowsAt.at HL.out.1 i hlt
        simp only [Option.some.injEq, Addr.mk.injEq, and_true] at e1
        have := S3.out.bel.size
        have := HBM.out
        omega
      have HPut : Hid (x.val → x.page ∉ (l.take i).map ChD.page → ∀ w5, MapIs Try.prog 3 encI w5 bm (mput M x.page (.bool true)) → Turned [bm] wr w5 → PgIs w5 bm l (i + 1) ∧ Below w8.heap.size w8 w5) := fun hv hnn w5 hm5 ht5 => ⟨PgIs.put hx hv hnn h1 h2 h3 hm5, Turned.below_of hB.out.2 ht5 fun c hc => by simp only [List.mem_singleton] at hc; subst hc; exact HBM.out⟩
      have HKy := Lib.hid (keyI x.page hxo)
      have HMap := Lib.hid hM
      have hvl : x.val ↔ (0 ≤ x.page ∧ x.page < 4096) := Iff.rfl
      obtain ⟨c, hc⟩ : ∃ c, decide (x.page ∈ (l.take i).map ChD.page) = c := ⟨_, rfl⟩
      rw [hc] at hlk
      obtain ⟨pz, ⟨⟨xe, xc, xi⟩, xg⟩, gone⟩ := x
      simp only at k0 hlk hxo hc hvl HPut HKy
      clear k1 k2 k3 k4 k5 hM h1 h2 h3 hx hxo
      by_cases hp0 : pz < 0
      · have hq : decide (pz < 0) = true := by simpa using hp0
        clear hvl hc hp0 HPut HKy HMap
        go_wp2_with (go_at_call 22; ((with_reducible refine (HAl.out _).mono ?_); rintro e wE ⟨rfl, hb⟩; have HE := Lib.hid (HW.out.trans (hb.mono HW.out.size)); clear hb))
        go_ret
        exact ⟨rfl, HE.out⟩
      have hq : decide (pz < 0) = false := by simpa using hp0
      by_cases hp1 : 4096 ≤ pz
      · have hq1 : decide (4096 ≤ pz) = true := by simpa using hp1
        clear hvl hc hp0 hp1 HPut HKy HMap
        go_wp2_with (go_at_call 22; ((with_reducible refine (HAl.out _).mono ?_); rintro e wE ⟨rfl, hb⟩; have HE := Lib.hid (HW.out.trans (hb.mono HW.out.size)); clear hb))
        go_ret
        exact ⟨rfl, HE.out⟩
      have hq1 : decide (4096 ≤ pz) = false := by simpa using hp1
      cases c
      · have hnn := of_decide_eq_false hc
        have HPut2 := Lib.hid (HPut.out (hvl.2 ⟨by omega, by omega⟩) hnn)
        obtain ⟨ky, hky⟩ := HKy.out
        have HKK := Lib.hid hky
        clear hvl hc hp0 hp1 HPut HKy hnn hky
        go_wp2_with (first
          | (at_mapUpdate; refine wp_put _ rfl _ _ _ 54 rfl keyedI encI_inj Try.underlying54 bm M rfl HMap.out _ rfl _ rfl HKK.out ?_; intro w5 hm5 ht5; have H5 := Lib.hid (HPut2.out w5 hm5 ht5); clear hm5 ht5 k0 hlk))
        go_roundw
        case rel => exact ⟨i + 1, by omega, by go_num, H5.out⟩
        case measure => simp [intOf]; omega
      · clear hvl hc hp0 hp1 HPut HKy HMap
        go_wp2_with (go_at_call 22; ((with_reducible refine (HAl.out _).mono ?_); rintro e wE ⟨rfl, hb⟩; have HE := Lib.hid (HW.out.trans (hb.mono HW.out.size)); clear hb))
        go_ret
        exact ⟨rfl, HE.out⟩
    · obtain rfl : i = m := by omega
      have S4 := Lib.hid (S3.out.calm hB.out.2)
      obtain ⟨_, _, hnd, hval, _⟩ := hB.out.1
      rw [List.take_of_length_le (by omega)] at hnd hval
      have HND := Lib.hid hnd
      have HVl := Lib.hid hval
      clear hB HW HBM S3 hlt hnd hval
      go_wp2_with (first
        | (at_builtin; refine wpList_append_chs rfl _ _ rfl wr.heap.size _ rfl (owns_empty wr 83 6) b i capb l rfl (HC2.out wr S4.out.bel _).1 HL.out.2.2 (by omega) (HC2.out wr S4.out.bel _).2 ?_; intro v11 w11 ho11 hg11; obtain ⟨a11, cap11, rfl, _⟩ := chsAt_of ho11; have O11 := Lib.hid (And.intro ho11 (below_app2 hg11)); clear ho11 hg11)
        | (go_at_call 27; ((with_reducible refine (PC.out _ _ _ _ _ _ _ _ _ _ _ _ S4.out So3.out HVl.out O11.out.2 O11.out.1).mono ?_); rintro e w12 ⟨a12, n12, cap12, Ra3, Fa3, r3, rfl, hs, hso⟩; have S5 := Lib.hid hs.swap; have So5 := Lib.hid hso; clear hs hso S4 O11 So3 PC)))
      clear HC2
      go_loopw [22] (fun v wr => ∃ j : Nat, j ≤ i ∧ v = .int .i64 j ∧ Hid (∃ Lb Rb Fb r, Lb ≤ L1 + 4 * j ∧ Two w wr rb Lb Rb Fb ra L3 Ra3 Fa3 [] ∧ Solo Rb Fb Lb (1 + j) (1 + j) r (chgs g1 (l.reverse.take j)))) (fun v _ => i - (intOf v).toNat)
      case atStart => exact ⟨0, Nat.zero_le _, rfl, L1, _, _, _, Nat.le_refl _, S5.out, So2.out⟩
      case round =>
        obtain ⟨j, hj, rfl, hB⟩ := hrel
        clear S5 So2
        obtain ⟨Lb, Rb, Fb, r, hLb, hM, hSo⟩ := hB.out
        by_cases hlt : j < i
        · obtain ⟨ix, hix⟩ : ∃ ix, i - 1 - j = ix := ⟨_, rfl⟩
          obtain ⟨pb, poff, x, rfl, hpb, hx, k0, k1, k2, k3, k4, k5⟩ := ChsAt.cells (HL.out.1.below hM.bel) ix (by omega)
          have hxo := HL.out.2.1 _ (List.mem_of_getElem? hx)
          have hxv := HVl.out _ (List.mem_of_getElem? hx)
          have hsn := rev_take (j := j) hll hlt (by rw [hix]; exact hx)
          have hw1 : IntKind.i64.wrap ((i : Int) - 1) = (i : Int) - 1 := IntWalk.i64_in _ (by omega)
          have hw2 : IntKind.i64.wrap ((i : Int) - 1 - (j : Int)) = (ix : Nat) := by rw [IntWalk.i64_in _ (by omega)]; omega
          have hixl : ix < i := by omega
          have hj1 : ((1 + j : Nat) : Int) = 1 + (j : Int) := by omega
          have hj2 : ((1 + j + 1 : Nat) : Int) = 1 + (j : Int) + 1 := by omega
          have hw3 : IntKind.i64.wrap ((j : Int) + 2) = (j : Int) + 2 := IntWalk.i64_in _ (by omega)
          have hw4 : IntKind.u64.wrap ((j : Int) + 2) = 1 + (j : Int) + 1 := by rw [wrapU]; omega
          have CNw : Hid (∀ ww, Below wr.heap.size wr ww → Calls Try.prog 24 #[.pointer (some ⟨rb, 0, none⟩)] ww fun e w' => e = .returned (.int .u64 (1 + (j : Int))) ∧ ww = w') := fun ww hb => by
            have := two_now (hM.calm hb)
            rw [hSo.now, hj1] at this
            exact this
          have HCl : Hid (∀ w', Below w.heap.size w w' → w'.cell? ⟨pb, poff + ix * 6, none⟩ = some (.int .i64 x.page) ∧ w'.cell? ⟨pb, poff + ix * 6 + 1, none⟩ = some (.int .i64 x.x.s.e) ∧ w'.cell? ⟨pb, poff + ix * 6 + 2, none⟩ = some (.int .i64 x.x.s.c) ∧ w'.cell? ⟨pb, poff + ix * 6 + 3, none⟩ = some (.int .i64 x.x.s.i) ∧ w'.cell? ⟨pb, poff + ix * 6 + 4, none⟩ = some (.int .i64 x.x.g) ∧ w'.cell? ⟨pb, poff + ix * 6 + 5, none⟩ = some (.bool x.gone)) := fun w' hb => by
            obtain ⟨pb', poff', x', e, hpb', hx', h0⟩ := ChsAt.cells (HL.out.1.below hb) ix (by omega)
            rw [hx] at hx'
            obtain rfl := Option.some.inj hx'
            simp only [Option.some.injEq, Addr.mk.injEq, and_true] at e
            obtain ⟨rfl, rfl⟩ := e
            exact h0
          have CPb : Hid (∀ ww, Below wr.heap.size wr ww → ww.heap[wr.heap.size]? = some (cobj x.page x.x.s.e x.x.s.c x.x.s.i x.x.g x.gone) → Calls Try.prog 27 #[.pointer (some ⟨rb, 0, none⟩), .int .u64 (1 + (j : Int)), .slice (some ⟨wr.heap.size, 0, none⟩) 1 1] ww fun e w' => ∃ a' len' cap', e = .returned (.tuple #[.int .u64 (1 + (j : Int) + 1), .slice a' len' cap', .int .i64 0]) ∧ (∃ Lb Rb Fb r, Lb ≤ L1 + 4 * (j + 1) ∧ Two w w' rb Lb Rb Fb ra L3 Ra3 Fa3 [] ∧ Solo Rb Fb Lb (1 + (j + 1)) (1 + (j + 1)) r (chgs g1 (l.reverse.take (j + 1)))) ∧ Below w.heap.size w w') := fun ww hb ho => by
            have hr : ww.ownsRow wr.heap.size 83 6 (.slice (some ⟨wr.heap.size, 0, none⟩) 1 1) 1 ([x].flatMap encCh) := ⟨by simp [encCh], .inr ⟨wr.heap.size, 1, _, rfl, Nat.le_refl _, ho, by omega, by decide, by simp, by simp [encCh]⟩⟩
            have hc := solo_pub hM hSo (by omega) (by omega) hb hr (fun y hy => by simp at hy; subst hy; exact hxo) (by omega) (fun y hy => by simp at hy; subst hy; exact hxv)
            rw [hj1, hj2] at hc
            refine hc.mono fun e w' ⟨a', len', cap', R', G, r', e1, _, e2, e3⟩ => ⟨a', len', cap', e1, ⟨_, R', G, r', ?_, e2, ?_⟩, e2.bel⟩
            · simp; omega
            · rw [chgs_app, ← hsn] at e3
              exact e3
          clear hM hSo hB hxo hxv hsn hx hpb hj1 hj2
          obtain ⟨pz, ⟨⟨xe, xc, xi⟩, xg⟩, gone⟩ := x
          simp only at k0 k1 k2 k3 k4 k5 HCl CPb
          go_upto_region 25 with fail
          go_region_held3 (fun w' => w'.cell? ⟨pb, poff + ix * 6, none⟩ = some (.int .i64 pz) ∧ w'.cell? ⟨pb, poff + ix * 6 + 1, none⟩ = some (.int .i64 xe) ∧ w'.cell? ⟨pb, poff + ix * 6 + 2, none⟩ = some (.int .i64 xc) ∧ w'.cell? ⟨pb, poff + ix * 6 + 3, none⟩ = some (.int .i64 xi) ∧ w'.cell? ⟨pb, poff + ix * 6 + 4, none⟩ = some (.int .i64 xg) ∧ w'.cell? ⟨pb, poff + ix * 6 + 5, none⟩ = some (.bool gone)) (first | exact K6.out | go_keep)
            (first
              | (go_at_call 24; ((with_reducible refine (CNw.out _ ?_).mono ?_); (first | exact ((Turned.refl [] _).drew).below | exact (((Turned.refl [] _).alloc _).drew).below | exact Below.refl _ _); rintro e w3 ⟨rfl, rfl⟩))
              | (go_at_call 27; ((with_reducible refine (CPb.out _ ?_ ?_).mono ?_); (first | exact (((Turned.refl [] _).alloc _).drew).below); (exact World.alloc_heap_new _ _); rintro e w5 ⟨a5, n5, cap5, rfl, hs5, hb5⟩; have S6 := Lib.hid hs5; have K6 := Lib.hid (HCl.out _ hb5); clear hs5 hb5)))
          all_goals
            go_wp2
            go_roundw
            all_goals first | exact ⟨j + 1, by omega, by go_num, S6.out⟩ | (simp [intOf]; omega)
        · obtain rfl : j = i := by omega
          have hrev : l.reverse.take j = l.reverse := List.take_of_length_le (by simp; omega)
          rw [hrev] at hSo
          have hge : ∀ q, q < 4096 → chgs g1 l q = chgs g1 l.reverse q := fun q _ => by rw [chgs_perm (List.reverse_perm l).symm g1 HND.out]
          have hm1 : mapL Fa3 r3 = mapL Fb r := by
            rw [So5.out.map, hSo.map]
            exact allL_congr 4096 hge
          obtain ⟨C, hC⟩ : ∃ C, mapL Fb r = C := ⟨_, rfl⟩
          have hCl : C.length ≤ 1048576 := by
            have : C.length ≤ 4096 := by rw [← hC]; exact allL_len _ _
            omega
          have hMs := hM.swap
          have hj1 : ((1 + j : Nat) : Int) = 1 + (j : Int) := by omega
          have hLb1 : Lb ≤ 2 ^ 34 := by omega
          have Na : Hid (∀ ww, Below wr.heap.size wr ww → Calls Try.prog 24 #[.pointer (some ⟨ra, 0, none⟩)] ww fun e w' => e = .returned (.int .u64 3) ∧ ww = w') := fun ww hb => by
            have := two_now (hMs.calm hb)
            rw [So5.out.now] at this
            exact this
          have Nb : Hid (∀ ww, Below wr.heap.size wr ww → Calls Try.prog 24 #[.pointer (some ⟨rb, 0, none⟩)] ww fun e w' => e = .returned (.int .u64 (1 + (j : Int))) ∧ ww = w') := fun ww hb => by
            have := two_now (hM.calm hb)
            rw [hSo.now, hj1] at this
            exact this
          have Aa : Hid (∀ ww, Below wr.heap.size wr ww → Calls Try.prog 25 #[.pointer (some ⟨ra, 0, none⟩), .int .u64 3] ww (rallPost ww C)) := fun ww hb => by
            have hv := So5.out.v
            rw [So5.out.now] at hv
            have := two_all (hMs.calm hb) So5.out.ok (by omega) (by omega) hv
            rw [hm1, hC] at this
            exact this
          have Ab : Hid (∀ ww, Below wr.heap.size wr ww → Calls Try.prog 25 #[.pointer (some ⟨rb, 0, none⟩), .int .u64 (1 + (j : Int))] ww (rallPost ww C)) := fun ww hb => by
            have hv := hSo.v
            rw [hSo.now] at hv
            have := two_all (hM.calm hb) hSo.ok (by omega) (by omega) hv
            rw [hC, hj1] at this
            exact this
          have Sa : Hid (∀ ww, Below wr.heap.size wr ww → Calls Try.prog 30 #[.pointer (some ⟨ra, 0, none⟩)] ww fun e w' => ∃ v zs, e = .returned v ∧ SlotsIs (HasS Fa3) zs ∧ w'.ownsRow ww.heap.size 31 3 v zs.length (flat zs) ∧ Below ww.heap.size ww w') := fun ww hb => two_slots (hMs.calm hb) (by omega)
          have Sb : Hid (∀ ww, Below wr.heap.size wr ww → Calls Try.prog 30 #[.pointer (some ⟨rb, 0, none⟩)] ww fun e w' => ∃ v zs, e = .returned v ∧ SlotsIs (HasS Fb) zs ∧ w'.ownsRow ww.heap.size 31 3 v zs.length (flat zs) ∧ Below ww.heap.size ww w') := fun ww hb => two_slots (hM.calm hb) hLb1
          have CSp : Hid (∀ a' c' b' d' ww, Sl5 ww a' C.length C → Sl5 ww b' C.length C → Calls Try.prog 14 #[.slice a' C.length c', .slice b' C.length d'] ww fun e w' => e = .returned (.bool true) ∧ Below ww.heap.size ww w') := fun a' c' b' d' ww h1 h2 => by
            have := same_pairs C C a' b' C.length C.length c' d' ww h1 h2 hCl hCl
            rw [decide_eq_true (rfl : C = C)] at this
            exact this
          have CSs : Hid (∀ a' n' c' b' m' d' xs ys ww, Sl3s ww a' n' xs → Sl3s ww b' m' ys → n' ≤ maxLen → m' ≤ maxLen → SlotsIs (HasS Fa3) xs → SlotsIs (HasS Fb) ys → Calls Try.prog 32 #[.slice a' n' c', .slice b' m' d'] ww fun e w' => e = .returned (.bool true) ∧ Below ww.heap.size ww w') := fun a' n' c' b' m' d' xs ys ww h1 h2 h3 h4 h5 h6 => by
            have := same_slots xs ys a' b' n' m' c' d' ww h1 h2 h3 h4
            rw [decide_eq_true (So5.out.slots hSo hge h5 h6)] at this
            exact this
          have HBw := Lib.hid (And.intro hM.bel (Below.refl wr.heap.size wr))
          clear hB hM hMs hSo hge hm1 hC hrev So5 HND HVl hCl hLb hLb1
          go_wp2_with (first
            | (go_at_call 24; ((with_reducible refine (Na.out _ HBw.out.2).mono ?_); rintro e w13 ⟨rfl, rfl⟩; clear Na))
            | (go_at_call 25; ((with_reducible refine (Aa.out _ HBw.out.2).mono ?_); rintro e w14 ⟨a14, n14, cap14, rfl, rfl, ho, hb⟩; obtain ⟨_, _, e14, h14, _⟩ := sl5_of_owns ho; simp only [Value.slice.injEq] at e14; obtain ⟨rfl, -, rfl⟩ := e14; have X1 := Lib.hid h14; have HB1 := Lib.hid hb; clear ho hb h14 Aa))
            | (go_at_call 24; ((with_reducible refine (Nb.out _ HB1.out).mono ?_); rintro e w15 ⟨rfl, rfl⟩; clear Nb))
            | (go_at_call 25; ((with_reducible refine (Ab.out _ HB1.out).mono ?_); rintro e w16 ⟨a16, n16, cap16, rfl, rfl, ho, hb⟩; obtain ⟨_, _, e16, h16, _⟩ := sl5_of_owns ho; simp only [Value.slice.injEq] at e16; obtain ⟨rfl, -, rfl⟩ := e16; have X2 := Lib.hid h16; have X1b := Lib.hid (X1.out.turned (Turned.of_below hb) (by simp)); have HB2 := Lib.hid (HB1.out.trans (hb.mono HB1.out.size)); clear ho hb h16 Ab X1))
            | (go_at_call 14; ((with_reducible refine (CSp.out _ _ _ _ _ X1b.out X2.out).mono ?_); rintro e w17 ⟨rfl, hb⟩; have HB3 := Lib.hid (HB2.out.trans (hb.mono HB2.out.size)); clear hb CSp))
            | (go_at_call 30; ((with_reducible refine (Sa.out _ HB3.out).mono ?_); rintro e w18 ⟨v18, z18, rfl, hz18, ho, hb⟩; have hb18 := owns_le ho; obtain ⟨a18, cap18, rfl, h18, _⟩ := sl3s_of_owns ho; have X3 := Lib.hid (And.intro h18 (And.intro hz18 hb18)); have HB4 := Lib.hid (HB3.out.trans (hb.mono HB3.out.size)); clear ho hb h18 hz18 hb18 Sa))
            | (go_at_call 30; ((with_reducible refine (Sb.out _ HB4.out).mono ?_); rintro e w19 ⟨v19, z19, rfl, hz19, ho, hb⟩; have hb19 := owns_le ho; obtain ⟨a19, cap19, rfl, h19, _⟩ := sl3s_of_owns ho; have X4 := Lib.hid (And.intro h19 (And.intro hz19 hb19)); have X3b := Lib.hid (X3.out.1.below (hb.mono (Nat.le_refl _))); have HB5 := Lib.hid (HB4.out.trans (hb.mono HB4.out.size)); clear ho hb h19 hz19 hb19 Sb))
            | (go_at_call 32; ((with_reducible refine (CSs.out _ _ _ _ _ _ _ _ _ X3b.out X4.out.1 X3.out.2.2 X4.out.2.2 X3.out.2.1 X4.out.2.1).mono ?_); rintro e w20 ⟨rfl, hb⟩; have HB6 := Lib.hid (HB5.out.trans (hb.mono HB5.out.size)); clear hb CSs))
            | (go_at_call 22; ((with_reducible refine (HAl.out _).mono ?_); rintro e wE ⟨rfl, hb⟩; have HE := Lib.hid (HB6.out.trans (hb.mono HB6.out.size)); clear hb)))
          go_ret
          exact ⟨rfl, HBw.out.1.trans (HE.out.mono HBw.out.1.size)⟩
end Go.Proofs.Ytmpbhoijkcanmaa.R

/- Versions: one in which nothing is changed shares all its nodes and lets no slot go; changes that are all told at once, of unlike pages, make the same map as one by one; numbers rise one by one. Any changes ahead, any changes. No condition. -/
namespace Go.Proofs.Ytmpbhoijkcanmaa.rootsSame
open Go.ChangeShapes Go.WideShapes Go.ChangeAt Go.RowKit Go.Joins
set_option linter.unusedVariables false

theorem own : ownKnob Try.prog.godebug = none := by kernel_rfl

set_option maxRecDepth 100000 in
theorem lifted (os : Os) (started : os.Started) (H : Type) (enc : TypeId × Value → H) :
    ReturnsInHanded {} Try.checked os 9 .any (Rows.rootsSameSpec.pre6 enc Try.prog Try.f9 Rows.rootsSameRow.domain false) (Rows.rootsSameSpec.post enc Try.prog Try.f9 false true false false) := by
  refine returnsInHanded_of_change (C := Try.checked) own started (by kernel_rfl) Try.func9
    (ChangeSpec.witness6 (enc := enc) (C := Try.checked) false ⟨#[], #[.slice none 0 0, .slice none 0 0], []⟩ 8 (by kernel_rfl) (by kernel_rfl) (by kernel_rfl) (by kernel_rfl)) ?_
  intro W base args ds gs before hval0 hW hcnd _
  have hval : ∀ (j : Nat) t v, Try.f9.params[j]? = some t → args[j]? = some v → Value.okWide Try.prog W .any base t v := hval0
  have hW' := hW
  obtain ⟨p, q, hA0, hV, rfl, hfz, hnd⟩ := hW
  have hA : DataW.TrodAll enc Try.prog W 0 (fun _ => true) true Try.f9.params.toList args.toList ds p := hA0
  rw [Try.params9] at hA hval
  obtain ⟨v0, vs0, d0, ds0, p0, q0, hargs, rfl, rfl, h0, r0⟩ := trodAll_cons hA
  obtain ⟨v1, vs1, d1, ds1, p1, q1, rfl, rfl, rfl, h1, r1⟩ := trodAll_cons r0
  obtain ⟨rfl, rfl, rfl⟩ := trodAll_nil r1
  obtain rfl : args = #[v0, v1] := by cases args; simp_all
  obtain ⟨rfl, rfl⟩ := trodVars_none hV
  obtain ⟨a0, len0, cap0, rfl⟩ := okWide_slice Try.underlying67 (hval 0 67 v0 rfl rfl)
  have k0 := h0
  have lt0 : ∀ x ∈ p0, x.block < W.heap.size := by obtain ⟨m, hm⟩ := k0; exact DataW.trod_lt m _ _ _ hm
  obtain ⟨l0, l0a, l0o, l0m, _⟩ : ∃ l, R.ChsAt W a0 len0 l ∧ (∀ x ∈ l, x.ok) ∧ len0 ≤ maxLen ∧ len0 ≤ cap0 := by
    obtain ⟨fuel, hf⟩ := h0
    exact R.chgs_of hf
  have l0c : a0 = none → cap0 = 0 := by
    obtain ⟨fuel, hf⟩ := h0
    exact R.none_cap Try.underlying67 hf
  obtain ⟨a1, len1, cap1, rfl⟩ := okWide_slice Try.underlying67 (hval 1 67 v1 rfl rfl)
  have k1 := h1
  have lt1 : ∀ x ∈ p1, x.block < W.heap.size := by obtain ⟨m, hm⟩ := k1; exact DataW.trod_lt m _ _ _ hm
  obtain ⟨l1, l1a, l1o, l1m, _⟩ : ∃ l, R.ChsAt W a1 len1 l ∧ (∀ x ∈ l, x.ok) ∧ len1 ≤ maxLen ∧ len1 ≤ cap1 := by
    obtain ⟨fuel, hf⟩ := h1
    exact R.chgs_of hf
  have l1c : a1 = none → cap1 = 0 := by
    obtain ⟨fuel, hf⟩ := h1
    exact R.none_cap Try.underlying67 hf
  clear hA0 hval0
  simp only [List.append_nil] at hW'
  refine (R.rsame_law a0 a1 len0 len1 cap0 cap1 l0 l1 W l0a l0o l0c l1a l1o l1c l0m l1m).mono fun e W' ⟨he, bel⟩ => ?_
  subst he
  exact ⟨_, rfl, _, _, _, [], _, [], hW', trodAll_mk1 (shut_bool Try.underlying4 _), (trodAll_cons_mk (Below.trod R.laidOut (by kernel_rfl) (of_decide_eq_true (by kernel_rfl)) k0 bel lt0) (trodAll_cons_mk (Below.trod R.laidOut (by kernel_rfl) (of_decide_eq_true (by kernel_rfl)) k1 bel lt1) trodAll_mk0)), rfl, bel.frame _, fun h => by cases h⟩

theorem over : Rows.rootsSameRow.holds Try.pinned (OpenSpec.ofChange Rows.rootsSameSpec) :=
  OpenClaim.holds_of_wide 9 Try.f9 rfl rfl rfl rfl rfl rfl rfl ⟨rfl, rfl, rfl, rfl, rfl⟩ rfl rfl rfl rfl rfl (by kernel_rfl) Try.func9 (by kernel_rfl)
    (of_decide_eq_true (by kernel_rfl)) (by unfold Func.isWrapper; first | (rw [if_pos (by decide +kernel)]; kernel_rfl) | (rw [if_neg (by decide +kernel)]; exact ⟨rfl, rfl⟩))
    (fun os started H enc _ => lifted os started H enc)

theorem proved : Rows.RootsSameSaid :=
  over
#print axioms proved
end Go.Proofs.Ytmpbhoijkcanmaa.rootsSame
