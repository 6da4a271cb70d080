/- Maps of pages, and versions of them: lemmas, part 13 of 23. -/
import Derived.Laws.AppendOwnNone
import Derived.Lib.SmallJoins
import Derived.SizedLaws
import Derived.Test.YtmpbhoijkcanmaaGreatQ12

/- Roots: what two of them side by side answer; one version alone: the plain law. -/
namespace Go.Proofs.YtmpbhoijkcanmaaGreat.R
open Go.ChangeShapes Go.WideShapes Go.ChangeAt Go.RowKit Go.Maps Go.Proofs.YtmpbhoijkcanmaaGreat.G
set_option linter.unusedVariables false
set_option linter.unusedSimpArgs false
set_option linter.unnecessarySimpa false

variable {w ww w' w1 : World} {rb ra L La T n m : Nat} {R Ra R' : Ro} {F G Fa F' : Fo} {Kx Ky K Ka Kb : List (Nat × Obj)} {l : List ChD} {r : Nat} {g : Nat → Option Ent}
theorem RtM.sub (h : RtM w ww rb L R F Kx) (hs : ∀ x, x ∈ Ky → x ∈ Kx) (hn : (keysK Ky).Nodup) : RtM w ww rb L R F Ky := by
  have hat := fun x hx => RtM.at (x := x) h hx
  have hbel := h.bel
  obtain ⟨f, mb, mo, blk, h⟩ := h
  obtain ⟨Ka, c1, c2, c3⟩ := h.cv
  refine c1.make ww Ky hbel c2 (fun x hx => hat x (hs x hx)) hn fun b hb hm => ?_
  obtain ⟨o, ho⟩ := mem_keysK.1 hb
  exact c3 b hm (mem_keysK.2 ⟨o, hs _ ho⟩)
theorem RtM.nodup (h : RtM w ww rb L R F Kx) : (keysK Kx).Nodup := by
  obtain ⟨f, mb, mo, blk, h⟩ := h
  exact h.apart.xx
/-- a new row comes -/
theorem RtM.row (h : RtM w ww rb L R F Kx) (b : Below ww.heap.size ww w') {n sz : Nat} {t : TypeId} {v : Value} {xs : List Value} (r : w'.ownsRow ww.heap.size t sz v n xs) : ∃ K1, RtM w w' rb L R F (K1 ++ Kx) ∧ RowO K1 w.heap.size t sz v n xs := by
  have hat := fun x hx => RtM.at (x := x) h hx
  have hnd := h.nodup
  have hbel := h.bel
  have hw := hbel.size
  obtain ⟨f, mb, mo, blk, h⟩ := h
  obtain ⟨Ka, c1, c2, c3⟩ := h.cv
  obtain ⟨K1, r1, hK1⟩ := RowO.of r
  have tb := Turned.of_below b
  have hlt : ∀ b, b ∈ keysK Kx → b < ww.heap.size := fun b hb => by
    obtain ⟨o, ho⟩ := mem_keysK.1 hb
    exact lt_of_at (hat _ ho)
  have hla : ∀ b, b ∈ keysK Ka → b < ww.heap.size := fun b hb => by
    obtain ⟨o, ho⟩ := mem_keysK.1 hb
    exact lt_of_at (c2 _ ho)
  have ek : keysK (K1 ++ Kx) = keysK K1 ++ keysK Kx := List.map_append
  refine ⟨K1, c1.make w' (K1 ++ Kx) (hbel.trans (b.mono hw)) (fun x hx => tb.at (c2 x hx) (by simp)) (fun x hx => ?_) ?_ fun b hb hm => ?_, fun W hW => owns_mono (r1.row W hW) hw, r1.own, r1.one, fun b hb => Nat.le_trans hw (r1.base b hb)⟩
  · rcases List.mem_append.1 hx with hx | hx
    · exact hK1 x hx
    · exact tb.at (hat x hx) (by simp)
  · rw [ek, List.nodup_append]
    exact ⟨r1.one, hnd, fun x hx y hy e => by have := r1.base x hx; have := hlt y hy; omega⟩
  · rw [ek] at hb
    rcases List.mem_append.1 hb with hb | hb
    · have := r1.base b hb; have := hla b hm; omega
    · exact c3 b hm hb
theorem flatC_len (l : List ChD) : (l.flatMap encCh).length = l.length * 6 := by
  induction l with
  | nil => rfl
  | cons x l ih => simp [encCh] at *; omega
theorem flatC_get (l : List ChD) (i r : Nat) (hi : i < l.length) (hr : r < 6) : (l.flatMap encCh)[i * 6 + r]? = (encCh l[i])[r]? := by
  induction l generalizing i with
  | nil => simp at hi
  | cons x xs ih =>
    have e : (x :: xs).flatMap encCh = encCh x ++ xs.flatMap encCh := rfl
    rw [e]
    match i with
    | 0 => rw [List.getElem?_append_left (by simp [encCh]; omega)]; simp
    | i + 1 =>
      rw [List.getElem?_append_right (by simp [encCh]; omega)]
      have : (i + 1) * 6 + r - (encCh x).length = i * 6 + r := by simp [encCh]; omega
      rw [this, ih i (by simpa using hi)]
      simp
/-- a row of changes of one's own, as an argument -/
theorem chsAt_of {base : Nat} {v : Value} {n : Nat} (h : w.ownsRow base 64 6 v n (l.flatMap encCh)) : ∃ a cap, v = .slice a n cap ∧ ChsAt w a n l := by
  obtain ⟨h1, h2⟩ := h
  have hl : l.length = n := by have := flatC_len l; omega
  rcases h2 with ⟨rfl, rfl⟩ | ⟨g, cap, cur, rfl, hg, hh, hn, hc, hs, ht⟩
  · exact ⟨none, 0, rfl, hl, .inl rfl⟩
  · refine ⟨_, cap, rfl, hl, .inr ⟨g, 0, rfl, lt_of_at hh, fun i hi j u hu => ?_⟩⟩
    have hj : j < 6 := by
      rcases Nat.lt_or_ge j 6 with h | h
      · exact h
      · rw [List.getElem?_eq_none (by simpa [encCh] using h)] at hu; cases hu
    have h1 : (cur.toList.take (n * 6))[i * 6 + j]? = cur.toList[i * 6 + j]? := by rw [List.getElem?_take, if_pos (by omega)]
    rw [ht, flatC_get l i j hi hj, hu] at h1
    rw [Nat.zero_add]
    simp [World.cell?, hh, h1]
theorem chsK_row {base n : Nat} {v : Value} (r : RowO Ka base 64 6 v n (l.flatMap encCh)) (hs : ∀ x, x ∈ Ka → x ∈ Kx) {a : Option Addr} {len cap : Nat} (hv : v = .slice a len cap) : ChsK w Kx a len l := fun wr hK hb => by
  obtain ⟨a', cap', e, h⟩ := chsAt_of (r.row wr fun x hx => hK x (hs x hx))
  rw [hv] at e
  simp only [Value.slice.injEq] at e
  obtain ⟨rfl, rfl, rfl⟩ := e
  exact h
/-- a publishing that changes nothing: nothing goes, as many nodes -/
theorem pub_none {v : Vr} {ys : List Slot} (h : RoOk R F T) (k0 : Ok F L) (hv : vget R.vs R.now = some v) (hh : v.held = 0) (k : Ok (madeF F v.root) La) (s : Sw ⟨R.vs ++ [(R.now + 1, ⟨v.root, 0⟩)], R.now + 1⟩ (madeF F v.root) La R.now v R' G ys) : ys = [] ∧ G.ids.length = F.ids.length := by
  rcases s with ⟨h1, _⟩ | ⟨_, _, d⟩
  · rcases h1 with h1 | h1
    · exact absurd h1 (by simp)
    · omega
  · have hG : ∀ i : Int, cnt G.held i = cnt F.held i := fun i => by
      rw [d.held, madeF_held]
      by_cases e : v.root ≠ 0 ∧ i = (v.root : Int)
      · rw [if_pos e, if_pos e]; omega
      · rw [if_neg e, if_neg e]; omega
    have hh : ∀ i : Nat, 0 < cnt (madeF F v.root).held (i : Int) → 0 < cnt G.held (i : Int) := fun i hi => by
      rw [hG]
      rw [madeF_held] at hi
      by_cases e : v.root ≠ 0 ∧ (i : Int) = (v.root : Int)
      · have e2 : i = v.root := by omega
        rw [e2, h.held _ e.1]
        exact List.count_pos_iff.2 (List.mem_map.2 ⟨_, vget_some hv, rfl⟩)
      · rw [if_neg e] at hi; omega
    refine ⟨?_, ?_⟩
    · have : ∀ s, s ∉ ys := fun s hs => by
        obtain ⟨h1, h2⟩ := (d.gone.mem s).1 hs
        refine h2 ((hasS_iff d.ok s).2 ?_)
        obtain ⟨r, hr, q, hq, x, hx, hxs⟩ := (hasS_iff k s).1 h1
        refine ⟨r, hh r hr, q, hq, x, ?_, hxs⟩
        rw [← hx]
        exact (getL_ext d.ok.inv d.ext 2 r q (.inr (d.ok.root (hh r hr)))).symm
      cases ys with
      | nil => rfl
      | cons y ys => exact absurd List.mem_cons_self (this y)
    · rw [← len_same k d.ok d.ext hh, madeF_ids]
theorem two_new (h : Two w ww ra La Ra Fa rb L R F K) : ∃ Kb, RtM w ww ra La Ra Fa (Kb ++ K) ∧ Cv w Kb rb L R F := h
/-- what came of publishing, of one of two -/
def twoPub (w : World) (ra La : Nat) (Ra : Ro) (Fa : Fo) (rb L : Nat) (R : Ro) (F : Fo) (K : List (Nat × Obj)) (v : Vr) (l : List ChD) (T : Nat) (e : Ending) (w' : World) : Prop :=
  ∃ (a : Option Addr) (len cap : Nat) (R' : Ro) (G : Fo) (ys : List Slot), len = ys.length ∧ e = .returned (.tuple #[.int .u64 ((Ra.now + 1 : Nat) : Int), .slice a len cap, .int .i64 0]) ∧ PubIs Ra Fa v l T R' G (La + 1 + 3 * l.length) ys ∧ (l = [] → v.held = 0 → ys = [] ∧ G.ids.length = Fa.ids.length) ∧ Two w w' ra (La + 1 + 3 * l.length) R' G rb L R F K
theorem two_pub (h : Two w w1 ra La Ra Fa rb L R F K) (hR : RoOk Ra Fa T) (hT : T ≤ 2 ^ 34) (hL : La ≤ 2 ^ 33) {a : Option Addr} {len cap : Nat} (hb : Below w1.heap.size w1 ww) (hrow : ww.ownsRow w1.heap.size 64 6 (.slice a len cap) len (l.flatMap encCh))
    (hok : ∀ x, x ∈ l → x.ok) (hn : len ≤ 1048576) (hval : ∀ x, x ∈ l → x.val) {v : Vr} (hv : vget Ra.vs Ra.now = some v) :
    Calls Tryz.prog 20 #[.pointer (some ⟨ra, 0, none⟩), .int .u64 (Ra.now : Nat), .slice a len cap] ww (twoPub w ra La Ra Fa rb L R F K v l T) := by
  obtain ⟨Kb, h, c⟩ := h
  have hnd := h.nodup
  obtain ⟨K1, h1, r1⟩ := h.row hb hrow
  obtain ⟨f, mb, mo, blk, h1⟩ := h1
  refine (rpub_ok h1 hR hT hL a len cap l (chsK_row r1 (fun x hx => List.mem_append.2 (.inl hx)) rfl) hok hn hval hv).mono fun e w' ⟨a', len', cap', F', r, R', G, ys, e1, e2, e3, e4, e4', e5, e6, e7⟩ =>
    ⟨a', len', cap', R', G, ys, e1, e2, pub_is hR hv e3 e4 e5, fun hl hh => ?_, Kb, e7.sub (fun x hx => List.mem_append.2 (.inr hx)) hnd, c⟩
  obtain ⟨rfl, rfl⟩ := e4' hl
  exact pub_none hR h1.ok hv hh e3 e5
/-- one that may not be -/
theorem two_pub_bad (h : Two w w1 ra La Ra Fa rb L R F K) {a : Option Addr} {len cap : Nat} (hb : Below w1.heap.size w1 ww) (hrow : ww.ownsRow w1.heap.size 64 6 (.slice a len cap) len (l.flatMap encCh))
    (hok : ∀ x, x ∈ l → x.ok) (hn : len ≤ maxLen) (hval : ¬ ∀ x, x ∈ l → x.val) :
    Calls Tryz.prog 20 #[.pointer (some ⟨ra, 0, none⟩), .int .u64 (Ra.now : Nat), .slice a len cap] ww fun e w' => e = .returned (.tuple #[.int .u64 0, .slice none 0 0, .int .i64 2]) ∧ Two w w' ra La Ra Fa rb L R F K := by
  have h2 := h.calm hb
  obtain ⟨a', cap', e, hat⟩ := chsAt_of hrow
  simp only [Value.slice.injEq] at e
  obtain ⟨rfl, -, rfl⟩ := e
  obtain ⟨Kb, ⟨f, mb, mo, blk, h1⟩, c⟩ := h2
  exact (rpub_loop h1 a len cap l hat hok hn hval).mono fun e w' ⟨e1, e2⟩ => ⟨e1, Kb, ⟨f, mb, mo, blk, h1.calm e2⟩, c⟩
theorem two_now (h : Two w ww ra La Ra Fa rb L R F K) : Calls Tryz.prog 9 #[.pointer (some ⟨ra, 0, none⟩)] ww fun e w' => e = .returned (.int .u64 (Ra.now : Nat)) ∧ ww = w' := by
  obtain ⟨Kb, ⟨f, mb, mo, blk, h⟩, c⟩ := h
  exact rnow_fn h
theorem two_nodes (h : Two w ww ra La Ra Fa rb L R F K) : Calls Tryz.prog 23 #[.pointer (some ⟨ra, 0, none⟩)] ww fun e w' => e = .returned (.int .i64 (Fa.ids.length : Nat)) ∧ ww = w' := by
  obtain ⟨Kb, ⟨f, mb, mo, blk, h⟩, c⟩ := h
  exact rnodes_fn h
theorem two_all (h : Two w ww ra La Ra Fa rb L R F K) (hR : RoOk Ra Fa T) (hL : La ≤ 2 ^ 34) (hn : n < 2 ^ 64) {v : Vr} (hv : vget Ra.vs n = some v) : Calls Tryz.prog 18 #[.pointer (some ⟨ra, 0, none⟩), .int .u64 (n : Nat)] ww (rallPost ww (mapL Fa v.root)) := by
  obtain ⟨Kb, ⟨f, mb, mo, blk, h⟩, c⟩ := h
  exact rall_yes h hL hn hv (hR.root hv)
theorem two_slots (h : Two w ww ra La Ra Fa rb L R F K) (hL : La ≤ 2 ^ 34) : Calls Tryz.prog 14 #[.pointer (some ⟨ra, 0, none⟩)] ww fun e w' => ∃ v zs, e = .returned v ∧ SlotsIs (HasS Fa) zs ∧ w'.ownsRow ww.heap.size 45 3 v zs.length (flat zs) ∧ Below ww.heap.size ww w' := by
  obtain ⟨Kb, ⟨f, mb, mo, blk, h⟩, c⟩ := h
  exact rslots_fn h hL
/-- one version alone, that nobody holds -/
structure Solo (R : Ro) (F : Fo) (L T m r : Nat) (g : Nat → Option Ent) : Prop where
  ok : RoOk R F T
  fo : Ok F L
  now : R.now = m
  one : ∀ x, x ∈ R.vs → x = (m, ⟨r, 0⟩)
  v : vget R.vs R.now = some ⟨r, 0⟩
  get : ∀ q, q < 4096 → getL 2 F r q = g q
theorem Solo.start : Solo ro0 fo0 0 0 0 0 fun _ => none := ⟨ro0_ok, fo0_ok, rfl, fun x hx => by simp [ro0] at hx; exact hx, rfl, fun q _ => getL_zero _ _ _⟩
theorem chgs_cong {g g' : Nat → Option Ent} (h : ∀ q, q < 4096 → g q = g' q) (l : List ChD) : ∀ q, q < 4096 → chgs g l q = chgs g' l q := by
  induction l generalizing g g' with
  | nil => exact h
  | cons c l ih =>
    refine ih (g := chg g c) (g' := chg g' c) fun q hq => ?_
    unfold chg
    rw [h q hq]
theorem Solo.pub {ys : List Slot} {L' : Nat} (h : Solo R F L T m r g) (p : PubIs R F ⟨r, 0⟩ l T R' G L' ys) : ∃ r', Solo R' G L' (T + 1) (m + 1) r' (chgs g l) := by
  obtain ⟨r', h1, h2⟩ := p.new
  have hn := h.now
  have hn' : R'.now = R.now + 1 := p.now
  refine ⟨r', p.ok, p.fo, by omega, fun x hx => ?_, by rw [hn']; exact h1, fun q hq => (h2 q hq).trans (chgs_cong h.get l q hq)⟩
  by_cases e : x.1 = R.now + 1
  · have := vget_mem p.ok.keys (n := x.1) (v := x.2) hx
    rw [e, h1] at this
    have e2 : x.2 = ⟨r', 0⟩ := (Option.some.inj this).symm
    exact Prod.ext (by omega) e2
  · have ho := (p.old x hx e).1
    have hx1 := h.one x ho
    subst hx1
    have := (p.keptN.1 (by rw [h.now]; exact hx))
    exact absurd this (by simp)
theorem chg_comm (g : Nat → Option Ent) (a b : ChD) (h : a.page ≠ b.page) : chg (chg g a) b = chg (chg g b) a := by
  funext q
  unfold chg
  by_cases e1 : (q : Int) = b.page
  · have e3 : ¬ (q : Int) = a.page := fun e => h (e.symm.trans e1)
    rw [if_pos e1, if_neg e3, if_pos e1]
  · rw [if_neg e1]
    by_cases e2 : (q : Int) = a.page
    · rw [if_pos e2, if_pos e2]
    · rw [if_neg e2, if_neg e2, if_neg e1]
/-- changes of unlike pages, in any order -/
theorem chgs_perm {l l' : List ChD} (h : l.Perm l') : ∀ g, (l.map ChD.page).Nodup → chgs g l = chgs g l' := by
  induction h with
  | nil => exact fun g _ => rfl
  | cons x _ ih =>
    intro g hn
    rw [List.map_cons, List.nodup_cons] at hn
    exact ih (chg g x) hn.2
  | swap x y l =>
    intro g hn
    show chgs (chg (chg g y) x) l = chgs (chg (chg g x) y) l
    rw [chg_comm]
    rw [List.map_cons, List.map_cons, List.nodup_cons] at hn
    exact fun e => hn.1 (by rw [e]; exact List.mem_cons_self)
  | trans h1 _ ih1 ih2 =>
    intro g hn
    rw [ih1 g hn, ih2 g ((h1.map _).nodup_iff.1 hn)]
/-- maps that are alike have the same slots -/
theorem Solo.slots {Rb : Ro} {Fb : Fo} {Lb Tb mb rb : Nat} {gb : Nat → Option Ent} (h : Solo R F L T m r g) (k : Solo Rb Fb Lb Tb mb rb gb) (e : ∀ q, q < 4096 → g q = gb q) {xs ys : List Slot} (hx : SlotsIs (HasS F) xs) (hy : SlotsIs (HasS Fb) ys) : xs = ys := by
  have key : ∀ {R : Ro} {F : Fo} {L T m r : Nat} {g : Nat → Option Ent}, Solo R F L T m r g → ∀ s, HasS F s ↔ ∃ q, q < 4096 ∧ ∃ x : Ent, g q = some x ∧ x.s = s := fun {R F L T m r g} h s => by
    rw [slots_iff h.ok.pre h.fo s]
    constructor
    · rintro ⟨x, hx, q, hq, y, hy, e⟩
      rw [h.one x hx] at hy
      exact ⟨q, hq, y, by rw [← h.get q hq]; exact hy, e⟩
    · rintro ⟨q, hq, x, hx, e⟩
      exact ⟨_, vget_some h.v, q, hq, x, by rw [h.get q hq]; exact hx, e⟩
  refine hx.uniq hy fun s => ?_
  rw [key h, key k]
  constructor
  · rintro ⟨q, hq, x, hx, e'⟩; exact ⟨q, hq, x, by rw [← e q hq]; exact hx, e'⟩
  · rintro ⟨q, hq, x, hx, e'⟩; exact ⟨q, hq, x, by rw [e q hq]; exact hx, e'⟩
theorem Solo.map (h : Solo R F L T m r g) : mapL F r = allL g 4096 := allL_congr 4096 fun q hq => h.get q hq
/-- one version alone, of one of two: publishing -/
theorem solo_pub (h : Two w w1 ra La Ra Fa rb L R F K) (s : Solo Ra Fa La T m r g) (hT : T ≤ 2 ^ 34) (hL : La ≤ 2 ^ 33) {a : Option Addr} {len cap : Nat} (hb : Below w1.heap.size w1 ww) (hrow : ww.ownsRow w1.heap.size 64 6 (.slice a len cap) len (l.flatMap encCh))
    (hok : ∀ x, x ∈ l → x.ok) (hn : len ≤ 1048576) (hval : ∀ x, x ∈ l → x.val) :
    Calls Tryz.prog 20 #[.pointer (some ⟨ra, 0, none⟩), .int .u64 (m : Nat), .slice a len cap] ww fun e w' => ∃ (a' : Option Addr) (len' cap' : Nat) (R' : Ro) (G : Fo) (r' : Nat), e = .returned (.tuple #[.int .u64 ((m + 1 : Nat) : Int), .slice a' len' cap', .int .i64 0]) ∧
      (l = [] → len' = 0 ∧ G.ids.length = Fa.ids.length) ∧ Two w w' ra (La + 1 + 3 * l.length) R' G rb L R F K ∧ Solo R' G (La + 1 + 3 * l.length) (T + 1) (m + 1) r' (chgs g l) := by
  have := two_pub h s.ok hT hL hb hrow hok hn hval s.v
  rw [s.now] at this
  refine this.mono fun e w' ⟨a', len', cap', R', G, ys, e1, e2, e3, e4, e5⟩ => ?_
  rw [s.now] at e2
  obtain ⟨r', hr⟩ := s.pub e3
  refine ⟨a', len', cap', R', G, r', e2, fun hl => ?_, e5, hr⟩
  obtain ⟨rfl, h2⟩ := e4 hl rfl
  exact ⟨e1, h2⟩
theorem infoChg : (Tryz.prog.info? 64).map (fun i => (i.zero, i.size, i.bytes)) = some (some (.agg #[.int .i64 0, .int .i64 0, .int .i64 0, .int .i64 0, .int .i64 0, .bool false]), 6, 48) := by kernel_rfl
theorem encCh_one (l : List ChD) : ∀ u ∈ l.flatMap encCh, u.oneCell' = true := by
  intro u hu
  obtain ⟨c, _, hc⟩ := List.mem_flatMap.1 hu
  simp only [encCh, List.mem_cons, List.not_mem_nil, or_false] at hc
  rcases hc with rfl | rfl | rfl | rfl | rfl | rfl <;> rfl
theorem chs_cells {p : Addr} {len : Nat} {l : List ChD} (hl : ChsAt w (some p) len l) : ∀ j u, (l.flatMap encCh)[j]? = some u → w.cell? (p.add j) = some u := fun j u hu => by
  have hj : j < l.length * 6 := by
    rcases Nat.lt_or_ge j (l.length * 6) with h | h
    · exact h
    · rw [List.getElem?_eq_none (by rw [flatC_len]; exact h)] at hu; cases hu
  obtain ⟨b, off, c, e, hb, hcl, hcell⟩ := RowsAt.at hl (j / 6) (by rw [← hl.1]; omega)
  simp only [Option.some.injEq] at e
  subst e
  have hi6 : j / 6 < l.length := by omega
  have e2 := flatC_get l (j / 6) (j % 6) hi6 (by omega)
  rw [show j / 6 * 6 + j % 6 = j by omega, hu] at e2
  rw [List.getElem?_eq_getElem hi6] at hcl
  rw [Option.some.inj hcl] at e2
  have := hcell (j % 6) u e2.symm
  rw [addr_add_none]
  rw [show off + j / 6 * 6 + j % 6 = off + j by omega] at this
  exact this
/-- changes that are handed in are copied -/
theorem wpList_append_chs {ops : Array Oper} {rest : List Oper} {o : Oper} {a : Act} {Q : Exit → Act → World → Prop} (hgd : o.guard = none) (s x : Operand)
    (ho : o.op = .call { callee := .builtin .append, args := #[s, x], argTypes := #[31, 31] }) (base : Nat) (v : Value) (hs : a.eval s = v) (hown : w.ownsRow base 64 6 v 0 [])
    (ad : Option Addr) (len cap : Nat) (l : List ChD) (hx : a.eval x = .slice ad len cap) (hl : ChsAt w ad len l) (hc : ad = none → cap = 0) (hn : len ≤ 1048576) (hbase : base ≤ w.heap.size)
    (h : ∀ v' w', w'.ownsRow base 64 6 v' len (l.flatMap encCh) → w.grownBy w' v.ownBlock → wpList Tryz.prog ops Q rest (a.put o.dst v') w') : wpList Tryz.prog ops Q (o :: rest) a w := by
  obtain ⟨i0, hi, hz0, hz1, hz2⟩ := info_parts infoChg
  cases ad with
  | none =>
    have hl0 : len = 0 := by
      rcases hl.2 with h0 | ⟨b, off, e, _⟩
      · exact h0
      · cases e
    subst hl0
    obtain rfl := hc rfl
    obtain rfl : l = [] := List.length_eq_zero_iff.1 hl.1
    exact wpList_append_own_none hgd s x 31 ho base 64 i0 6 Tryz.underlying31 hi v 0 [] hs hown hx (h v w hown ⟨rfl, rfl, rfl, Nat.le_refl _, fun k _ _ => rfl⟩)
  | some p =>
    refine wpList_append_own_at _ hgd s x 31 ho base 64 i0 _ 6 48 Tryz.underlying31 hi hz0 hz1 hz2 rfl (by decide) v 0 [] hs hown p len cap (l.flatMap encCh) hx (by rw [flatC_len, hl.1]) (chs_cells hl) (encCh_one l) (by unfold maxLen; omega) (by omega) hbase (fun v' w' h1 h2 _ _ => h v' w' (by rw [Nat.zero_add, List.nil_append] at h1; exact h1) h2)
theorem below_app2 {w w4 : World} {o : Obj} (h : (w.alloc o).grownBy w4 (some w.heap.size)) : Below w.heap.size w w4 :=
  Turned.below ((((Turned.refl [] w).alloc o).grown h) fun k e => .inr (by simp only [Option.some.injEq] at e; omega))
end Go.Proofs.YtmpbhoijkcanmaaGreat.R

/- Roots: are there many; has a list a slot of another; slots of a set in their order. -/
namespace Go.Proofs.YtmpbhoijkcanmaaGreat.R
open Go.ChangeShapes Go.WideShapes Go.ChangeAt Go.RowKit Go.Maps Go.Proofs.YtmpbhoijkcanmaaGreat.G
set_option linter.unusedVariables false
set_option linter.unusedSimpArgs false
set_option linter.unnecessarySimpa false

structure CallD where
  op : Nat
  odd : Bool
  n : Nat
  a : Option Addr
  len : Nat
  cap : Nat
  ch : List ChD
deriving Inhabited
def encCall (c : CallD) : List Value := [.int .u8 (c.op : Nat), .bool c.odd, .int .u64 (c.n : Nat), .slice c.a c.len c.cap]
structure CallD.ok (W : World) (c : CallD) : Prop where
  op : c.op < 256
  n : c.n < 2 ^ 64
  at_ : ChsAt W c.a c.len c.ch
  chs : ∀ x, x ∈ c.ch → x.ok
  cap : c.a = none → c.cap = 0
  len : c.len ≤ 4398046511104
abbrev CallsAt (w : World) (a : Option Addr) (len : Nat) (l : List CallD) : Prop := RowsAt w 4 encCall a len l
variable {w w' : World}
theorem CallsAt.cells {a : Option Addr} {len : Nat} {l : List CallD} (h : CallsAt w a len l) (i : Nat) (hi : i < len) : ∃ b off x, a = some ⟨b, off, none⟩ ∧ b < w.heap.size ∧ l[i]? = some x ∧ w.cell? ⟨b, off + i * 4, none⟩ = some (.int .u8 (x.op : Nat)) ∧ w.cell? ⟨b, off + i * 4 + 1, none⟩ = some (.bool x.odd) ∧ w.cell? ⟨b, off + i * 4 + 2, none⟩ = some (.int .u64 (x.n : Nat)) ∧ w.cell? ⟨b, off + i * 4 + 3, none⟩ = some (.slice x.a x.len x.cap) := by
  obtain ⟨b, off, x, e, hb, hx, hc⟩ := RowsAt.at h i hi
  exact ⟨b, off, x, e, hb, hx, hc 0 _ rfl, hc 1 _ rfl, hc 2 _ rfl, hc 3 _ rfl⟩
set_option maxRecDepth 100000 in
theorem many_fn (a : Option Addr) (n cap : Nat) (l : List CallD) (hl : CallsAt w a n l) (hn : n ≤ maxLen) (hc : ∀ x, x ∈ l → x.len ≤ 4398046511104) :
    Calls Tryz.prog 4 #[.slice a n cap] w fun e w' => (∃ B : Bool, e = .returned (.bool B) ∧ (B = false → n ≤ 40 ∧ ∀ x, x ∈ l → x.len ≤ 60)) ∧ w = w' := by
  unfold maxLen at hn
  have HL := Lib.hid (And.intro hl hc)
  have hll := hl.1
  clear hl hc
  go_enter Tryz.func4, Tryz.ntmps4
  go_wp2
  go_loopw [4, 3] (fun v u wr => ∃ i k : Nat, i ≤ n ∧ v = .int .i64 i ∧ u = .int .i64 k ∧ k ≤ 60 ∧ wr = w ∧ Hid (∀ x, x ∈ l.take i → x.len ≤ 60)) (fun v _ _ => n - (intOf v).toNat)
  case atStart => exact ⟨0, 0, Nat.zero_le _, rfl, rfl, by omega, rfl, fun x hx => by simp at hx⟩
  case round =>
    obtain ⟨i, k, hi, rfl, rfl, hk, rfl, hB⟩ := hrel
    by_cases hlt : i < n
    · obtain ⟨b, off, x, rfl, hb, hx, c0, c1, c2, c3⟩ := CallsAt.cells HL.out.1 i hlt
      have hxl := HL.out.2 x (List.mem_of_getElem? hx)
      have HX := Lib.hid hx
      obtain ⟨op, odd, xn, xa, xl, xc, ch⟩ := x
      simp only at c3 hxl
      have hw1 : IntKind.i64.wrap ((k : Int) + (xl : Int)) = ((k + xl : Nat) : Int) := by rw [IntWalk.i64_in _ (by omega)]; omega
      clear hx c0 c1 c2 hb
      by_cases hm : 60 < k + xl
      · have hd : decide ((60 : Int) < ((k + xl : Nat) : Int)) = true := by simp only [decide_eq_true_eq]; omega
        clear hm
        generalize k + xl = kx at *
        go_wp2
        go_ret
        exact ⟨⟨true, rfl, fun h => by cases h⟩, rfl⟩
      · have hd : decide ((60 : Int) < ((k + xl : Nat) : Int)) = false := by simp only [decide_eq_false_iff_not]; omega
        have hxl6 : xl ≤ 60 := by omega
        obtain ⟨kx, hkx⟩ : ∃ kx, k + xl = kx := ⟨_, rfl⟩
        rw [hkx] at hw1 hd
        have hkx6 : kx ≤ 60 := by omega
        clear hm hkx
        go_wp2
        go_roundw
        case rel =>
          refine ⟨i + 1, kx, by omega, by go_num, rfl, hkx6, by first | trivial | rfl, fun y hy => ?_⟩
          obtain ⟨hil, hie⟩ := List.getElem?_eq_some_iff.1 HX.out
          rw [List.take_succ_eq_append_getElem hil, hie] at hy
          rcases List.mem_append.1 hy with hy | hy
          · exact hB.out y hy
          · simp at hy; subst hy; exact hxl6
        case measure => simp [intOf]; omega
    · obtain rfl : i = n := by omega
      have HA : Hid (∀ x, x ∈ l → x.len ≤ 60) := fun x hx => hB.out x (by rw [List.take_of_length_le (by omega)]; exact hx)
      clear hB hlt
      by_cases hm : 40 < i
      · have hd : decide ((40 : Int) < i) = true := by simp only [decide_eq_true_eq]; omega
        clear hm
        go_wp2
        go_ret
        exact ⟨⟨true, rfl, fun h => by cases h⟩, rfl⟩
      · have hd : decide ((40 : Int) < i) = false := by simp only [decide_eq_false_iff_not]; omega
        have hi40 : i ≤ 40 := by omega
        clear hm
        go_wp2
        go_ret
        exact ⟨⟨false, rfl, fun _ => ⟨hi40, HA.out⟩⟩, rfl⟩
theorem zeroSB (w : World) : (zeroValue 4).run Tryz.prog w = .ok (.bool false) w := by kernel_rfl
/-- a set of slots: nothing but some -/
def SetIn (w : World) (bm : Nat) (C : Slot → Prop) : Prop := ∃ M, MapIs Tryz.prog 45 encS w bm M ∧ ∀ s v, mget M s = some v → v = .bool true ∧ C s
theorem SetIn.look_no {w : World} {bm : Nat} {C : Slot → Prop} (h : SetIn w bm C) {s : Slot} (hs : s.ok) (hn : ¬ C s) : (Instr.lookup 86 (.map (some bm)) (.agg #[.int .i64 s.e, .int .i64 s.c, .int .i64 s.i]) false).run Tryz.prog w = .ok (.bool false) w := by
  obtain ⟨M, hM, hm⟩ := h
  obtain ⟨k, hk⟩ := keyS s hs
  have := hM.run_look keyedS encS_inj Tryz.underlying86 (zeroSB w) s hk false
  have e : mget M s = none := by
    cases e : mget M s with
    | none => rfl
    | some v => exact absurd (hm s v e).2 hn
  rw [e] at this
  exact this
theorem mem_take_self {α : Type} {l : List α} {i : Nat} (h : i < l.length) : l[i] ∈ l.take (i + 1) := by
  rw [List.take_succ_eq_append_getElem h]; exact List.mem_append.2 (.inr List.mem_cons_self)
theorem mem_take_more {α : Type} {l : List α} {i : Nat} {x : α} (h : x ∈ l.take i) : x ∈ l.take (i + 1) :=
  (List.take_prefix_take_left (Nat.le_succ i)).subset h
end Go.Proofs.YtmpbhoijkcanmaaGreat.R

/- Roots: calls that are handed in, read as a list. -/
namespace Go.Proofs.YtmpbhoijkcanmaaGreat.R
open Go.ChangeShapes Go.WideShapes Go.ChangeAt Go.RowKit Go.Maps Go.Proofs.YtmpbhoijkcanmaaGreat.G Go.Deep Go.Joins
set_option linter.unusedVariables false
set_option linter.unusedSimpArgs false
set_option linter.unnecessarySimpa false

theorem mem_weightsAll {H : Type} {P : Program} {e : TypeId} {x : DataW H} {l : List (DataW H)} {z : Nat} (hx : x ∈ l) (hz : z ∈ x.weights P e) : z ∈ DataW.weightsAll P e l := by
  induction l with
  | nil => cases hx
  | cons d r ih =>
    rw [DataW.weightsAll]
    rcases List.mem_cons.1 hx with rfl | hx
    · exact List.mem_append.2 (.inl hz)
    · exact List.mem_append.2 (.inr (ih hx))
theorem weights_slice {H : Type} {P : Program} {t e : TypeId} (ht : P.underlying t = some (.slice e)) (elems spare : List (DataW H)) : DataW.weights P t (.slice elems spare) = (elems.length + spare.length) * P.bytesOf e :: (DataW.weightsAll P e elems ++ DataW.weightsAll P e spare) := by
  rw [DataW.weights]; simp only [ht]
/-- a slice that is handed in, each element's reach told -/
theorem rows_ofW {α : Type} [Inhabited α] {P : Program} {H : Type} {encd : TypeId × Value → H} {W : World} {base : Nat} {spare : Nat → Bool} {held : Bool} {t e : TypeId} {sz : Nat} (hsz : 0 < sz) (enc : α → List Value) (hlen : ∀ x, (enc x).length = sz) (ok : α → Prop)
    (ht : P.underlying t = some (.slice e)) (hc : P.cellsOf e = sz)
    (elem : ∀ (n : Nat) (cs : List Value) (y : DataW H × List MemPlace), cs.length = sz → DataW.trod encd P W base spare held n e cs = some y → (∀ z, z ∈ y.1.weights P e → z ≤ reachBytes) → ∃ x, ok x ∧ cs = enc x)
    {a : Option Addr} {len cap fuel : Nat} {y : DataW H × List MemPlace} (h : DataW.trod encd P W base spare held fuel t [.slice a len cap] = some y) (hw : ∀ z, z ∈ y.1.weights P t → z ≤ reachBytes) : ∃ l, RowsAt W sz enc a len l ∧ (∀ x ∈ l, ok x) ∧ len ≤ maxLen ∧ len ≤ cap := by
  rcases open_slice ht h with ⟨e, _⟩ | ⟨x, l, c, m, n, D, Pl, e, hb, hl, hm, hmm, hy, hx⟩
  · simp at e; obtain ⟨rfl, rfl, rfl⟩ := e
    exact ⟨[], ⟨rfl, .inl rfl⟩, by simp, by decide, by omega⟩
  · simp at e; obtain ⟨rfl, rfl, rfl⟩ := e
    have hlm : len ≤ m := by rw [hmm]; split <;> omega
    rw [hy] at hw
    simp only [weights_slice ht] at hw
    have key : ∀ i, i < len → ∃ t : α, ok t ∧ ∀ j u, (enc t)[j]? = some u → W.cell? ((x.add (i * sz)).add j) = some u := by
      intro i hi
      obtain ⟨cs, h1, h2⟩ := hx i (by omega)
      rw [hc] at h1
      obtain ⟨hcl, hcg⟩ := cells_read h1
      obtain ⟨t, hok, rfl⟩ := elem _ _ _ hcl h2 fun z hz => hw z (List.mem_cons_of_mem _ (List.mem_append.2 (.inl (mem_weightsAll (List.mem_map.2 ⟨i, by simpa using hi, rfl⟩) hz))))
      refine ⟨t, hok, fun j u hu => ?_⟩
      have hj : j < sz := by
        rcases Nat.lt_or_ge j sz with h | h
        · exact h
        · rw [List.getElem?_eq_none (by rw [hlen]; exact h)] at hu; cases hu
      rw [hcg j hj]; exact hu
    obtain ⟨V, hV⟩ := choose_lt key
    refine ⟨(List.range len).map V, ⟨by simp, ?_⟩, ?_, by omega, by omega⟩
    · by_cases h0 : len = 0
      · exact .inl h0
      · right
        have hl0 : 0 < (enc (V 0)).length := by rw [hlen]; exact hsz
        have h00 := (hV 0 (by omega)).2 0 _ (List.getElem?_eq_getElem hl0)
        have hs := spot_none h00
        obtain ⟨b, off, sp⟩ := x
        have hs' : sp = none := by
          have : ((⟨b, off, sp⟩ : Addr).add (0 * sz)).add 0 = ⟨b, off, sp⟩ := by simp [Addr.add]
          rw [this] at hs; exact hs
        subst hs'
        refine ⟨b, off, rfl, lt_of_cell (by simpa [Addr.add] using h00), fun i hi j u hu => ?_⟩
        simp only [List.getElem_map, List.getElem_range] at hu
        have := (hV i (by simpa using hi)).2 j u hu
        rw [addr_add_none, addr_add_none] at this
        exact this
    · intro t ht
      obtain ⟨i, hi, rfl⟩ := List.mem_map.1 ht
      exact (hV i (by simpa using hi)).1
theorem none_cap2 {P : Program} {H : Type} {encd : TypeId × Value → H} {W : World} {base : Nat} {spare : Nat → Bool} {held : Bool} {t e : TypeId} {fuel : Nat} {a : Option Addr} {len cap : Nat} {y : DataW H × List MemPlace} (ht : P.underlying t = some (.slice e)) (h : DataW.trod encd P W base spare held fuel t [.slice a len cap] = some y) : a = none → cap = 0 := fun ha => by
  rcases Go.Deep.open_slice ht h with ⟨e, _⟩ | ⟨x, l, c, m, n, D, Pl, e, _⟩
  · simp at e; exact e.2.2
  · simp at e; rw [ha] at e; exact absurd e.1 (by simp)
section
variable {H : Type} {enc : TypeId × Value → H} {w : World} {base : Nat} {spare : Nat → Bool} {held : Bool}
theorem call_trod {fuel : Nat} {cs : List Value} {y : DataW H × List MemPlace} (hl : cs.length = 4) (h : DataW.trod enc Tryz.prog w base spare held fuel 33 cs = some y) (hw : ∀ z, z ∈ y.1.weights Tryz.prog 33 → z ≤ reachBytes) : ∃ x : CallD, x.ok w ∧ cs = encCall x := by
  have e1 : Tryz.prog.cellsOf 5 = 1 := by kernel_rfl
  have e2 : Tryz.prog.cellsOf 4 = 1 := by kernel_rfl
  have e3 : Tryz.prog.cellsOf 23 = 1 := by kernel_rfl
  have e4 : Tryz.prog.cellsOf 31 = 1 := by kernel_rfl
  have e5 : Tryz.prog.bytesOf 64 = 48 := by kernel_rfl
  obtain ⟨c0, c1, c2, c3, rfl⟩ : ∃ c0 c1 c2 c3, cs = [c0, c1, c2, c3] := by
    match cs, hl with
    | [c0, c1, c2, c3], _ => exact ⟨c0, c1, c2, c3, rfl⟩
  obtain ⟨y0, y1, y2, y3, n, rfl, _, h0, h1, h2, h3⟩ := trod_struct4 Tryz.underlying33 h
  simp only [e1, e2, e3, e4, List.drop_zero, List.drop_succ_cons, List.take_succ_cons, List.take_zero] at h0 h1 h2 h3
  obtain ⟨p, k0, rfl, w0⟩ := DataW.trod_int Tryz.underlying5 h0
  obtain ⟨g, k1, _⟩ := DataW.trod_bool Tryz.underlying4 h1
  obtain ⟨m, k2, rfl, w2⟩ := DataW.trod_int Tryz.underlying23 h2
  simp only [List.cons.injEq, and_true] at k0 k1 k2
  have b0 := bounds_u8 w0
  obtain ⟨pn, rfl⟩ : ∃ pn : Nat, p = pn := ⟨p.toNat, by omega⟩
  have hw2 := w2
  simp [Lit.wf, IntKind.min, IntKind.max, IntKind.signed, IntKind.bits] at hw2
  obtain ⟨mn, rfl⟩ : ∃ mn : Nat, m = mn := ⟨m.toNat, by omega⟩
  have hw3 : ∀ z, z ∈ y3.1.weights Tryz.prog 31 → z ≤ reachBytes := fun z hz => hw z (by
    rw [DataW.weights]
    simp only [Tryz.underlying33]
    simp [DataW.weightsEach, hz])
  obtain ⟨a, len, cap, rfl⟩ : ∃ a len cap, c3 = .slice a len cap := by
    rcases open_slice Tryz.underlying31 h3 with ⟨e, _⟩ | ⟨x, l, c, m, n, D, Pl, e, _⟩
    · simp at e; exact ⟨_, _, _, e⟩
    · simp at e; exact ⟨_, _, _, e⟩
  obtain ⟨l, l1, l2, l3, l4⟩ := chgs_of h3
  have hcap := none_cap2 Tryz.underlying31 h3
  have hlen : len ≤ 4398046511104 := by
    rcases open_slice Tryz.underlying31 h3 with ⟨e, _⟩ | ⟨x, l', c, m', n', D, Pl, e, hb, hl', hm, hmm, hy, hx⟩
    · simp at e; omega
    · simp at e; obtain ⟨rfl, rfl, rfl⟩ := e
      rw [hy] at hw3
      simp only [weights_slice Tryz.underlying31, e5] at hw3
      have := hw3 _ List.mem_cons_self
      simp at this
      unfold reachBytes at this
      omega
  exact ⟨⟨pn, g, mn, a, len, cap, l⟩, ⟨by simp only; omega, by simp only; omega, l1, l2, hcap, hlen⟩, by rw [k0, k1, k2]; rfl⟩
theorem calls_of {fuel : Nat} {a : Option Addr} {len cap : Nat} {y : DataW H × List MemPlace} (h : DataW.trod enc Tryz.prog w base spare held fuel 22 [.slice a len cap] = some y) (hw : ∀ z, z ∈ y.1.weights Tryz.prog 22 → z ≤ reachBytes) : ∃ l, CallsAt w a len l ∧ (∀ x ∈ l, x.ok w) ∧ len ≤ maxLen ∧ len ≤ cap :=
  rows_ofW (by omega) encCall (fun _ => rfl) (CallD.ok w) Tryz.underlying22 (by kernel_rfl) (fun _ _ _ => call_trod) h hw
end
end Go.Proofs.YtmpbhoijkcanmaaGreat.R

/- Versions as lists, the document's answer: how they lie in memory. -/
namespace Go.Proofs.YtmpbhoijkcanmaaGreat.R
open Go.ChangeShapes Go.WideShapes Go.ChangeAt Go.RowKit Go.Maps Go.Proofs.YtmpbhoijkcanmaaGreat.G Go.Joins
set_option linter.unusedVariables false
set_option linter.unusedSimpArgs false
set_option linter.unnecessarySimpa false

variable {w ww w' : World} {rb xb mx last B L n k : Nat} {R : Ro} {F : Fo} {K K' : List (Nat × Obj)}
/-- a version: its number, its block, its list's slice, the list, how often it is held -/
structure XE where
  n : Nat
  b : Nat
  sv : Value
  l : List Pr
  held : Nat
variable {E E' : List XE} {e : XE}
abbrev xobj (mx last : Nat) : Obj := .cells #[.map (some mx), .int .u64 (last : Nat)] 37 (0, 0)
abbrev xvobj (sv : Value) (held : Nat) : Obj := .cells #[sv, .int .i64 (held : Nat)] 58 (0, 0)
def eM (E : List XE) : List (Nat × Value) := E.map fun e => (e.n, ptrV e.b)
def eB (xb mx : Nat) (E : List XE) : List Nat := xb :: mx :: E.map (·.b)
def xown (xb mx : Nat) (E : List XE) (b : Nat) : Prop := b ∈ eB xb mx E ∨ ∃ e, e ∈ E ∧ e.sv.ownBlock = some b
structure XAt (B : Nat) (ww : World) (xb mx last : Nat) (E : List XE) : Prop where
  ob : ww.heap[xb]? = some (xobj mx last)
  map : MapIs Tryz.prog 23 encU ww mx (eM E)
  vob : ∀ e, e ∈ E → ww.heap[e.b]? = some (xvobj e.sv e.held)
  row : ∀ e, e ∈ E → ww.ownsRow B 88 5 e.sv e.l.length (flatP e.l)
  apart : (eB xb mx E).Nodup
  rows : ∀ e, e ∈ E → ∀ b, e.sv.ownBlock = some b → b ∉ eB xb mx E
  base : ∀ b, b ∈ eB xb mx E → B ≤ b
theorem XAt.keys (h : XAt B ww xb mx last E) : (E.map (·.n)).Nodup := by
  have := h.map.nodup
  unfold eM at this
  rw [List.map_map] at this
  exact this
theorem XAt.at_b (h : XAt B ww xb mx last E) {b : Nat} (hb : b ∈ eB xb mx E) : b < ww.heap.size := by
  unfold eB at hb
  rcases List.mem_cons.1 hb with rfl | hb
  · exact lt_of_at h.ob
  · rcases List.mem_cons.1 hb with rfl | hb
    · exact h.map.lt
    · obtain ⟨e, he, rfl⟩ := List.mem_map.1 hb
      exact lt_of_at (h.vob e he)
theorem rown_lt {base nn sz : Nat} {t : TypeId} {v : Value} {xs : List Value} (h : ww.ownsRow base t sz v nn xs) {b : Nat} (hb : v.ownBlock = some b) : b < ww.heap.size ∧ base ≤ b := by
  obtain ⟨_, h⟩ := h
  rcases h with ⟨rfl, _⟩ | ⟨g, cap, cur, rfl, hg, hh, _⟩
  · cases hb
  · simp only [Value.ownBlock, Option.some.injEq] at hb
    subst hb
    exact ⟨lt_of_at hh, hg⟩
theorem owns_same {base nn sz : Nat} {t : TypeId} {v : Value} {xs : List Value} (h : ww.ownsRow base t sz v nn xs) (hs : ∀ b, v.ownBlock = some b → w'.heap[b]? = ww.heap[b]?) : w'.ownsRow base t sz v nn xs := by
  obtain ⟨h0, h⟩ := h
  refine ⟨h0, ?_⟩
  rcases h with h | ⟨g, cap, cur, rfl, hg, hh, h⟩
  · exact .inl h
  · exact .inr ⟨g, cap, cur, rfl, hg, by rw [hs g rfl]; exact hh, h⟩
theorem XAt.own_lt (h : XAt B ww xb mx last E) {b : Nat} (hb : xown xb mx E b) : b < ww.heap.size := by
  rcases hb with hb | ⟨e, he, hb⟩
  · exact h.at_b hb
  · exact (rown_lt (h.row e he) hb).1
theorem XAt.same (h : XAt B ww xb mx last E) (hs : ∀ b, xown xb mx E b → w'.heap[b]? = ww.heap[b]?) : XAt B w' xb mx last E := by
  have hb : ∀ e, e ∈ E → e.b ∈ eB xb mx E := fun e he => by unfold eB; exact List.mem_cons_of_mem _ (List.mem_cons_of_mem _ (List.mem_map_of_mem (f := fun e : XE => e.b) he))
  exact ⟨by rw [hs xb (.inl (by simp [eB]))]; exact h.ob, h.map.kept (hs mx (.inl (by simp [eB]))), fun e he => by rw [hs e.b (.inl (hb e he))]; exact h.vob e he, fun e he => owns_same (h.row e he) fun b hb => hs b (.inr ⟨e, he, hb⟩), h.apart, h.rows, h.base⟩
theorem XAt.turned (h : XAt B ww xb mx last E) {S : List Nat} (t : Turned S ww w') (hS : ∀ b, xown xb mx E b → b ∉ S) : XAt B w' xb mx last E := h.same fun b hb => t.block b (h.own_lt hb) (hS b hb)
theorem XAt.calm (h : XAt B ww xb mx last E) (t : Below ww.heap.size ww w') : XAt B w' xb mx last E := h.turned (Turned.of_below t) (by simp)
theorem XAt.mem_b (h : XAt B ww xb mx last E) (he : e ∈ E) : e.b ∈ eB xb mx E := by unfold eB; exact List.mem_cons_of_mem _ (List.mem_cons_of_mem _ (List.mem_map_of_mem (f := fun e : XE => e.b) he))
theorem XAt.ne (h : XAt B ww xb mx last E) : xb ≠ mx ∧ (∀ e, e ∈ E → e.b ≠ xb ∧ e.b ≠ mx) ∧ (E.map (·.b)).Nodup := by
  have := h.apart
  unfold eB at this
  rw [List.nodup_cons, List.nodup_cons] at this
  simp only [List.mem_cons, not_or] at this
  exact ⟨this.1.1, fun e he => ⟨fun q => this.1.2 (q ▸ List.mem_map_of_mem (f := fun e : XE => e.b) he), fun q => this.2.1 (q ▸ List.mem_map_of_mem (f := fun e : XE => e.b) he)⟩, this.2.2⟩
theorem map_key_inj {α β : Type} {g : α → β} {l : List α} (h : (l.map g).Nodup) {a c : α} (ha : a ∈ l) (hc : c ∈ l) (e : g a = g c) : a = c := by
  induction l with
  | nil => cases ha
  | cons x l ih =>
    rw [List.map_cons, List.nodup_cons] at h
    have key : ∀ z, z ∈ l → g z ≠ g x := fun z hz q => h.1 (q ▸ List.mem_map_of_mem hz)
    rcases List.mem_cons.1 ha with h1 | h1
    · rcases List.mem_cons.1 hc with h2 | h2
      · rw [h1, h2]
      · rw [h1] at e; exact absurd e.symm (key c h2)
    · rcases List.mem_cons.1 hc with h2 | h2
      · rw [h2] at e; exact absurd e (key a h1)
      · exact ih h.2 h1 h2
/-- the newest one's number -/
theorem XAt.setLast (h : XAt B ww xb mx last E) (k : Nat) : XAt B (ww.setCell ⟨xb, 1, none⟩ (.int .u64 (k : Nat))) xb mx k E := by
  have t := (Turned.refl [xb] ww).setCell (p := ⟨xb, 1, none⟩) (.inl (by simp)) (.int .u64 (k : Nat))
  obtain ⟨n1, n2, n3⟩ := h.ne
  exact ⟨block_setCell h.ob _, h.map.turned t (by simpa using n1.symm), fun e he => t.at (h.vob e he) (by simpa using (n2 e he).1), fun e he => owns_same (h.row e he) fun b hb => t.block b (rown_lt (h.row e he) hb).1 (by
    have := h.rows e he b hb
    unfold eB at this
    simp only [List.mem_cons, not_or] at this
    simpa using this.1), h.apart, h.rows, h.base⟩
def ehold (E : List XE) (n k : Nat) : List XE := E.map fun e => if e.n = n then { e with held := k } else e
theorem ehold_b (E : List XE) (n k : Nat) : (ehold E n k).map (·.b) = E.map (·.b) := by
  unfold ehold
  rw [List.map_map]
  exact List.map_congr_left fun e _ => by simp only [Function.comp]; split <;> rfl
theorem ehold_M (E : List XE) (n k : Nat) : eM (ehold E n k) = eM E := by
  unfold ehold eM
  rw [List.map_map]
  exact List.map_congr_left fun e _ => by simp only [Function.comp]; split <;> rfl
theorem mem_ehold {x : XE} (h : x ∈ ehold E n k) : ∃ e, e ∈ E ∧ x.n = e.n ∧ x.b = e.b ∧ x.sv = e.sv ∧ x.l = e.l ∧ x.held = if e.n = n then k else e.held := by
  unfold ehold at h
  obtain ⟨e, he, rfl⟩ := List.mem_map.1 h
  refine ⟨e, he, ?_⟩
  split <;> exact ⟨rfl, rfl, rfl, rfl, rfl⟩
/-- how often one is held -/
theorem XAt.setHeld (h : XAt B ww xb mx last E) (he : e ∈ E) (k : Nat) : XAt B (ww.setCell ⟨e.b, 1, none⟩ (.int .i64 (k : Nat))) xb mx last (ehold E e.n k) := by
  have t := (Turned.refl [e.b] ww).setCell (p := ⟨e.b, 1, none⟩) (.inl (by simp)) (.int .i64 (k : Nat))
  obtain ⟨n1, n2, n3⟩ := h.ne
  have eb : eB xb mx (ehold E e.n k) = eB xb mx E := by unfold eB; rw [ehold_b]
  refine ⟨t.at h.ob (by simpa using (n2 e he).1.symm), by rw [ehold_M]; exact h.map.turned t (by simpa using (n2 e he).2.symm), fun x hx => ?_, fun x hx => ?_, by rw [eb]; exact h.apart, fun x hx b hb => ?_, by rw [eb]; exact h.base⟩
  · obtain ⟨y, hy, q1, q2, q3, q4, q5⟩ := mem_ehold hx
    rw [q2, q3, q5]
    by_cases hn : y.n = e.n
    · obtain rfl : y = e := map_key_inj h.keys hy he hn
      rw [if_pos rfl]
      exact block_setCell (h.vob y hy) _
    · rw [if_neg hn]
      exact t.at (h.vob y hy) (by simp only [List.mem_singleton]; exact fun q => hn (by rw [map_key_inj n3 hy he q]))
  · obtain ⟨y, hy, q1, q2, q3, q4, q5⟩ := mem_ehold hx
    rw [q3, q4]
    exact owns_same (h.row y hy) fun b hb => t.block b (rown_lt (h.row y hy) hb).1 (by
      have := h.rows y hy b hb
      simp only [List.mem_singleton]
      exact fun q => this (q ▸ h.mem_b he))
  · obtain ⟨y, hy, q1, q2, q3, q4, q5⟩ := mem_ehold hx
    rw [eb]; rw [q3] at hb
    exact h.rows y hy b hb
theorem xown_ehold {b : Nat} (h : xown xb mx (ehold E n k) b) : xown xb mx E b := by
  have eb : eB xb mx (ehold E n k) = eB xb mx E := by unfold eB; rw [ehold_b]
  rcases h with h | ⟨x, hx, hb⟩
  · rw [eb] at h; exact .inl h
  · obtain ⟨y, hy, q1, q2, q3, q4, q5⟩ := mem_ehold hx
    exact .inr ⟨y, hy, by rw [← q3]; exact hb⟩
/-- a new one -/
theorem XAt.add (h : XAt B ww xb mx last E) (hn : ∀ e, e ∈ E → e.n ≠ n) (t : Turned [mx] ww w') {sv : Value} {l : List Pr} {b : Nat} (hb : ww.heap.size ≤ b) (ho : w'.heap[b]? = some (xvobj sv 0)) (hm : MapIs Tryz.prog 23 encU w' mx (mput (eM E) n (ptrV b)))
    (hr : w'.ownsRow B 88 5 sv l.length (flatP l)) (hd : ∀ c, sv.ownBlock = some c → c ∉ eB xb mx E ∧ c ≠ b) (hB : B ≤ ww.heap.size) : XAt B w' xb mx last (E ++ [⟨n, b, sv, l, 0⟩]) := by
  obtain ⟨n1, n2, n3⟩ := h.ne
  have eM1 : eM (E ++ [⟨n, b, sv, l, 0⟩]) = mput (eM E) n (ptrV b) := by
    unfold mput
    rw [any_iff]
    have : mget (eM E) n = none := look_none.2 fun p hp => by
      obtain ⟨e, he, rfl⟩ := List.mem_map.1 hp
      exact hn e he
    rw [this, if_neg (by simp)]
    unfold eM
    simp
  have eb : eB xb mx (E ++ [⟨n, b, sv, l, 0⟩]) = eB xb mx E ++ [b] := by unfold eB; simp
  have hfr : b ∉ eB xb mx E := fun hc => by have := h.at_b hc; omega
  refine ⟨t.at h.ob (by simpa using n1), by rw [eM1]; exact hm, fun x hx => ?_, fun x hx => ?_, ?_, fun x hx c hc => ?_, fun c hc => ?_⟩
  · rcases List.mem_append.1 hx with hx | hx
    · exact t.at (h.vob x hx) (by simpa using (n2 x hx).2)
    · simp only [List.mem_singleton] at hx; subst hx; exact ho
  · rcases List.mem_append.1 hx with hx | hx
    · exact owns_same (h.row x hx) fun c hc => t.block c (rown_lt (h.row x hx) hc).1 (by
        have := h.rows x hx c hc
        unfold eB at this
        simp only [List.mem_cons, not_or] at this
        simpa using this.2.1)
    · simp only [List.mem_singleton] at hx; subst hx; exact hr
  · rw [eb, List.nodup_append]
    exact ⟨h.apart, by simp, fun a ha c hc => by simp only [List.mem_singleton] at hc; subst hc; exact fun q => hfr (q ▸ ha)⟩
  · rw [eb, List.mem_append, List.mem_singleton, not_or]
    rcases List.mem_append.1 hx with hx | hx
    · exact ⟨h.rows x hx c hc, fun q => by have := (rown_lt (h.row x hx) hc).1; omega⟩
    · simp only [List.mem_singleton] at hx; subst hx; exact hd c hc
  · rw [eb] at hc
    rcases List.mem_append.1 hc with hc | hc
    · exact h.base c hc
    · simp only [List.mem_singleton] at hc; omega
def edel (E : List XE) (n : Nat) : List XE := E.filter fun e => decide (e.n ≠ n)
theorem mem_edel {x : XE} : x ∈ edel E n ↔ x ∈ E ∧ x.n ≠ n := by unfold edel; rw [List.mem_filter]; simp
theorem edel_sub (xb mx : Nat) (E : List XE) (n : Nat) : (eB xb mx (edel E n)).Sublist (eB xb mx E) := by
  unfold eB edel
  exact ((List.filter_sublist.map _).cons_cons _).cons_cons _
theorem XAt.del (h : XAt B ww xb mx last E) (t : Turned [mx] ww w') (hm : MapIs Tryz.prog 23 encU w' mx (mdel (eM E) n)) : XAt B w' xb mx last (edel E n) := by
  obtain ⟨n1, n2, n3⟩ := h.ne
  have eM1 : eM (edel E n) = mdel (eM E) n := by
    unfold eM edel mdel
    rw [List.filter_map]
    rfl
  have hs := edel_sub xb mx E n
  refine ⟨t.at h.ob (by simpa using n1), by rw [eM1]; exact hm, fun x hx => t.at (h.vob x (mem_edel.1 hx).1) (by simpa using (n2 x (mem_edel.1 hx).1).2), fun x hx => ?_, h.apart.sublist hs, fun x hx c hc hm => h.rows x (mem_edel.1 hx).1 c hc (hs.subset hm), fun c hc => h.base c (hs.subset hc)⟩
  have hx := (mem_edel.1 hx).1
  exact owns_same (h.row x hx) fun c hc => t.block c (rown_lt (h.row x hx) hc).1 (by
    have := h.rows x hx c hc
    unfold eB at this
    simp only [List.mem_cons, not_or] at this
    simpa using this.2.1)
theorem xown_edel {b : Nat} (h : xown xb mx (edel E n) b) : xown xb mx E b := by
  rcases h with h | ⟨x, hx, hb⟩
  · exact .inl ((edel_sub xb mx E n).subset h)
  · exact .inr ⟨x, (mem_edel.1 hx).1, hb⟩
def eget (E : List XE) (n : Nat) : Option XE := E.find? fun e => decide (e.n = n)
theorem eget_some (h : eget E n = some e) : e ∈ E ∧ e.n = n := ⟨List.mem_of_find?_eq_some h, by simpa using List.find?_some h⟩
theorem eget_none (h : eget E n = none) : ∀ e, e ∈ E → e.n ≠ n := fun e he q => by
  have := List.find?_eq_none.1 h e he
  simp [q] at this
theorem look_eM (E : List XE) (n : Nat) : mget (eM E) n = (eget E n).map fun e => ptrV e.b := by
  unfold eM eget
  induction E with
  | nil => rfl
  | cons x l ih =>
    rw [List.map_cons, look_cons, ih, List.find?_cons]
    simp only
    by_cases h : x.n = n
    · rw [if_pos h]; simp [h]
    · rw [if_neg h]; simp [h]
theorem eget_mem (hn : (E.map (·.n)).Nodup) (he : e ∈ E) : eget E e.n = some e := by
  cases h : eget E e.n with
  | none => exact absurd rfl (eget_none h e he)
  | some x =>
    obtain ⟨h1, h2⟩ := eget_some h
    rw [map_key_inj hn h1 he h2]
theorem zeroX (w : World) : (zeroValue 56).run Tryz.prog w = .ok (.pointer none) w := by kernel_rfl
theorem XAt.look (h : XAt B ww xb mx last E) (hn : n < 2 ^ 64) : (Instr.lookup 35 (.map (some mx)) (.int .u64 (n : Nat)) false).run Tryz.prog ww = .ok (match eget E n with | some e => ptrV e.b | none => .pointer none) ww := by
  obtain ⟨k, hk⟩ := keyU n hn
  have := h.map.run_look keyedU encU_inj Tryz.underlying35 (zeroX ww) n hk false
  rw [look_eM] at this
  cases e : eget E n with
  | none => rw [e] at this; exact this
  | some v => rw [e] at this; exact this
theorem XAt.c0 (h : XAt B ww xb mx last E) : ww.cell? ⟨xb, 0, none⟩ = some (.map (some mx)) := by simp [World.cell?, h.ob]
theorem XAt.c1 (h : XAt B ww xb mx last E) : ww.cell? ⟨xb, 1, none⟩ = some (.int .u64 (last : Nat)) := by simp [World.cell?, h.ob]
theorem XAt.fz (h : XAt B ww xb mx last E) (i : Nat) : ww.frozen? ⟨xb, i, none⟩ = false := by simp [World.frozen?, h.ob]
theorem XAt.v0 (h : XAt B ww xb mx last E) (he : e ∈ E) : ww.cell? ⟨e.b, 0, none⟩ = some e.sv := by simp [World.cell?, h.vob e he]
theorem XAt.v1 (h : XAt B ww xb mx last E) (he : e ∈ E) : ww.cell? ⟨e.b, 1, none⟩ = some (.int .i64 (e.held : Nat)) := by simp [World.cell?, h.vob e he]
theorem XAt.vfz (h : XAt B ww xb mx last E) (he : e ∈ E) (i : Nat) : ww.frozen? ⟨e.b, i, none⟩ = false := by simp [World.frozen?, h.vob e he]
/-- both side by side -/
def XSt (w wr : World) (rb L : Nat) (R : Ro) (F : Fo) (xb last : Nat) (E : List XE) : Prop := ∃ mx K, RtM w wr rb L R F K ∧ XAt w.heap.size wr xb mx last E ∧ ∀ b, xown xb mx E b → b ∈ keysK K
theorem XSt.run {wr : World} (h : XSt w wr rb L R F xb last E) : ∃ K, RtM w wr rb L R F K ∧ ∀ w' L' R' G, RtM w w' rb L' R' G K → XSt w w' rb L' R' G xb last E := by
  obtain ⟨mx, K, h1, h2, h3⟩ := h
  refine ⟨K, h1, fun w' L' R' G h => ⟨mx, K, h, h2.same fun b hb => ?_, h3⟩⟩
  obtain ⟨o, ho⟩ := mem_keysK.1 (h3 b hb)
  rw [h.at ho, h1.at ho]
open Classical in
theorem RtM.xch (h : RtM w ww rb L R F K) (t : Turned (keysK K) ww w') (hb : ∀ b, b ∈ keysK K → w.heap.size ≤ b) {P : Nat → Prop} (hl : ∀ b, P b → b < w'.heap.size) (hf : ∀ b, P b → b ∈ keysK K ∨ ww.heap.size ≤ b) : ∃ K', RtM w w' rb L R F K' ∧ ∀ b, P b → b ∈ keysK K' := by
  have hbel := h.bel
  obtain ⟨f, mb, mo, blk, h⟩ := h
  obtain ⟨Ka, c1, c2, c3⟩ := h.cv
  have hm : ∀ b, b ∈ (List.range w'.heap.size).filter (fun b => decide (P b)) ↔ P b := fun b => by
    rw [List.mem_filter, List.mem_range, decide_eq_true_eq]
    exact ⟨fun h => h.2, fun h => ⟨hl b h, h⟩⟩
  refine ⟨snap w' ((List.range w'.heap.size).filter fun b => decide (P b)), c1.make w' _ (Turned.below_of hbel t hb) (fun x hx => t.at (c2 x hx) (c3 _ (mem_keysK.2 ⟨_, hx⟩))) (fun x hx => snap_at (fun b hb => hl b ((hm b).1 hb)) hx) (by rw [keys_snap]; exact List.nodup_range.filter _) (fun b hb' hk => ?_), fun b hb => by rw [keys_snap]; exact (hm b).2 hb⟩
  rw [keys_snap, hm] at hb'
  rcases hf b hb' with q | q
  · exact c3 b hk q
  · obtain ⟨o, ho⟩ := mem_keysK.1 hk
    have := lt_of_at (c2 _ ho)
    omega
theorem XSt.ref {wr : World} (h : XSt w wr rb L R F xb last E) : ∃ mx, XAt w.heap.size wr xb mx last E ∧ ∀ w' last' E', XAt w.heap.size w' xb mx last' E' → Turned (eB xb mx E) wr w' → (∀ b, xown xb mx E' b → xown xb mx E b ∨ wr.heap.size ≤ b) → XSt w w' rb L R F xb last' E' := by
  obtain ⟨mx, K, h1, h2, h3⟩ := h
  refine ⟨mx, h2, fun w' last' E' k1 k2 k3 => ?_⟩
  obtain ⟨K0, hK0, hs⟩ : ∃ K0, (∀ b, b ∈ keysK K0 ↔ (b ∈ keysK K ∧ w.heap.size ≤ b)) ∧ RtM w wr rb L R F K0 := by
    refine ⟨K.filter fun x => decide (w.heap.size ≤ x.1), fun b => ?_, h1.sub (fun x hx => (List.mem_filter.1 hx).1) ?_⟩
    · rw [mem_keysK, mem_keysK]
      simp only [List.mem_filter, decide_eq_true_eq]
      exact ⟨fun ⟨o, h1, h2⟩ => ⟨⟨o, h1⟩, h2⟩, fun ⟨⟨o, h1⟩, h2⟩ => ⟨o, h1, h2⟩⟩
    · exact h1.nodup.sublist (List.filter_sublist.map _)
  have hw : ∀ b, xown xb mx E b → b ∈ keysK K0 := fun b hb => (hK0 b).2 ⟨h3 b hb, by
    rcases hb with hb | ⟨e, he, hb⟩
    · exact h2.base b hb
    · exact (rown_lt (h2.row e he) hb).2⟩
  obtain ⟨K', q1, q2⟩ := hs.xch (k2.mono fun b _ hb => hw b (.inl hb)) (fun b hb => ((hK0 b).1 hb).2) (P := xown xb mx E') (fun b hb => k1.own_lt hb) fun b hb => (k3 b hb).imp (hw b) id
  exact ⟨mx, K', q1, k1, q2⟩
theorem XSt.calm {wr : World} (h : XSt w wr rb L R F xb last E) (b : Below wr.heap.size wr w') : XSt w w' rb L R F xb last E := by
  obtain ⟨mx, K, h1, h2, h3⟩ := h
  exact ⟨mx, K, h1.calm b, h2.calm b, h3⟩
end Go.Proofs.YtmpbhoijkcanmaaGreat.R
