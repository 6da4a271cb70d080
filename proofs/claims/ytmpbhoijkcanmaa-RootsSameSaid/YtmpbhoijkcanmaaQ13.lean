/- Maps of pages, and versions of them: lemmas, part 13 of 14. -/
import Derived.Laws.AppendOwnNone
import Derived.Test.YtmpbhoijkcanmaaQ12

/- Roots: what two of them side by side answer; one version alone: the plain law. -/
namespace Go.Proofs.Ytmpbhoijkcanmaa.R
open Go.ChangeShapes Go.WideShapes Go.ChangeAt Go.RowKit Go.Maps Go.Proofs.Ytmpbhoijkcanmaa.G
set_option linter.unusedVariables false
set_option linter.unusedSimpArgs false
set_option linter.unnecessarySimpa false

variable {w ww w' w1 : World} {rb ra L La T n m : Nat} {R Ra R' : Ro} {F G Fa F' : Fo} {Kx Ky K Ka Kb : List (Nat × Obj)} {l : List ChD} {r : Nat} {g : Nat → Option Ent}
theorem RtM.sub (h : RtM w ww rb L R F Kx) (hs : ∀ x, x ∈ Ky → x ∈ Kx) (hn : (keysK Ky).Nodup) : RtM w ww rb L R F Ky := by
  have hat := fun x hx => RtM.at (x := x) h hx
  have hbel := h.bel
  obtain ⟨f, mb, mo, blk, h⟩ := h
  obtain ⟨Ka, c1, c2, c3⟩ := h.cv
  refine c1.make ww Ky hbel c2 (fun x hx => hat x (hs x hx)) hn fun b hb hm => ?_
  obtain ⟨o, ho⟩ := mem_keysK.1 hb
  exact c3 b hm (mem_keysK.2 ⟨o, hs _ ho⟩)
theorem RtM.nodup (h : RtM w ww rb L R F Kx) : (keysK Kx).Nodup := by
  obtain ⟨f, mb, mo, blk, h⟩ := h
  exact h.apart.xx
/-- a new row comes -/
theorem RtM.row (h : RtM w ww rb L R F Kx) (b : Below ww.heap.size ww w') {n sz : Nat} {t : TypeId} {v : Value} {xs : List Value} (r : w'.ownsRow ww.heap.size t sz v n xs) : ∃ K1, RtM w w' rb L R F (K1 ++ Kx) ∧ RowO K1 w.heap.size t sz v n xs := by
  have hat := fun x hx => RtM.at (x := x) h hx
  have hnd := h.nodup
  have hbel := h.bel
  have hw := hbel.size
  obtain ⟨f, mb, mo, blk, h⟩ := h
  obtain ⟨Ka, c1, c2, c3⟩ := h.cv
  obtain ⟨K1, r1, hK1⟩ := RowO.of r
  have tb := Turned.of_below b
  have hlt : ∀ b, b ∈ keysK Kx → b < ww.heap.size := fun b hb => by
    obtain ⟨o, ho⟩ := mem_keysK.1 hb
    exact lt_of_at (hat _ ho)
  have hla : ∀ b, b ∈ keysK Ka → b < ww.heap.size := fun b hb => by
    obtain ⟨o, ho⟩ := mem_keysK.1 hb
    exact lt_of_at (c2 _ ho)
  have ek : keysK (K1 ++ Kx) = keysK K1 ++ keysK Kx := List.map_append
  refine ⟨K1, c1.make w' (K1 ++ Kx) (hbel.trans (b.mono hw)) (fun x hx => tb.at (c2 x hx) (by simp)) (fun x hx => ?_) ?_ fun b hb hm => ?_, fun W hW => owns_mono (r1.row W hW) hw, r1.own, r1.one, fun b hb => Nat.le_trans hw (r1.base b hb)⟩
  · rcases List.mem_append.1 hx with hx | hx
    · exact hK1 x hx
    · exact tb.at (hat x hx) (by simp)
  · rw [ek, List.nodup_append]
    exact ⟨r1.one, hnd, fun x hx y hy e => by have := r1.base x hx; have := hlt y hy; omega⟩
  · rw [ek] at hb
    rcases List.mem_append.1 hb with hb | hb
    · have := r1.base b hb; have := hla b hm; omega
    · exact c3 b hm hb
theorem flatC_len (l : List ChD) : (l.flatMap encCh).length = l.length * 6 := by
  induction l with
  | nil => rfl
  | cons x l ih => simp [encCh] at *; omega
theorem flatC_get (l : List ChD) (i r : Nat) (hi : i < l.length) (hr : r < 6) : (l.flatMap encCh)[i * 6 + r]? = (encCh l[i])[r]? := by
  induction l generalizing i with
  | nil => simp at hi
  | cons x xs ih =>
    have e : (x :: xs).flatMap encCh = encCh x ++ xs.flatMap encCh := rfl
    rw [e]
    match i with
    | 0 => rw [List.getElem?_append_left (by simp [encCh]; omega)]; simp
    | i + 1 =>
      rw [List.getElem?_append_right (by simp [encCh]; omega)]
      have : (i + 1) * 6 + r - (encCh x).length = i * 6 + r := by simp [encCh]; omega
      rw [this, ih i (by simpa using hi)]
      simp
/-- a row of changes of one's own, as an argument -/
theorem chsAt_of {base : Nat} {v : Value} {n : Nat} (h : w.ownsRow base 83 6 v n (l.flatMap encCh)) : ∃ a cap, v = .slice a n cap ∧ ChsAt w a n l := by
  obtain ⟨h1, h2⟩ := h
  have hl : l.length = n := by have := flatC_len l; omega
  rcases h2 with ⟨rfl, rfl⟩ | ⟨g, cap, cur, rfl, hg, hh, hn, hc, hs, ht⟩
  · exact ⟨none, 0, rfl, hl, .inl rfl⟩
  · refine ⟨_, cap, rfl, hl, .inr ⟨g, 0, rfl, lt_of_at hh, fun i hi j u hu => ?_⟩⟩
    have hj : j < 6 := by
      rcases Nat.lt_or_ge j 6 with h | h
      · exact h
      · rw [List.getElem?_eq_none (by simpa [encCh] using h)] at hu; cases hu
    have h1 : (cur.toList.take (n * 6))[i * 6 + j]? = cur.toList[i * 6 + j]? := by rw [List.getElem?_take, if_pos (by omega)]
    rw [ht, flatC_get l i j hi hj, hu] at h1
    rw [Nat.zero_add]
    simp [World.cell?, hh, h1]
theorem chsK_row {base n : Nat} {v : Value} (r : RowO Ka base 83 6 v n (l.flatMap encCh)) (hs : ∀ x, x ∈ Ka → x ∈ Kx) {a : Option Addr} {len cap : Nat} (hv : v = .slice a len cap) : ChsK w Kx a len l := fun wr hK hb => by
  obtain ⟨a', cap', e, h⟩ := chsAt_of (r.row wr fun x hx => hK x (hs x hx))
  rw [hv] at e
  simp only [Value.slice.injEq] at e
  obtain ⟨rfl, rfl, rfl⟩ := e
  exact h
/-- a publishing that changes nothing: nothing goes, as many nodes -/
theorem pub_none {v : Vr} {ys : List Slot} (h : RoOk R F T) (k0 : Ok F L) (hv : vget R.vs R.now = some v) (hh : v.held = 0) (k : Ok (madeF F v.root) La) (s : Sw ⟨R.vs ++ [(R.now + 1, ⟨v.root, 0⟩)], R.now + 1⟩ (madeF F v.root) La R.now v R' G ys) : ys = [] ∧ G.ids.length = F.ids.length := by
  rcases s with ⟨h1, _⟩ | ⟨_, _, d⟩
  · rcases h1 with h1 | h1
    · exact absurd h1 (by simp)
    · omega
  · have hG : ∀ i : Int, cnt G.held i = cnt F.held i := fun i => by
      rw [d.held, madeF_held]
      by_cases e : v.root ≠ 0 ∧ i = (v.root : Int)
      · rw [if_pos e, if_pos e]; omega
      · rw [if_neg e, if_neg e]; omega
    have hh : ∀ i : Nat, 0 < cnt (madeF F v.root).held (i : Int) → 0 < cnt G.held (i : Int) := fun i hi => by
      rw [hG]
      rw [madeF_held] at hi
      by_cases e : v.root ≠ 0 ∧ (i : Int) = (v.root : Int)
      · have e2 : i = v.root := by omega
        rw [e2, h.held _ e.1]
        exact List.count_pos_iff.2 (List.mem_map.2 ⟨_, vget_some hv, rfl⟩)
      · rw [if_neg e] at hi; omega
    refine ⟨?_, ?_⟩
    · have : ∀ s, s ∉ ys := fun s hs => by
        obtain ⟨h1, h2⟩ := (d.gone.mem s).1 hs
        refine h2 ((hasS_iff d.ok s).2 ?_)
        obtain ⟨r, hr, q, hq, x, hx, hxs⟩ := (hasS_iff k s).1 h1
        refine ⟨r, hh r hr, q, hq, x, ?_, hxs⟩
        rw [← hx]
        exact (getL_ext d.ok.inv d.ext 2 r q (.inr (d.ok.root (hh r hr)))).symm
      cases ys with
      | nil => rfl
      | cons y ys => exact absurd List.mem_cons_self (this y)
    · rw [← len_same k d.ok d.ext hh, madeF_ids]
theorem two_new (h : Two w ww ra La Ra Fa rb L R F K) : ∃ Kb, RtM w ww ra La Ra Fa (Kb ++ K) ∧ Cv w Kb rb L R F := h
/-- what came of publishing, of one of two -/
def twoPub (w : World) (ra La : Nat) (Ra : Ro) (Fa : Fo) (rb L : Nat) (R : Ro) (F : Fo) (K : List (Nat × Obj)) (v : Vr) (l : List ChD) (T : Nat) (e : Ending) (w' : World) : Prop :=
  ∃ (a : Option Addr) (len cap : Nat) (R' : Ro) (G : Fo) (ys : List Slot), len = ys.length ∧ e = .returned (.tuple #[.int .u64 ((Ra.now + 1 : Nat) : Int), .slice a len cap, .int .i64 0]) ∧ PubIs Ra Fa v l T R' G (La + 1 + 3 * l.length) ys ∧ (l = [] → v.held = 0 → ys = [] ∧ G.ids.length = Fa.ids.length) ∧ Two w w' ra (La + 1 + 3 * l.length) R' G rb L R F K
theorem two_pub (h : Two w w1 ra La Ra Fa rb L R F K) (hR : RoOk Ra Fa T) (hT : T ≤ 2 ^ 34) (hL : La ≤ 2 ^ 33) {a : Option Addr} {len cap : Nat} (hb : Below w1.heap.size w1 ww) (hrow : ww.ownsRow w1.heap.size 83 6 (.slice a len cap) len (l.flatMap encCh))
    (hok : ∀ x, x ∈ l → x.ok) (hn : len ≤ 1048576) (hval : ∀ x, x ∈ l → x.val) {v : Vr} (hv : vget Ra.vs Ra.now = some v) :
    Calls Try.prog 27 #[.pointer (some ⟨ra, 0, none⟩), .int .u64 (Ra.now : Nat), .slice a len cap] ww (twoPub w ra La Ra Fa rb L R F K v l T) := by
  obtain ⟨Kb, h, c⟩ := h
  have hnd := h.nodup
  obtain ⟨K1, h1, r1⟩ := h.row hb hrow
  obtain ⟨f, mb, mo, blk, h1⟩ := h1
  refine (rpub_ok h1 hR hT hL a len cap l (chsK_row r1 (fun x hx => List.mem_append.2 (.inl hx)) rfl) hok hn hval hv).mono fun e w' ⟨a', len', cap', F', r, R', G, ys, e1, e2, e3, e4, e4', e5, e6, e7⟩ =>
    ⟨a', len', cap', R', G, ys, e1, e2, pub_is hR hv e3 e4 e5, fun hl hh => ?_, Kb, e7.sub (fun x hx => List.mem_append.2 (.inr hx)) hnd, c⟩
  obtain ⟨rfl, rfl⟩ := e4' hl
  exact pub_none hR h1.ok hv hh e3 e5
/-- one that may not be -/
theorem two_pub_bad (h : Two w w1 ra La Ra Fa rb L R F K) {a : Option Addr} {len cap : Nat} (hb : Below w1.heap.size w1 ww) (hrow : ww.ownsRow w1.heap.size 83 6 (.slice a len cap) len (l.flatMap encCh))
    (hok : ∀ x, x ∈ l → x.ok) (hn : len ≤ maxLen) (hval : ¬ ∀ x, x ∈ l → x.val) :
    Calls Try.prog 27 #[.pointer (some ⟨ra, 0, none⟩), .int .u64 (Ra.now : Nat), .slice a len cap] ww fun e w' => e = .returned (.tuple #[.int .u64 0, .slice none 0 0, .int .i64 2]) ∧ Two w w' ra La Ra Fa rb L R F K := by
  have h2 := h.calm hb
  obtain ⟨a', cap', e, hat⟩ := chsAt_of hrow
  simp only [Value.slice.injEq] at e
  obtain ⟨rfl, -, rfl⟩ := e
  obtain ⟨Kb, ⟨f, mb, mo, blk, h1⟩, c⟩ := h2
  exact (rpub_loop h1 a len cap l hat hok hn hval).mono fun e w' ⟨e1, e2⟩ => ⟨e1, Kb, ⟨f, mb, mo, blk, h1.calm e2⟩, c⟩
theorem two_now (h : Two w ww ra La Ra Fa rb L R F K) : Calls Try.prog 24 #[.pointer (some ⟨ra, 0, none⟩)] ww fun e w' => e = .returned (.int .u64 (Ra.now : Nat)) ∧ ww = w' := by
  obtain ⟨Kb, ⟨f, mb, mo, blk, h⟩, c⟩ := h
  exact rnow_fn h
theorem two_nodes (h : Two w ww ra La Ra Fa rb L R F K) : Calls Try.prog 35 #[.pointer (some ⟨ra, 0, none⟩)] ww fun e w' => e = .returned (.int .i64 (Fa.ids.length : Nat)) ∧ ww = w' := by
  obtain ⟨Kb, ⟨f, mb, mo, blk, h⟩, c⟩ := h
  exact rnodes_fn h
theorem two_all (h : Two w ww ra La Ra Fa rb L R F K) (hR : RoOk Ra Fa T) (hL : La ≤ 2 ^ 34) (hn : n < 2 ^ 64) {v : Vr} (hv : vget Ra.vs n = some v) : Calls Try.prog 25 #[.pointer (some ⟨ra, 0, none⟩), .int .u64 (n : Nat)] ww (rallPost ww (mapL Fa v.root)) := by
  obtain ⟨Kb, ⟨f, mb, mo, blk, h⟩, c⟩ := h
  exact rall_yes h hL hn hv (hR.root hv)
theorem two_slots (h : Two w ww ra La Ra Fa rb L R F K) (hL : La ≤ 2 ^ 34) : Calls Try.prog 30 #[.pointer (some ⟨ra, 0, none⟩)] ww fun e w' => ∃ v zs, e = .returned v ∧ SlotsIs (HasS Fa) zs ∧ w'.ownsRow ww.heap.size 31 3 v zs.length (flat zs) ∧ Below ww.heap.size ww w' := by
  obtain ⟨Kb, ⟨f, mb, mo, blk, h⟩, c⟩ := h
  exact rslots_fn h hL
/-- one version alone, that nobody holds -/
structure Solo (R : Ro) (F : Fo) (L T m r : Nat) (g : Nat → Option Ent) : Prop where
  ok : RoOk R F T
  fo : Ok F L
  now : R.now = m
  one : ∀ x, x ∈ R.vs → x = (m, ⟨r, 0⟩)
  v : vget R.vs R.now = some ⟨r, 0⟩
  get : ∀ q, q < 4096 → getL 2 F r q = g q
theorem Solo.start : Solo ro0 fo0 0 0 0 0 fun _ => none := ⟨ro0_ok, fo0_ok, rfl, fun x hx => by simp [ro0] at hx; exact hx, rfl, fun q _ => getL_zero _ _ _⟩
theorem chgs_cong {g g' : Nat → Option Ent} (h : ∀ q, q < 4096 → g q = g' q) (l : List ChD) : ∀ q, q < 4096 → chgs g l q = chgs g' l q := by
  induction l generalizing g g' with
  | nil => exact h
  | cons c l ih =>
    refine ih (g := chg g c) (g' := chg g' c) fun q hq => ?_
    unfold chg
    rw [h q hq]
theorem Solo.pub {ys : List Slot} {L' : Nat} (h : Solo R F L T m r g) (p : PubIs R F ⟨r, 0⟩ l T R' G L' ys) : ∃ r', Solo R' G L' (T + 1) (m + 1) r' (chgs g l) := by
  obtain ⟨r', h1, h2⟩ := p.new
  have hn := h.now
  have hn' : R'.now = R.now + 1 := p.now
  refine ⟨r', p.ok, p.fo, by omega, fun x hx => ?_, by rw [hn']; exact h1, fun q hq => (h2 q hq).trans (chgs_cong h.get l q hq)⟩
  by_cases e : x.1 = R.now + 1
  · have := vget_mem p.ok.keys (n := x.1) (v := x.2) hx
    rw [e, h1] at this
    have e2 : x.2 = ⟨r', 0⟩ := (Option.some.inj this).symm
    exact Prod.ext (by omega) e2
  · have ho := (p.old x hx e).1
    have hx1 := h.one x ho
    subst hx1
    have := (p.keptN.1 (by rw [h.now]; exact hx))
    exact absurd this (by simp)
theorem chg_comm (g : Nat → Option Ent) (a b : ChD) (h : a.page ≠ b.page) : chg (chg g a) b = chg (chg g b) a := by
  funext q
  unfold chg
  by_cases e1 : (q : Int) = b.page
  · have e3 : ¬ (q : Int) = a.page := fun e => h (e.symm.trans e1)
    rw [if_pos e1, if_neg e3, if_pos e1]
  · rw [if_neg e1]
    by_cases e2 : (q : Int) = a.page
    · rw [if_pos e2, if_pos e2]
    · rw [if_neg e2, if_neg e2, if_neg e1]
/-- changes of unlike pages, in any order -/
theorem chgs_perm {l l' : List ChD} (h : l.Perm l') : ∀ g, (l.map ChD.page).Nodup → chgs g l = chgs g l' := by
  induction h with
  | nil => exact fun g _ => rfl
  | cons x _ ih =>
    intro g hn
    rw [List.map_cons, List.nodup_cons] at hn
    exact ih (chg g x) hn.2
  | swap x y l =>
    intro g hn
    show chgs (chg (chg g y) x) l = chgs (chg (chg g x) y) l
    rw [chg_comm]
    rw [List.map_cons, List.map_cons, List.nodup_cons] at hn
    exact fun e => hn.1 (by rw [e]; exact List.mem_cons_self)
  | trans h1 _ ih1 ih2 =>
    intro g hn
    rw [ih1 g hn, ih2 g ((h1.map _).nodup_iff.1 hn)]
/-- maps that are alike have the same slots -/
theorem Solo.slots {Rb : Ro} {Fb : Fo} {Lb Tb mb rb : Nat} {gb : Nat → Option Ent} (h : Solo R F L T m r g) (k : Solo Rb Fb Lb Tb mb rb gb) (e : ∀ q, q < 4096 → g q = gb q) {xs ys : List Slot} (hx : SlotsIs (HasS F) xs) (hy : SlotsIs (HasS Fb) ys) : xs = ys := by
  have key : ∀ {R : Ro} {F : Fo} {L T m r : Nat} {g : Nat → Option Ent}, Solo R F L T m r g → ∀ s, HasS F s ↔ ∃ q, q < 4096 ∧ ∃ x : Ent, g q = some x ∧ x.s = s := fun {R F L T m r g} h s => by
    rw [slots_iff h.ok.pre h.fo s]
    constructor
    · rintro ⟨x, hx, q, hq, y, hy, e⟩
      rw [h.one x hx] at hy
      exact ⟨q, hq, y, by rw [← h.get q hq]; exact hy, e⟩
    · rintro ⟨q, hq, x, hx, e⟩
      exact ⟨_, vget_some h.v, q, hq, x, by rw [h.get q hq]; exact hx, e⟩
  refine hx.uniq hy fun s => ?_
  rw [key h, key k]
  constructor
  · rintro ⟨q, hq, x, hx, e'⟩; exact ⟨q, hq, x, by rw [← e q hq]; exact hx, e'⟩
  · rintro ⟨q, hq, x, hx, e'⟩; exact ⟨q, hq, x, by rw [e q hq]; exact hx, e'⟩
theorem Solo.map (h : Solo R F L T m r g) : mapL F r = allL g 4096 := allL_congr 4096 fun q hq => h.get q hq
/-- one version alone, of one of two: publishing -/
theorem solo_pub (h : Two w w1 ra La Ra Fa rb L R F K) (s : Solo Ra Fa La T m r g) (hT : T ≤ 2 ^ 34) (hL : La ≤ 2 ^ 33) {a : Option Addr} {len cap : Nat} (hb : Below w1.heap.size w1 ww) (hrow : ww.ownsRow w1.heap.size 83 6 (.slice a len cap) len (l.flatMap encCh))
    (hok : ∀ x, x ∈ l → x.ok) (hn : len ≤ 1048576) (hval : ∀ x, x ∈ l → x.val) :
    Calls Try.prog 27 #[.pointer (some ⟨ra, 0, none⟩), .int .u64 (m : Nat), .slice a len cap] ww fun e w' => ∃ (a' : Option Addr) (len' cap' : Nat) (R' : Ro) (G : Fo) (r' : Nat), e = .returned (.tuple #[.int .u64 ((m + 1 : Nat) : Int), .slice a' len' cap', .int .i64 0]) ∧
      (l = [] → len' = 0 ∧ G.ids.length = Fa.ids.length) ∧ Two w w' ra (La + 1 + 3 * l.length) R' G rb L R F K ∧ Solo R' G (La + 1 + 3 * l.length) (T + 1) (m + 1) r' (chgs g l) := by
  have := two_pub h s.ok hT hL hb hrow hok hn hval s.v
  rw [s.now] at this
  refine this.mono fun e w' ⟨a', len', cap', R', G, ys, e1, e2, e3, e4, e5⟩ => ?_
  rw [s.now] at e2
  obtain ⟨r', hr⟩ := s.pub e3
  refine ⟨a', len', cap', R', G, r', e2, fun hl => ?_, e5, hr⟩
  obtain ⟨rfl, h2⟩ := e4 hl rfl
  exact ⟨e1, h2⟩
theorem infoChg : (Try.prog.info? 83).map (fun i => (i.zero, i.size, i.bytes)) = some (some (.agg #[.int .i64 0, .int .i64 0, .int .i64 0, .int .i64 0, .int .i64 0, .bool false]), 6, 48) := by kernel_rfl
theorem encCh_one (l : List ChD) : ∀ u ∈ l.flatMap encCh, u.oneCell' = true := by
  intro u hu
  obtain ⟨c, _, hc⟩ := List.mem_flatMap.1 hu
  simp only [encCh, List.mem_cons, List.not_mem_nil, or_false] at hc
  rcases hc with rfl | rfl | rfl | rfl | rfl | rfl <;> rfl
/-- changes that are handed in are copied -/
theorem wpList_append_chs {ops : Array Oper} {rest : List Oper} {o : Oper} {a : Act} {Q : Exit → Act → World → Prop} (hgd : o.guard = none) (s x : Operand)
    (ho : o.op = .call { callee := .builtin .append, args := #[s, x], argTypes := #[67, 67] }) (base : Nat) (v : Value) (hs : a.eval s = v) (hown : w.ownsRow base 83 6 v 0 [])
    (ad : Option Addr) (len cap : Nat) (l : List ChD) (hx : a.eval x = .slice ad len cap) (hl : ChsAt w ad len l) (hc : ad = none → cap = 0) (hn : len ≤ 1048576) (hbase : base ≤ w.heap.size)
    (h : ∀ v' w', w'.ownsRow base 83 6 v' len (l.flatMap encCh) → w.grownBy w' v.ownBlock → wpList Try.prog ops Q rest (a.put o.dst v') w') : wpList Try.prog ops Q (o :: rest) a w := by
  obtain ⟨i0, hi, hz0, hz1, hz2⟩ := info_parts infoChg
  cases ad with
  | none =>
    have hl0 : len = 0 := by
      rcases hl.2 with h0 | ⟨b, off, e, _⟩
      · exact h0
      · cases e
    subst hl0
    obtain rfl := hc rfl
    obtain rfl : l = [] := List.length_eq_zero_iff.1 hl.1
    exact wpList_append_own_none hgd s x 67 ho base 83 i0 6 Try.underlying67 hi v 0 [] hs hown hx (h v w hown ⟨rfl, rfl, rfl, Nat.le_refl _, fun k _ _ => rfl⟩)
  | some p =>
    refine wpList_append_own_at _ hgd s x 67 ho base 83 i0 _ 6 48 Try.underlying67 hi hz0 hz1 hz2 rfl (by decide) v 0 [] hs hown p len cap (l.flatMap encCh) hx (by rw [flatC_len, hl.1]) (fun j u hu => ?_) (encCh_one l) (by unfold maxLen; omega) (by omega) hbase (fun v' w' h1 h2 _ _ => h v' w' (by rw [Nat.zero_add, List.nil_append] at h1; exact h1) h2)
    have hj : j < l.length * 6 := by
      rcases Nat.lt_or_ge j (l.length * 6) with h | h
      · exact h
      · rw [List.getElem?_eq_none (by rw [flatC_len]; exact h)] at hu; cases hu
    obtain ⟨b, off, c, e, hb, hcl, hcell⟩ := RowsAt.at hl (j / 6) (by rw [← hl.1]; omega)
    simp only [Option.some.injEq] at e
    subst e
    have hi6 : j / 6 < l.length := by omega
    have e2 := flatC_get l (j / 6) (j % 6) hi6 (by omega)
    rw [show j / 6 * 6 + j % 6 = j by omega, hu] at e2
    rw [List.getElem?_eq_getElem hi6] at hcl
    rw [Option.some.inj hcl] at e2
    have := hcell (j % 6) u e2.symm
    rw [addr_add_none]
    rw [show off + j / 6 * 6 + j % 6 = off + j by omega] at this
    exact this
theorem below_app2 {w w4 : World} {o : Obj} (h : (w.alloc o).grownBy w4 (some w.heap.size)) : Below w.heap.size w w4 :=
  Turned.below ((((Turned.refl [] w).alloc o).grown h) fun k e => .inr (by simp only [Option.some.injEq] at e; omega))
end Go.Proofs.Ytmpbhoijkcanmaa.R
