/- Maps of pages, and versions of them: lemmas, part 14 of 14. -/
import Derived.Deep.QuietTactic
import Derived.Maps.AppendAt
import Derived.Deep.RegionLaw
import Derived.Laws.AppendOwnNone
import Derived.Test.YtmpbhoijkcanmaaQ13

/- Roots: two of them side by side. -/
namespace Go.Proofs.Ytmpbhoijkcanmaa.R
open Go.ChangeShapes Go.WideShapes Go.ChangeAt Go.RowKit Go.Maps Go.Proofs.Ytmpbhoijkcanmaa.G
set_option linter.unusedVariables false
set_option linter.unusedSimpArgs false
set_option linter.unnecessarySimpa false

variable {w ww w' w1 : World} {rb ra L La T n : Nat} {R Ra : Ro} {F G Fa : Fo} {Kx K Ka Kb : List (Nat × Obj)} {f mb : Nat} {mo : Obj} {blk : Nat → Nat} {p : Pf}
theorem cell_same {a : Addr} (h : w'.heap[a.block]? = ww.heap[a.block]?) : w'.cell? a = ww.cell? a := by unfold World.cell?; rw [h]
theorem frozen_same {a : Addr} (h : w'.heap[a.block]? = ww.heap[a.block]?) : w'.frozen? a = ww.frozen? a := by unfold World.frozen?; rw [h]
/-- a forest stands wherever its blocks are the same -/
theorem FoAt.same (h : FoAt ww p F) (hs : ∀ b, p.own F b → w'.heap[b]? = ww.heap[b]?) : FoAt w' p F := by
  have hf := hs p.f (.inl rfl)
  exact ⟨(cell_same hf).trans h.c0, (cell_same hf).trans h.c1, (cell_same hf).trans h.c2, (cell_same hf).trans h.c3, fun j => (frozen_same (a := ⟨p.f, j, none⟩) hf).trans (h.fz j),
    h.nodes.kept (hs _ (.inr (.inl rfl))), h.held.kept (hs _ (.inr (.inr (.inl rfl)))), h.sl.kept (hs _ (.inr (.inr (.inr (.inl rfl))))),
    fun i hi => World.rowIs.of_block (h.nd i hi) (hs _ (.inr (.inr (.inr (.inr ⟨i, hi, rfl⟩))))), h.nh, h.ns, h.inj, h.far, h.dis⟩
/-- blocks as they lie -/
def snap (ww : World) (bs : List Nat) : List (Nat × Obj) := bs.map fun b => (b, (ww.heap[b]?).getD (.map #[] 0))
theorem keys_snap (ww : World) (bs : List Nat) : keysK (snap ww bs) = bs := by
  unfold keysK snap
  rw [List.map_map]
  exact (List.map_congr_left fun x _ => rfl).trans (List.map_id bs)
theorem snap_at {bs : List Nat} (h : ∀ b, b ∈ bs → b < ww.heap.size) {x : Nat × Obj} (hx : x ∈ snap ww bs) : ww.heap[x.1]? = some x.2 := by
  obtain ⟨b, hb, rfl⟩ := List.mem_map.1 hx
  obtain ⟨o, ho⟩ := at_some (h b hb)
  simp [ho]
theorem snap_mem {bs : List Nat} {b : Nat} (hb : b ∈ bs) (h : b < ww.heap.size) {o : Obj} (ho : ww.heap[b]? = some o) : (b, o) ∈ snap ww bs :=
  List.mem_map.2 ⟨b, hb, by simp [ho]⟩
theorem snap_same {bs : List Nat} (h : ∀ b, b ∈ bs → b < ww.heap.size) (hs : ∀ x, x ∈ snap ww bs → w'.heap[x.1]? = some x.2) {b : Nat} (hb : b ∈ bs) : w'.heap[b]? = ww.heap[b]? := by
  obtain ⟨o, ho⟩ := at_some (h b hb)
  rw [ho]
  exact hs (b, o) (snap_mem hb (h b hb) ho)
def Pf.ownL (p : Pf) (F : Fo) : List Nat := p.f :: p.m :: p.h :: p.s :: F.ids.map p.blk
theorem mem_ownL {b : Nat} : b ∈ p.ownL F ↔ p.own F b := by
  unfold Pf.ownL Pf.own
  simp only [List.mem_cons, List.mem_map]
  constructor
  · rintro (h | h | h | h | ⟨i, hi, rfl⟩)
    · exact .inl h
    · exact .inr (.inl h)
    · exact .inr (.inr (.inl h))
    · exact .inr (.inr (.inr (.inl h)))
    · exact .inr (.inr (.inr (.inr ⟨i, hi, rfl⟩)))
  · rintro (h | h | h | h | ⟨i, hi, rfl⟩)
    · exact .inl h
    · exact .inr (.inl h)
    · exact .inr (.inr (.inl h))
    · exact .inr (.inr (.inr (.inl h)))
    · exact .inr (.inr (.inr (.inr ⟨i, hi, rfl⟩)))
theorem nodup_map_on {α β : Type} {g : α → β} {l : List α} (h : l.Nodup) (hg : ∀ i j, i ∈ l → j ∈ l → i ≠ j → g i ≠ g j) : (l.map g).Nodup := by
  induction l with
  | nil => exact List.nodup_nil
  | cons a l ih =>
    rw [List.nodup_cons] at h
    rw [List.map_cons, List.nodup_cons]
    refine ⟨fun hm => ?_, ih h.2 fun i j hi hj => hg i j (List.mem_cons_of_mem _ hi) (List.mem_cons_of_mem _ hj)⟩
    obtain ⟨x, hx, e⟩ := List.mem_map.1 hm
    exact hg x a (List.mem_cons_of_mem _ hx) List.mem_cons_self (fun e => h.1 (e ▸ hx)) e
theorem FoAt.ownL_nodup (h : FoAt ww p F) (hn : F.ids.Nodup) : (p.ownL F).Nodup := by
  obtain ⟨⟨a, b, c⟩, ⟨d, e⟩, g⟩ := h.dis
  have hm : ∀ x, (∀ i, i ∈ F.ids → p.blk i ≠ x) → x ∉ F.ids.map p.blk := fun x hx hm => by
    obtain ⟨i, hi, e⟩ := List.mem_map.1 hm
    exact hx i hi e
  have h1 := hm p.f fun i hi => (h.far i hi).1
  have h2 := hm p.m fun i hi => (h.far i hi).2.1
  have h3 := hm p.h fun i hi => (h.far i hi).2.2.1
  have h4 := hm p.s fun i hi => (h.far i hi).2.2.2
  have h5 := nodup_map_on hn h.inj
  unfold Pf.ownL
  simp only [List.nodup_cons, List.mem_cons, not_or]
  exact ⟨⟨a, b, c, h1⟩, ⟨d, e, h2⟩, ⟨g, h3⟩, h4, h5⟩
/-- what a list of blocks carries: Roots, in whatever world they lie as they are -/
structure Cv (w : World) (Kb : List (Nat × Obj)) (rb L : Nat) (R : Ro) (F : Fo) : Prop where
  one : (keysK Kb).Nodup
  make : ∀ w' Kx, Below w.heap.size w w' → (∀ x, x ∈ Kb → w'.heap[x.1]? = some x.2) → (∀ x, x ∈ Kx → w'.heap[x.1]? = some x.2) → (keysK Kx).Nodup → (∀ b, b ∈ keysK Kx → b ∉ keysK Kb) → RtM w w' rb L R F Kx
theorem RtA.cv (h : RtA w ww rb L R F Kx f mb mo blk) : ∃ Ka, Cv w Ka rb L R F ∧ (∀ x, x ∈ Ka → ww.heap[x.1]? = some x.2) ∧ ∀ b, b ∈ keysK Ka → b ∉ keysK Kx := by
  have ap := h.apart
  obtain ⟨⟨⟨p, e, h1, h2⟩, h3⟩, hmap, hrb, hmb, hvb⟩ := h
  subst e
  have hK : ∀ b, b ∈ rb :: mb :: (keysV R.vs).map blk → ¬ p.own F b ∧ b < ww.heap.size := fun b hb => by
    have : ∃ o, (b, o) ∈ (rb, robj p.f mb R.now) :: (mb, mo) :: (vK blk R.vs ++ Kx) := by
      rcases List.mem_cons.1 hb with rfl | hb
      · exact ⟨_, List.mem_cons_self⟩
      rcases List.mem_cons.1 hb with rfl | hb
      · exact ⟨_, List.mem_cons_of_mem _ List.mem_cons_self⟩
      rw [← keys_vK] at hb
      obtain ⟨o, ho⟩ := mem_keysK.1 hb
      exact ⟨o, List.mem_cons_of_mem _ (List.mem_cons_of_mem _ (List.mem_append.2 (.inl ho)))⟩
    obtain ⟨o, ho⟩ := this
    exact ⟨(h2 _ ho).2, lt_of_at (h2 _ ho).1⟩
  have hX : ∀ b, b ∈ keysK Kx → ¬ p.own F b := fun b hb => by
    obtain ⟨o, ho⟩ := mem_keysK.1 hb
    exact (h2 (b, o) (List.mem_cons_of_mem _ (List.mem_cons_of_mem _ (List.mem_append.2 (.inr ho))))).2
  obtain ⟨bs, hbs⟩ : ∃ bs, p.ownL F ++ (rb :: mb :: (keysV R.vs).map blk) = bs := ⟨_, rfl⟩
  have hlt : ∀ b, b ∈ bs → b < ww.heap.size := fun b hb => by
    rw [← hbs] at hb
    rcases List.mem_append.1 hb with hb | hb
    · exact h1.fo.lt (mem_ownL.1 hb)
    · exact (hK b hb).2
  have hnd2 : (rb :: mb :: (keysV R.vs).map blk).Nodup := by
    simp only [List.nodup_cons, List.mem_cons, not_or]
    exact ⟨⟨ap.rm, ap.rv⟩, ap.mv, ap.vv⟩
  have hnd : bs.Nodup := by
    rw [← hbs, List.nodup_append]
    exact ⟨h1.fo.ownL_nodup h1.ok.inv.nd, hnd2, fun x hx y hy e => (hK y hy).1 (e ▸ mem_ownL.1 hx)⟩
  refine ⟨snap ww bs, ⟨by rw [keys_snap]; exact hnd, fun w' K' hb hat hat2 hn2 hdis => ?_⟩, fun x hx => snap_at hlt hx, fun b hb => ?_⟩
  · rw [keys_snap] at hdis
    have hsame : ∀ b, b ∈ bs → w'.heap[b]? = ww.heap[b]? := fun b hb => snap_same hlt hat hb
    have hown : ∀ b, p.own F b → b ∈ bs := fun b hb => by rw [← hbs]; exact List.mem_append.2 (.inl (mem_ownL.2 hb))
    have hkey : ∀ b, b ∈ rb :: mb :: (keysV R.vs).map blk → b ∈ bs := fun b hb => by rw [← hbs]; exact List.mem_append.2 (.inr hb)
    have hfo := h1.fo.same fun b hb => hsame b (hown b hb)
    refine ⟨p.f, mb, mo, blk, ⟨lk_mk ⟨p, rfl, ⟨hfo, h1.ok, h1.new, hb⟩, fun x hx => ?_⟩ ⟨ap.rm, ap.rv, ?_, ap.mv, ?_, ap.vv, hn2, ?_⟩, hmap.kept (hsame mb (hkey mb (by simp))), hrb, hmb, hvb⟩⟩
    · simp only [List.mem_cons, List.mem_append] at hx
      have old : ∀ x, x ∈ (rb, robj p.f mb R.now) :: (mb, mo) :: (vK blk R.vs ++ Kx) → x.1 ∈ rb :: mb :: (keysV R.vs).map blk → w'.heap[x.1]? = some x.2 ∧ ¬ p.own F x.1 := fun x hx hk => ⟨(hsame _ (hkey _ hk)).trans (h2 x hx).1, (h2 x hx).2⟩
      rcases hx with rfl | rfl | hx | hx
      · exact old _ (by simp) (by simp)
      · exact old _ (by simp) (by simp)
      · exact old x (List.mem_cons_of_mem _ (List.mem_cons_of_mem _ (List.mem_append.2 (.inl hx)))) (List.mem_cons_of_mem _ (List.mem_cons_of_mem _ (by rw [← keys_vK]; exact mem_keysK.2 ⟨_, hx⟩)))
      · exact ⟨hat2 x hx, fun ho => hdis x.1 (mem_keysK.2 ⟨_, hx⟩) (hown _ ho)⟩
    · exact fun hm => hdis _ hm (hkey _ (by simp))
    · exact fun hm => hdis _ hm (hkey _ (by simp))
    · exact fun b hb hb' => hdis b hb' (hkey b (List.mem_cons_of_mem _ (List.mem_cons_of_mem _ hb)))
  · rw [keys_snap, ← hbs] at hb
    intro hx
    rcases List.mem_append.1 hb with hb | hb
    · exact hX b hx (mem_ownL.1 hb)
    · rcases List.mem_cons.1 hb with rfl | hb
      · exact ap.rx hx
      rcases List.mem_cons.1 hb with rfl | hb
      · exact ap.mx hx
      · exact ap.vx b hb hx
/-- the one in sight, the other one among the blocks beside it -/
def Two (w ww : World) (ra La : Nat) (Ra : Ro) (Fa : Fo) (rb L : Nat) (R : Ro) (F : Fo) (K : List (Nat × Obj)) : Prop := ∃ Kb, RtM w ww ra La Ra Fa (Kb ++ K) ∧ Cv w Kb rb L R F
theorem Two.swap (h : Two w ww ra La Ra Fa rb L R F K) : Two w ww rb L R F ra La Ra Fa K := by
  obtain ⟨Kb, h, c⟩ := h
  have hat := fun x hx => RtM.at (x := x) h hx
  have hbel := h.bel
  obtain ⟨f, mb, mo, blk, h⟩ := h
  obtain ⟨Ka, c1, c2, c3⟩ := h.cv
  have hx := h.apart.xx
  have ek : keysK (Kb ++ K) = keysK Kb ++ keysK K := List.map_append
  rw [ek, List.nodup_append] at hx
  rw [ek] at c3
  refine ⟨Ka, c.make ww (Ka ++ K) hbel (fun x hx => hat x (List.mem_append.2 (.inl hx))) (fun x hx => ?_) ?_ fun b hb => ?_, c1⟩
  · rcases List.mem_append.1 hx with hx | hx
    · exact c2 x hx
    · exact hat x (List.mem_append.2 (.inr hx))
  · have e2 : keysK (Ka ++ K) = keysK Ka ++ keysK K := List.map_append
    rw [e2, List.nodup_append]
    exact ⟨c1.one, hx.2.1, fun x h1 y h2 e => c3 x h1 (List.mem_append.2 (.inr (e ▸ h2)))⟩
  · have e2 : keysK (Ka ++ K) = keysK Ka ++ keysK K := List.map_append
    rw [e2] at hb
    rcases List.mem_append.1 hb with hb | hb
    · exact fun hm => c3 b hb (List.mem_append.2 (.inl hm))
    · exact fun hm => hx.2.2 b hm b hb rfl
/-- a second one is made -/
theorem Two.start (h : RtM w w1 ra La Ra Fa []) (h2 : RtM w1 w' rb L R F []) : Two w w' rb L R F ra La Ra Fa [] := by
  have hb := h.bel
  obtain ⟨f, mb, mo, blk, h⟩ := h
  obtain ⟨Ka, c1, c2, c3⟩ := h.cv
  refine ⟨Ka, ?_, c1⟩
  obtain ⟨f, mb, mo, blk, h2⟩ := h2
  have hs := hb.size
  have ap := h2.apart
  obtain ⟨⟨⟨p, e, k1, k2⟩, k3⟩, hmap, hrb, hmb, hvb⟩ := h2
  subst e
  have hka : ∀ b, b ∈ keysK Ka → b < w1.heap.size := fun b hb => by
    obtain ⟨o, ho⟩ := mem_keysK.1 hb
    exact lt_of_at (c2 _ ho)
  refine ⟨p.f, mb, mo, blk, ⟨lk_mk ⟨p, rfl, ⟨k1.fo, k1.ok, fun b hb => Nat.le_trans hs (k1.new b hb), hb.trans (k1.bel.mono hs)⟩, fun x hx => ?_⟩ ⟨ap.rm, ap.rv, fun hm => ?_, ap.mv, fun hm => ?_, ap.vv, ?_, fun b hb hm => ?_⟩, hmap, Nat.le_trans hs hrb, Nat.le_trans hs hmb, fun x hx => Nat.le_trans hs (hvb x hx)⟩⟩
  · simp only [List.append_nil, List.mem_cons, List.mem_append] at hx
    rcases hx with rfl | rfl | hx | hx
    · exact k2 _ (by simp)
    · exact k2 _ (by simp)
    · exact k2 x (by simp [hx])
    · refine ⟨(Turned.of_below k1.bel).at (c2 x hx) (by simp), fun ho => ?_⟩
      have := k1.new _ ho
      have := hka x.1 (mem_keysK.2 ⟨_, hx⟩)
      omega
  · rw [List.append_nil] at hm; have := hka _ hm; omega
  · rw [List.append_nil] at hm; have := hka _ hm; omega
  · rw [List.append_nil]; exact c1.one
  · rw [List.append_nil] at hm
    have := hka _ hm
    obtain ⟨n, hn, rfl⟩ := List.mem_map.1 hb
    obtain ⟨x, hx, rfl⟩ := List.mem_map.1 hn
    have := hvb x hx
    omega
theorem Two.calm (h : Two w ww ra La Ra Fa rb L R F K) (b : Below ww.heap.size ww w') : Two w w' ra La Ra Fa rb L R F K := by
  obtain ⟨Kb, h, c⟩ := h
  exact ⟨Kb, h.calm b, c⟩
theorem Two.bel (h : Two w ww ra La Ra Fa rb L R F K) : Below w.heap.size w ww := by
  obtain ⟨Kb, h, c⟩ := h
  exact h.bel
theorem Two.ok (h : Two w ww ra La Ra Fa rb L R F K) : Ok Fa La := by
  obtain ⟨Kb, h, c⟩ := h
  exact h.ok
theorem Two.at (h : Two w ww ra La Ra Fa rb L R F K) {x : Nat × Obj} (hx : x ∈ K) : ww.heap[x.1]? = some x.2 := by
  obtain ⟨Kb, h, c⟩ := h
  exact h.at (List.mem_append.2 (.inr hx))
end Go.Proofs.Ytmpbhoijkcanmaa.R

/- Roots: are two rows of slots the same. -/
namespace Go.Proofs.Ytmpbhoijkcanmaa.R
open Go.ChangeShapes Go.WideShapes Go.ChangeAt Go.RowKit Go.Maps Go.Proofs.Ytmpbhoijkcanmaa.G
set_option linter.unusedVariables false
set_option linter.unusedSimpArgs false
set_option linter.unnecessarySimpa false

variable {w w' : World}
/-- a slice of slots -/
def Sl3s (w : World) (a : Option Addr) (n : Nat) (xs : List Slot) : Prop :=
  xs.length = n ∧ (n = 0 ∨ ∃ b off, a = some ⟨b, off, none⟩ ∧ ∀ i (h : i < xs.length), w.cell? ⟨b, off + i * 3, none⟩ = some (.int .i64 xs[i].e) ∧ w.cell? ⟨b, off + i * 3 + 1, none⟩ = some (.int .i64 xs[i].c) ∧ w.cell? ⟨b, off + i * 3 + 2, none⟩ = some (.int .i64 xs[i].i))
theorem Sl3s.turned {a : Option Addr} {n : Nat} {xs : List Slot} (h : Sl3s w a n xs) {S : List Nat} (t : Turned S w w') (hn : ∀ x, a = some x → x.block ∉ S) : Sl3s w' a n xs := by
  refine ⟨h.1, h.2.imp id ?_⟩
  rintro ⟨b, off, e, hc⟩
  have hb : b ∉ S := hn ⟨b, off, none⟩ e
  exact ⟨b, off, e, fun i hi => by
    obtain ⟨c0, c1, c2⟩ := hc i hi
    exact ⟨t.cell c0 hb, t.cell c1 hb, t.cell c2 hb⟩⟩
theorem Sl3s.below {a : Option Addr} {n : Nat} {xs : List Slot} (h : Sl3s w a n xs) (t : Below w.heap.size w w') : Sl3s w' a n xs := h.turned (Turned.of_below t) (by simp)
theorem Sl3s.at {a : Option Addr} {n : Nat} {ys : List Slot} (h : Sl3s w a n ys) (i : Nat) (hi : i < ys.length) : ∃ b off, a = some ⟨b, off, none⟩ ∧ w.cell? ⟨b, off + i * 3, none⟩ = some (.int .i64 ys[i].e) ∧ w.cell? ⟨b, off + i * 3 + 1, none⟩ = some (.int .i64 ys[i].c) ∧ w.cell? ⟨b, off + i * 3 + 2, none⟩ = some (.int .i64 ys[i].i) := by
  rcases h.2 with h0 | ⟨b, off, e, hc⟩
  · have := h.1; omega
  · exact ⟨b, off, e, hc i hi⟩
theorem flat_len3 (xs : List Slot) : (flat xs).length = xs.length * 3 := by
  induction xs with
  | nil => rfl
  | cons x xs ih => unfold flat at *; simp [encL] at *; omega
theorem flat_get3 (xs : List Slot) (i r : Nat) (hi : i < xs.length) (hr : r < 3) : (flat xs)[i * 3 + r]? = (encL xs[i])[r]? := by
  induction xs generalizing i with
  | nil => simp at hi
  | cons x xs ih =>
    have e : flat (x :: xs) = encL x ++ flat xs := rfl
    rw [e]
    match i with
    | 0 => rw [List.getElem?_append_left (by simp [encL]; omega)]; simp
    | i + 1 =>
      rw [List.getElem?_append_right (by simp [encL]; omega)]
      have : (i + 1) * 3 + r - (encL x).length = i * 3 + r := by simp [encL]; omega
      rw [this, ih i (by simpa using hi)]
      simp
theorem sl3s_of_owns {base : Nat} {v : Value} {n : Nat} {xs : List Slot} (h : w.ownsRow base 31 3 v n (flat xs)) : ∃ a cap, v = .slice a n cap ∧ Sl3s w a n xs ∧ (∀ x, a = some x → base ≤ x.block ∧ x.block < w.heap.size) := by
  obtain ⟨h1, h2⟩ := h
  have hl : xs.length = n := by have := flat_len3 xs; omega
  rcases h2 with ⟨rfl, rfl⟩ | ⟨g, cap, cur, rfl, hg, hh, hn, hc, hs, ht⟩
  · exact ⟨none, 0, rfl, ⟨hl, .inl rfl⟩, fun x hx => by cases hx⟩
  · refine ⟨_, cap, rfl, ⟨hl, .inr ⟨g, 0, rfl, fun i hi => ?_⟩⟩, fun x hx => by simp only [Option.some.injEq] at hx; subst hx; exact ⟨hg, lt_of_at hh⟩⟩
    have key : ∀ r, r < 3 → w.cell? ⟨g, 0 + i * 3 + r, none⟩ = (encL xs[i])[r]? := fun r hr => by
      have h1 : (cur.toList.take (n * 3))[i * 3 + r]? = cur.toList[i * 3 + r]? := by rw [List.getElem?_take, if_pos (by omega)]
      rw [ht, flat_get3 xs i r hi hr] at h1
      rw [h1, Nat.zero_add]
      simp [World.cell?, hh]
    exact ⟨key 0 (by omega), key 1 (by omega), key 2 (by omega)⟩
set_option maxRecDepth 100000 in
set_option maxHeartbeats 2000000 in
theorem same_slots (xs ys : List Slot) (a a' : Option Addr) (n n' cap cap' : Nat) (w : World) (h : Sl3s w a n xs) (h' : Sl3s w a' n' ys) (hn : n ≤ 9223372036854775807) (hn' : n' ≤ 9223372036854775807) :
    Calls Try.prog 32 #[.slice a n cap, .slice a' n' cap'] w fun e w' => e = .returned (.bool (decide (xs = ys))) ∧ Below w.heap.size w w' := by
  by_cases hne : n = n'
  · subst hne
    have hl := h.1
    have hl' := h'.1
    have H := Lib.hid h
    have H' := Lib.hid h'
    have HL := Lib.hid (And.intro hl hl')
    obtain ⟨R, hR⟩ : ∃ R, decide (xs = ys) = R := ⟨_, rfl⟩
    rw [hR]
    have HR := Lib.hid hR
    clear h h' hl hl' hR hn'
    go_enter Try.func32, Try.ntmps32
    go_wp2
    go_loopw [5] (fun v wr => ∃ i : Nat, i ≤ n ∧ v = .int .i64 i ∧ Hid ((∀ j, j < i → xs[j]? = ys[j]?) ∧ Below w.heap.size w wr)) (fun v _ => n - (intOf v).toNat)
    case atStart => exact ⟨0, Nat.zero_le _, rfl, fun j hj => absurd hj (Nat.not_lt_zero _), Below.refl _ _⟩
    case round =>
      obtain ⟨i, hi, rfl, hB⟩ := hrel
      by_cases hlt : i < n
      · have hix : i < xs.length := by rw [HL.out.1]; exact hlt
        have hiy : i < ys.length := by rw [HL.out.2]; exact hlt
        obtain ⟨b, off, rfl, c0, c1, c2⟩ := (H.out.below hB.out.2).at i hix
        obtain ⟨b', off', rfl, d0, d1, d2⟩ := (H'.out.below hB.out.2).at i hiy
        have HX := Lib.hid (And.intro (List.getElem?_eq_getElem hix) (List.getElem?_eq_getElem hiy))
        generalize xs[i] = x at *
        generalize ys[i] = y at *
        obtain ⟨xe, xc, xi⟩ := x
        obtain ⟨ye, yc, yi⟩ := y
        simp only at c0 c1 c2 d0 d1 d2
        clear hix hiy
        by_cases hxy : xe = ye ∧ xc = yc ∧ xi = yi
        · obtain ⟨rfl, rfl, rfl⟩ := hxy
          go_upto_region 6 with fail
          go_quiet (fail)
          go_wp2
          go_roundw
          case rel =>
            refine ⟨i + 1, by omega, by go_num, fun j hj => ?_, (Turned.drewN (Turned.of_below hB.out.2) nq).below⟩
            rcases Nat.lt_or_ge j i with h' | h'
            · exact hB.out.1 j h'
            · have : j = i := by omega
              subst this
              rw [HX.out.1, HX.out.2]
          case measure => simp [intOf]; omega
        · have HNe : Hid (xs ≠ ys) := by
            intro e
            have h1 := HX.out.1
            have h2 := HX.out.2
            rw [e, h2] at h1
            simp only [Option.some.injEq, Slot.mk.injEq] at h1
            exact hxy ⟨h1.1.symm, h1.2.1.symm, h1.2.2.symm⟩
          have hcs : ((xe == ye) = false) ∨ ((xe == ye) = true ∧ (xc == yc) = false) ∨ ((xe == ye) = true ∧ (xc == yc) = true ∧ (xi == yi) = false) := by
            simp only [beq_iff_eq, beq_eq_false_iff_ne]
            omega
          clear hxy
          rcases hcs with h1 | ⟨h1, h2⟩ | ⟨h1, h2, h3⟩
          all_goals
            go_upto_region 6 with fail
            go_quiet (fail)
            go_wp2
            go_ret
            exact ⟨retB (by rw [← HR.out]; symm; rw [decide_eq_false_iff_not]; exact HNe.out), (Turned.drewN (Turned.of_below hB.out.2) nq).below⟩
      · have hie : i = n := by omega
        subst hie
        clear hlt
        go_wp2
        go_ret
        have e1 : xs = ys := List.ext_getElem? fun j => by
          rcases Nat.lt_or_ge j i with h' | h'
          · exact hB.out.1 j h'
          · rw [List.getElem?_eq_none (by rw [HL.out.1]; exact h'), List.getElem?_eq_none (by rw [HL.out.2]; exact h')]
        exact ⟨retB (by rw [← HR.out, e1]; simp), hB.out.2⟩
  · have hl := h.1
    have hl' := h'.1
    have hd : decide (xs = ys) = false := by
      rw [decide_eq_false_iff_not]
      intro e
      rw [e] at hl
      omega
    rw [hd]
    have hnb : ((n : Int) == n') = false := by rw [beq_eq_false_iff_ne]; omega
    have hnc : (n == n') = false := by simpa using hne
    have HB := Lib.hid (Below.refl w.heap.size w)
    clear h h' hl hl' hd hne
    go_enter Try.func32, Try.ntmps32
    go_wp2
    go_ret
    exact ⟨rfl, HB.out⟩
end Go.Proofs.Ytmpbhoijkcanmaa.R

/- An append, at a step of a region that draws its order: of any number of cells. -/
namespace Go.Proofs.Ytmpbhoijkcanmaa.G
open Go.RowKit Go.Maps
set_option linter.unusedVariables false
set_option linter.unusedSimpArgs false
set_option linter.unusedSectionVars false

variable {P : Program} {w : World}
theorem step_append_at {ops : Array Oper} {o : Oper} {a : Act} {K : Act → World → Prop} {Q : Exit → Act → World → Prop} {E : Prop} (hgd : o.guard = none) (s x : Operand) (t : TypeId)
    (ho : o.op = .call { callee := .builtin .append, args := #[s, x], argTypes := #[t, t] })
    (base : Nat) (e : TypeId) (i : TypeInfo) (z : Value) (size bytes : Nat) (ht : P.underlying t = some (.slice e)) (hi : P.info? e = some i) (hz : i.zero = some z)
    (hsize : i.size = size) (hby : i.bytes = bytes) (hzs : z.cells.size = size) (hsz : 0 < size)
    (v : Value) (n : Nat) (xs : List Value) (hs : a.eval s = v) (hown : w.ownsRow base e size v n xs)
    (ad : Addr) (m c : Nat) (news : List Value) (hx : a.eval x = .slice (some ad) m c) (hl : news.length = m * size) (hnews : ∀ j u, news[j]? = some u → w.cell? (ad.add j) = some u) (h1 : ∀ u ∈ news, u.oneCell' = true)
    (h63 : n + m ≤ maxLen) (hbytes : (n + m) * bytes ≤ 140737488355328) (hbase : base ≤ w.heap.size)
    (h : ∀ v' w', w'.ownsRow base e size v' (n + m) (xs ++ news) → w.grownBy w' v.ownBlock → (v'.ownBlock = v.ownBlock ∨ v'.ownBlock = some w.heap.size) → K (a.put o.dst v') w') :
    if Region.wanted o (yielded ops a.tmps) = true then Oper.wp P o a w K Q else E := by
  have hw : Region.wanted o (yielded ops a.tmps) = true := by simp [Region.wanted, hgd]
  rw [if_pos hw]
  obtain ⟨v', w', hr, h2, h3, h4, h5⟩ := run_append_own_at (P := P) w base t o.type e i z size bytes ht hi hz hsize hby hzs hsz v n xs hown ad m c news hl hnews h1 h63 hbytes hbase
  unfold Oper.wp execOp
  simp only [ho, resolve, invoke, builtin, Sem.run_bind, Sem.run_pure, Result.andThen_ok, List.map_toArray, List.map_cons, List.map_nil, hs, hx, hr]
  exact h v' w' h2 h3 h5
/-- an empty slice of a call's own -/
theorem owns_empty (w : World) (t : TypeId) (size : Nat) : (w.alloc (.cells #[] t)).ownsRow w.heap.size t size (.slice (some ⟨w.heap.size, 0, none⟩) 0 0) 0 [] :=
  ⟨by simp, .inr ⟨w.heap.size, 0, #[], rfl, Nat.le_refl _, (MapKept.heap_alloc w _).1, Nat.le_refl _, by decide, by simp, by simp⟩⟩
/-- the beginning of a slice -/
theorem run_slice_pre {t : TypeId} (hu : P.underlying t = some (.slice (P.elem t))) (hsz : ∀ w, (sizeOf (P.elem t)).run P w = .ok 1 w) (b off n cap k : Nat) (hk : k ≤ cap) (h0 : 0 < cap) (w : World) :
    (Instr.slice t (.slice (some ⟨b, off, none⟩) n cap) none (some (.int .i64 (k : Nat))) none).run P w = .ok (.slice (some ⟨b, off, none⟩) k cap) w := by
  rw [run_slice_h w t (some ⟨b, off, none⟩) n cap hu .i64 (k : Nat) (by omega) (by omega), hsz]
  simp only [Result.andThen, sliced, Int.toNat_natCast, Nat.sub_zero, Nat.zero_mul]
  rw [if_neg (by omega)]
  simp [Addr.add]
/-- the end of a slice -/
def sufA (b off cap k : Nat) : Addr := if cap = k then ⟨b, off, none⟩ else ⟨b, off + k, none⟩
theorem run_slice_suf {t : TypeId} (hu : P.underlying t = some (.slice (P.elem t))) (hsz : ∀ w, (sizeOf (P.elem t)).run P w = .ok 1 w) (b off n cap k : Nat) (hk : k + 1 ≤ n) (w : World) :
    (Instr.slice t (.slice (some ⟨b, off, none⟩) n cap) (some (.int .i64 ((k : Nat) + 1))) none none).run P w = .ok (.slice (some (sufA b off cap (k + 1))) (n - (k + 1)) (cap - (k + 1))) w := by
  rw [run_slice_l w t (some ⟨b, off, none⟩) n cap hu .i64 ((k : Nat) + 1) (by omega) (by omega), hsz]
  have e : ((k : Int) + 1).toNat = k + 1 := by omega
  simp only [Result.andThen, sliced, e, Nat.mul_one]
  unfold sufA
  by_cases h : cap = k + 1
  · rw [if_pos h, if_pos h]
  · rw [if_neg h, if_neg h]
    simp [Addr.add]
end Go.Proofs.Ytmpbhoijkcanmaa.G

/- Roots: what two of them side by side answer; one version alone: the plain law. -/
namespace Go.Proofs.Ytmpbhoijkcanmaa.R
open Go.ChangeShapes Go.WideShapes Go.ChangeAt Go.RowKit Go.Maps Go.Proofs.Ytmpbhoijkcanmaa.G
set_option linter.unusedVariables false
set_option linter.unusedSimpArgs false
set_option linter.unnecessarySimpa false

variable {w ww w' w1 : World} {rb ra L La T n m : Nat} {R Ra R' : Ro} {F G Fa F' : Fo} {Kx Ky K Ka Kb : List (Nat × Obj)} {l : List ChD} {r : Nat} {g : Nat → Option Ent}
theorem RtM.sub (h : RtM w ww rb L R F Kx) (hs : ∀ x, x ∈ Ky → x ∈ Kx) (hn : (keysK Ky).Nodup) : RtM w ww rb L R F Ky := by
  have hat := fun x hx => RtM.at (x := x) h hx
  have hbel := h.bel
  obtain ⟨f, mb, mo, blk, h⟩ := h
  obtain ⟨Ka, c1, c2, c3⟩ := h.cv
  refine c1.make ww Ky hbel c2 (fun x hx => hat x (hs x hx)) hn fun b hb hm => ?_
  obtain ⟨o, ho⟩ := mem_keysK.1 hb
  exact c3 b hm (mem_keysK.2 ⟨o, hs _ ho⟩)
theorem RtM.nodup (h : RtM w ww rb L R F Kx) : (keysK Kx).Nodup := by
  obtain ⟨f, mb, mo, blk, h⟩ := h
  exact h.apart.xx
/-- a new row comes -/
theorem RtM.row (h : RtM w ww rb L R F Kx) (b : Below ww.heap.size ww w') {n sz : Nat} {t : TypeId} {v : Value} {xs : List Value} (r : w'.ownsRow ww.heap.size t sz v n xs) : ∃ K1, RtM w w' rb L R F (K1 ++ Kx) ∧ RowO K1 w.heap.size t sz v n xs := by
  have hat := fun x hx => RtM.at (x := x) h hx
  have hnd := h.nodup
  have hbel := h.bel
  have hw := hbel.size
  obtain ⟨f, mb, mo, blk, h⟩ := h
  obtain ⟨Ka, c1, c2, c3⟩ := h.cv
  obtain ⟨K1, r1, hK1⟩ := RowO.of r
  have tb := Turned.of_below b
  have hlt : ∀ b, b ∈ keysK Kx → b < ww.heap.size := fun b hb => by
    obtain ⟨o, ho⟩ := mem_keysK.1 hb
    exact lt_of_at (hat _ ho)
  have hla : ∀ b, b ∈ keysK Ka → b < ww.heap.size := fun b hb => by
    obtain ⟨o, ho⟩ := mem_keysK.1 hb
    exact lt_of_at (c2 _ ho)
  have ek : keysK (K1 ++ Kx) = keysK K1 ++ keysK Kx := List.map_append
  refine ⟨K1, c1.make w' (K1 ++ Kx) (hbel.trans (b.mono hw)) (fun x hx => tb.at (c2 x hx) (by simp)) (fun x hx => ?_) ?_ fun b hb hm => ?_, fun W hW => owns_mono (r1.row W hW) hw, r1.own, r1.one, fun b hb => Nat.le_trans hw (r1.base b hb)⟩
  · rcases List.mem_append.1 hx with hx | hx
    · exact hK1 x hx
    · exact tb.at (hat x hx) (by simp)
  · rw [ek, List.nodup_append]
    exact ⟨r1.one, hnd, fun x hx y hy e => by have := r1.base x hx; have := hlt y hy; omega⟩
  · rw [ek] at hb
    rcases List.mem_append.1 hb with hb | hb
    · have := r1.base b hb; have := hla b hm; omega
    · exact c3 b hm hb
theorem flatC_len (l : List ChD) : (l.flatMap encCh).length = l.length * 6 := by
  induction l with
  | nil => rfl
  | cons x l ih => simp [encCh] at *; omega
theorem flatC_get (l : List ChD) (i r : Nat) (hi : i < l.length) (hr : r < 6) : (l.flatMap encCh)[i * 6 + r]? = (encCh l[i])[r]? := by
  induction l generalizing i with
  | nil => simp at hi
  | cons x xs ih =>
    have e : (x :: xs).flatMap encCh = encCh x ++ xs.flatMap encCh := rfl
    rw [e]
    match i with
    | 0 => rw [List.getElem?_append_left (by simp [encCh]; omega)]; simp
    | i + 1 =>
      rw [List.getElem?_append_right (by simp [encCh]; omega)]
      have : (i + 1) * 6 + r - (encCh x).length = i * 6 + r := by simp [encCh]; omega
      rw [this, ih i (by simpa using hi)]
      simp
/-- a row of changes of one's own, as an argument -/
theorem chsAt_of {base : Nat} {v : Value} {n : Nat} (h : w.ownsRow base 83 6 v n (l.flatMap encCh)) : ∃ a cap, v = .slice a n cap ∧ ChsAt w a n l := by
  obtain ⟨h1, h2⟩ := h
  have hl : l.length = n := by have := flatC_len l; omega
  rcases h2 with ⟨rfl, rfl⟩ | ⟨g, cap, cur, rfl, hg, hh, hn, hc, hs, ht⟩
  · exact ⟨none, 0, rfl, hl, .inl rfl⟩
  · refine ⟨_, cap, rfl, hl, .inr ⟨g, 0, rfl, lt_of_at hh, fun i hi j u hu => ?_⟩⟩
    have hj : j < 6 := by
      rcases Nat.lt_or_ge j 6 with h | h
      · exact h
      · rw [List.getElem?_eq_none (by simpa [encCh] using h)] at hu; cases hu
    have h1 : (cur.toList.take (n * 6))[i * 6 + j]? = cur.toList[i * 6 + j]? := by rw [List.getElem?_take, if_pos (by omega)]
    rw [ht, flatC_get l i j hi hj, hu] at h1
    rw [Nat.zero_add]
    simp [World.cell?, hh, h1]
theorem chsK_row {base n : Nat} {v : Value} (r : RowO Ka base 83 6 v n (l.flatMap encCh)) (hs : ∀ x, x ∈ Ka → x ∈ Kx) {a : Option Addr} {len cap : Nat} (hv : v = .slice a len cap) : ChsK w Kx a len l := fun wr hK hb => by
  obtain ⟨a', cap', e, h⟩ := chsAt_of (r.row wr fun x hx => hK x (hs x hx))
  rw [hv] at e
  simp only [Value.slice.injEq] at e
  obtain ⟨rfl, rfl, rfl⟩ := e
  exact h
/-- a publishing that changes nothing: nothing goes, as many nodes -/
theorem pub_none {v : Vr} {ys : List Slot} (h : RoOk R F T) (k0 : Ok F L) (hv : vget R.vs R.now = some v) (hh : v.held = 0) (k : Ok (madeF F v.root) La) (s : Sw ⟨R.vs ++ [(R.now + 1, ⟨v.root, 0⟩)], R.now + 1⟩ (madeF F v.root) La R.now v R' G ys) : ys = [] ∧ G.ids.length = F.ids.length := by
  rcases s with ⟨h1, _⟩ | ⟨_, _, d⟩
  · rcases h1 with h1 | h1
    · exact absurd h1 (by simp)
    · omega
  · have hG : ∀ i : Int, cnt G.held i = cnt F.held i := fun i => by
      rw [d.held, madeF_held]
      by_cases e : v.root ≠ 0 ∧ i = (v.root : Int)
      · rw [if_pos e, if_pos e]; omega
      · rw [if_neg e, if_neg e]; omega
    have hh : ∀ i : Nat, 0 < cnt (madeF F v.root).held (i : Int) → 0 < cnt G.held (i : Int) := fun i hi => by
      rw [hG]
      rw [madeF_held] at hi
      by_cases e : v.root ≠ 0 ∧ (i : Int) = (v.root : Int)
      · have e2 : i = v.root := by omega
        rw [e2, h.held _ e.1]
        exact List.count_pos_iff.2 (List.mem_map.2 ⟨_, vget_some hv, rfl⟩)
      · rw [if_neg e] at hi; omega
    refine ⟨?_, ?_⟩
    · have : ∀ s, s ∉ ys := fun s hs => by
        obtain ⟨h1, h2⟩ := (d.gone.mem s).1 hs
        refine h2 ((hasS_iff d.ok s).2 ?_)
        obtain ⟨r, hr, q, hq, x, hx, hxs⟩ := (hasS_iff k s).1 h1
        refine ⟨r, hh r hr, q, hq, x, ?_, hxs⟩
        rw [← hx]
        exact (getL_ext d.ok.inv d.ext 2 r q (.inr (d.ok.root (hh r hr)))).symm
      cases ys with
      | nil => rfl
      | cons y ys => exact absurd List.mem_cons_self (this y)
    · rw [← len_same k d.ok d.ext hh, madeF_ids]
theorem two_new (h : Two w ww ra La Ra Fa rb L R F K) : ∃ Kb, RtM w ww ra La Ra Fa (Kb ++ K) ∧ Cv w Kb rb L R F := h
/-- what came of publishing, of one of two -/
def twoPub (w : World) (ra La : Nat) (Ra : Ro) (Fa : Fo) (rb L : Nat) (R : Ro) (F : Fo) (K : List (Nat × Obj)) (v : Vr) (l : List ChD) (T : Nat) (e : Ending) (w' : World) : Prop :=
  ∃ (a : Option Addr) (len cap : Nat) (R' : Ro) (G : Fo) (ys : List Slot), len = ys.length ∧ e = .returned (.tuple #[.int .u64 ((Ra.now + 1 : Nat) : Int), .slice a len cap, .int .i64 0]) ∧ PubIs Ra Fa v l T R' G (La + 1 + 3 * l.length) ys ∧ (l = [] → v.held = 0 → ys = [] ∧ G.ids.length = Fa.ids.length) ∧ Two w w' ra (La + 1 + 3 * l.length) R' G rb L R F K
theorem two_pub (h : Two w w1 ra La Ra Fa rb L R F K) (hR : RoOk Ra Fa T) (hT : T ≤ 2 ^ 34) (hL : La ≤ 2 ^ 33) {a : Option Addr} {len cap : Nat} (hb : Below w1.heap.size w1 ww) (hrow : ww.ownsRow w1.heap.size 83 6 (.slice a len cap) len (l.flatMap encCh))
    (hok : ∀ x, x ∈ l → x.ok) (hn : len ≤ 1048576) (hval : ∀ x, x ∈ l → x.val) {v : Vr} (hv : vget Ra.vs Ra.now = some v) :
    Calls Try.prog 27 #[.pointer (some ⟨ra, 0, none⟩), .int .u64 (Ra.now : Nat), .slice a len cap] ww (twoPub w ra La Ra Fa rb L R F K v l T) := by
  obtain ⟨Kb, h, c⟩ := h
  have hnd := h.nodup
  obtain ⟨K1, h1, r1⟩ := h.row hb hrow
  obtain ⟨f, mb, mo, blk, h1⟩ := h1
  refine (rpub_ok h1 hR hT hL a len cap l (chsK_row r1 (fun x hx => List.mem_append.2 (.inl hx)) rfl) hok hn hval hv).mono fun e w' ⟨a', len', cap', F', r, R', G, ys, e1, e2, e3, e4, e4', e5, e6, e7⟩ =>
    ⟨a', len', cap', R', G, ys, e1, e2, pub_is hR hv e3 e4 e5, fun hl hh => ?_, Kb, e7.sub (fun x hx => List.mem_append.2 (.inr hx)) hnd, c⟩
  obtain ⟨rfl, rfl⟩ := e4' hl
  exact pub_none hR h1.ok hv hh e3 e5
/-- one that may not be -/
theorem two_pub_bad (h : Two w w1 ra La Ra Fa rb L R F K) {a : Option Addr} {len cap : Nat} (hb : Below w1.heap.size w1 ww) (hrow : ww.ownsRow w1.heap.size 83 6 (.slice a len cap) len (l.flatMap encCh))
    (hok : ∀ x, x ∈ l → x.ok) (hn : len ≤ maxLen) (hval : ¬ ∀ x, x ∈ l → x.val) :
    Calls Try.prog 27 #[.pointer (some ⟨ra, 0, none⟩), .int .u64 (Ra.now : Nat), .slice a len cap] ww fun e w' => e = .returned (.tuple #[.int .u64 0, .slice none 0 0, .int .i64 2]) ∧ Two w w' ra La Ra Fa rb L R F K := by
  have h2 := h.calm hb
  obtain ⟨a', cap', e, hat⟩ := chsAt_of hrow
  simp only [Value.slice.injEq] at e
  obtain ⟨rfl, -, rfl⟩ := e
  obtain ⟨Kb, ⟨f, mb, mo, blk, h1⟩, c⟩ := h2
  exact (rpub_loop h1 a len cap l hat hok hn hval).mono fun e w' ⟨e1, e2⟩ => ⟨e1, Kb, ⟨f, mb, mo, blk, h1.calm e2⟩, c⟩
theorem two_now (h : Two w ww ra La Ra Fa rb L R F K) : Calls Try.prog 24 #[.pointer (some ⟨ra, 0, none⟩)] ww fun e w' => e = .returned (.int .u64 (Ra.now : Nat)) ∧ ww = w' := by
  obtain ⟨Kb, ⟨f, mb, mo, blk, h⟩, c⟩ := h
  exact rnow_fn h
theorem two_nodes (h : Two w ww ra La Ra Fa rb L R F K) : Calls Try.prog 35 #[.pointer (some ⟨ra, 0, none⟩)] ww fun e w' => e = .returned (.int .i64 (Fa.ids.length : Nat)) ∧ ww = w' := by
  obtain ⟨Kb, ⟨f, mb, mo, blk, h⟩, c⟩ := h
  exact rnodes_fn h
theorem two_all (h : Two w ww ra La Ra Fa rb L R F K) (hR : RoOk Ra Fa T) (hL : La ≤ 2 ^ 34) (hn : n < 2 ^ 64) {v : Vr} (hv : vget Ra.vs n = some v) : Calls Try.prog 25 #[.pointer (some ⟨ra, 0, none⟩), .int .u64 (n : Nat)] ww (rallPost ww (mapL Fa v.root)) := by
  obtain ⟨Kb, ⟨f, mb, mo, blk, h⟩, c⟩ := h
  exact rall_yes h hL hn hv (hR.root hv)
theorem two_slots (h : Two w ww ra La Ra Fa rb L R F K) (hL : La ≤ 2 ^ 34) : Calls Try.prog 30 #[.pointer (some ⟨ra, 0, none⟩)] ww fun e w' => ∃ v zs, e = .returned v ∧ SlotsIs (HasS Fa) zs ∧ w'.ownsRow ww.heap.size 31 3 v zs.length (flat zs) ∧ Below ww.heap.size ww w' := by
  obtain ⟨Kb, ⟨f, mb, mo, blk, h⟩, c⟩ := h
  exact rslots_fn h hL
/-- one version alone, that nobody holds -/
structure Solo (R : Ro) (F : Fo) (L T m r : Nat) (g : Nat → Option Ent) : Prop where
  ok : RoOk R F T
  fo : Ok F L
  now : R.now = m
  one : ∀ x, x ∈ R.vs → x = (m, ⟨r, 0⟩)
  v : vget R.vs R.now = some ⟨r, 0⟩
  get : ∀ q, q < 4096 → getL 2 F r q = g q
theorem Solo.start : Solo ro0 fo0 0 0 0 0 fun _ => none := ⟨ro0_ok, fo0_ok, rfl, fun x hx => by simp [ro0] at hx; exact hx, rfl, fun q _ => getL_zero _ _ _⟩
theorem chgs_cong {g g' : Nat → Option Ent} (h : ∀ q, q < 4096 → g q = g' q) (l : List ChD) : ∀ q, q < 4096 → chgs g l q = chgs g' l q := by
  induction l generalizing g g' with
  | nil => exact h
  | cons c l ih =>
    refine ih (g := chg g c) (g' := chg g' c) fun q hq => ?_
    unfold chg
    rw [h q hq]
theorem Solo.pub {ys : List Slot} {L' : Nat} (h : Solo R F L T m r g) (p : PubIs R F ⟨r, 0⟩ l T R' G L' ys) : ∃ r', Solo R' G L' (T + 1) (m + 1) r' (chgs g l) := by
  obtain ⟨r', h1, h2⟩ := p.new
  have hn := h.now
  have hn' : R'.now = R.now + 1 := p.now
  refine ⟨r', p.ok, p.fo, by omega, fun x hx => ?_, by rw [hn']; exact h1, fun q hq => (h2 q hq).trans (chgs_cong h.get l q hq)⟩
  by_cases e : x.1 = R.now + 1
  · have := vget_mem p.ok.keys (n := x.1) (v := x.2) hx
    rw [e, h1] at this
    have e2 : x.2 = ⟨r', 0⟩ := (Option.some.inj this).symm
    exact Prod.ext (by omega) e2
  · have ho := (p.old x hx e).1
    have hx1 := h.one x ho
    subst hx1
    have := (p.keptN.1 (by rw [h.now]; exact hx))
    exact absurd this (by simp)
theorem chg_comm (g : Nat → Option Ent) (a b : ChD) (h : a.page ≠ b.page) : chg (chg g a) b = chg (chg g b) a := by
  funext q
  unfold chg
  by_cases e1 : (q : Int) = b.page
  · have e3 : ¬ (q : Int) = a.page := fun e => h (e.symm.trans e1)
    rw [if_pos e1, if_neg e3, if_pos e1]
  · rw [if_neg e1]
    by_cases e2 : (q : Int) = a.page
    · rw [if_pos e2, if_pos e2]
    · rw [if_neg e2, if_neg e2, if_neg e1]
/-- changes of unlike pages, in any order -/
theorem chgs_perm {l l' : List ChD} (h : l.Perm l') : ∀ g, (l.map ChD.page).Nodup → chgs g l = chgs g l' := by
  induction h with
  | nil => exact fun g _ => rfl
  | cons x _ ih =>
    intro g hn
    rw [List.map_cons, List.nodup_cons] at hn
    exact ih (chg g x) hn.2
  | swap x y l =>
    intro g hn
    show chgs (chg (chg g y) x) l = chgs (chg (chg g x) y) l
    rw [chg_comm]
    rw [List.map_cons, List.map_cons, List.nodup_cons] at hn
    exact fun e => hn.1 (by rw [e]; exact List.mem_cons_self)
  | trans h1 _ ih1 ih2 =>
    intro g hn
    rw [ih1 g hn, ih2 g ((h1.map _).nodup_iff.1 hn)]
/-- maps that are alike have the same slots -/
theorem Solo.slots {Rb : Ro} {Fb : Fo} {Lb Tb mb rb : Nat} {gb : Nat → Option Ent} (h : Solo R F L T m r g) (k : Solo Rb Fb Lb Tb mb rb gb) (e : ∀ q, q < 4096 → g q = gb q) {xs ys : List Slot} (hx : SlotsIs (HasS F) xs) (hy : SlotsIs (HasS Fb) ys) : xs = ys := by
  have key : ∀ {R : Ro} {F : Fo} {L T m r : Nat} {g : Nat → Option Ent}, Solo R F L T m r g → ∀ s, HasS F s ↔ ∃ q, q < 4096 ∧ ∃ x : Ent, g q = some x ∧ x.s = s := fun {R F L T m r g} h s => by
    rw [slots_iff h.ok.pre h.fo s]
    constructor
    · rintro ⟨x, hx, q, hq, y, hy, e⟩
      rw [h.one x hx] at hy
      exact ⟨q, hq, y, by rw [← h.get q hq]; exact hy, e⟩
    · rintro ⟨q, hq, x, hx, e⟩
      exact ⟨_, vget_some h.v, q, hq, x, by rw [h.get q hq]; exact hx, e⟩
  refine hx.uniq hy fun s => ?_
  rw [key h, key k]
  constructor
  · rintro ⟨q, hq, x, hx, e'⟩; exact ⟨q, hq, x, by rw [← e q hq]; exact hx, e'⟩
  · rintro ⟨q, hq, x, hx, e'⟩; exact ⟨q, hq, x, by rw [e q hq]; exact hx, e'⟩
theorem Solo.map (h : Solo R F L T m r g) : mapL F r = allL g 4096 := allL_congr 4096 fun q hq => h.get q hq
/-- one version alone, of one of two: publishing -/
theorem solo_pub (h : Two w w1 ra La Ra Fa rb L R F K) (s : Solo Ra Fa La T m r g) (hT : T ≤ 2 ^ 34) (hL : La ≤ 2 ^ 33) {a : Option Addr} {len cap : Nat} (hb : Below w1.heap.size w1 ww) (hrow : ww.ownsRow w1.heap.size 83 6 (.slice a len cap) len (l.flatMap encCh))
    (hok : ∀ x, x ∈ l → x.ok) (hn : len ≤ 1048576) (hval : ∀ x, x ∈ l → x.val) :
    Calls Try.prog 27 #[.pointer (some ⟨ra, 0, none⟩), .int .u64 (m : Nat), .slice a len cap] ww fun e w' => ∃ (a' : Option Addr) (len' cap' : Nat) (R' : Ro) (G : Fo) (r' : Nat), e = .returned (.tuple #[.int .u64 ((m + 1 : Nat) : Int), .slice a' len' cap', .int .i64 0]) ∧
      (l = [] → len' = 0 ∧ G.ids.length = Fa.ids.length) ∧ Two w w' ra (La + 1 + 3 * l.length) R' G rb L R F K ∧ Solo R' G (La + 1 + 3 * l.length) (T + 1) (m + 1) r' (chgs g l) := by
  have := two_pub h s.ok hT hL hb hrow hok hn hval s.v
  rw [s.now] at this
  refine this.mono fun e w' ⟨a', len', cap', R', G, ys, e1, e2, e3, e4, e5⟩ => ?_
  rw [s.now] at e2
  obtain ⟨r', hr⟩ := s.pub e3
  refine ⟨a', len', cap', R', G, r', e2, fun hl => ?_, e5, hr⟩
  obtain ⟨rfl, h2⟩ := e4 hl rfl
  exact ⟨e1, h2⟩
theorem infoChg : (Try.prog.info? 83).map (fun i => (i.zero, i.size, i.bytes)) = some (some (.agg #[.int .i64 0, .int .i64 0, .int .i64 0, .int .i64 0, .int .i64 0, .bool false]), 6, 48) := by kernel_rfl
theorem encCh_one (l : List ChD) : ∀ u ∈ l.flatMap encCh, u.oneCell' = true := by
  intro u hu
  obtain ⟨c, _, hc⟩ := List.mem_flatMap.1 hu
  simp only [encCh, List.mem_cons, List.not_mem_nil, or_false] at hc
  rcases hc with rfl | rfl | rfl | rfl | rfl | rfl <;> rfl
theorem chs_cells {p : Addr} {len : Nat} {l : List ChD} (hl : ChsAt w (some p) len l) : ∀ j u, (l.flatMap encCh)[j]? = some u → w.cell? (p.add j) = some u := fun j u hu => by
  have hj : j < l.length * 6 := by
    rcases Nat.lt_or_ge j (l.length * 6) with h | h
    · exact h
    · rw [List.getElem?_eq_none (by rw [flatC_len]; exact h)] at hu; cases hu
  obtain ⟨b, off, c, e, hb, hcl, hcell⟩ := RowsAt.at hl (j / 6) (by rw [← hl.1]; omega)
  simp only [Option.some.injEq] at e
  subst e
  have hi6 : j / 6 < l.length := by omega
  have e2 := flatC_get l (j / 6) (j % 6) hi6 (by omega)
  rw [show j / 6 * 6 + j % 6 = j by omega, hu] at e2
  rw [List.getElem?_eq_getElem hi6] at hcl
  rw [Option.some.inj hcl] at e2
  have := hcell (j % 6) u e2.symm
  rw [addr_add_none]
  rw [show off + j / 6 * 6 + j % 6 = off + j by omega] at this
  exact this
/-- changes that are handed in are copied -/
theorem wpList_append_chs {ops : Array Oper} {rest : List Oper} {o : Oper} {a : Act} {Q : Exit → Act → World → Prop} (hgd : o.guard = none) (s x : Operand)
    (ho : o.op = .call { callee := .builtin .append, args := #[s, x], argTypes := #[67, 67] }) (base : Nat) (v : Value) (hs : a.eval s = v) (hown : w.ownsRow base 83 6 v 0 [])
    (ad : Option Addr) (len cap : Nat) (l : List ChD) (hx : a.eval x = .slice ad len cap) (hl : ChsAt w ad len l) (hc : ad = none → cap = 0) (hn : len ≤ 1048576) (hbase : base ≤ w.heap.size)
    (h : ∀ v' w', w'.ownsRow base 83 6 v' len (l.flatMap encCh) → w.grownBy w' v.ownBlock → wpList Try.prog ops Q rest (a.put o.dst v') w') : wpList Try.prog ops Q (o :: rest) a w := by
  obtain ⟨i0, hi, hz0, hz1, hz2⟩ := info_parts infoChg
  cases ad with
  | none =>
    have hl0 : len = 0 := by
      rcases hl.2 with h0 | ⟨b, off, e, _⟩
      · exact h0
      · cases e
    subst hl0
    obtain rfl := hc rfl
    obtain rfl : l = [] := List.length_eq_zero_iff.1 hl.1
    exact wpList_append_own_none hgd s x 67 ho base 83 i0 6 Try.underlying67 hi v 0 [] hs hown hx (h v w hown ⟨rfl, rfl, rfl, Nat.le_refl _, fun k _ _ => rfl⟩)
  | some p =>
    refine wpList_append_own_at _ hgd s x 67 ho base 83 i0 _ 6 48 Try.underlying67 hi hz0 hz1 hz2 rfl (by decide) v 0 [] hs hown p len cap (l.flatMap encCh) hx (by rw [flatC_len, hl.1]) (chs_cells hl) (encCh_one l) (by unfold maxLen; omega) (by omega) hbase (fun v' w' h1 h2 _ _ => h v' w' (by rw [Nat.zero_add, List.nil_append] at h1; exact h1) h2)
theorem below_app2 {w w4 : World} {o : Obj} (h : (w.alloc o).grownBy w4 (some w.heap.size)) : Below w.heap.size w w4 :=
  Turned.below ((((Turned.refl [] w).alloc o).grown h) fun k e => .inr (by simp only [Option.some.injEq] at e; omega))
end Go.Proofs.Ytmpbhoijkcanmaa.R
