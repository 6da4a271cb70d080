/- Radix: a law's forest, with the roots and the lists that it keeps. -/
import Derived.Test.YtmpbhoijkcanmaaSJ
namespace Go.Proofs.Ytmpbhoijkcanmaa.R
open Go.ChangeShapes Go.WideShapes Go.ChangeAt Go.RowKit Go.Maps Go.Proofs.Ytmpbhoijkcanmaa.G
set_option linter.unusedVariables false
set_option linter.unusedSimpArgs false
set_option linter.unnecessarySimpa false

variable {F G : Fo} {w ww w' : World} {L f : Nat} {rv qv : Value} {rs hs : List Nat} {ls : List Value} {ex : List (Value × List Pr)}
theorem LK.perm {K K' : List (Nat × Obj)} (h : LK w ww f F L K) (p : K.Perm K') : LK w ww f F L K' :=
  ⟨h.1.sub fun x hx => p.mem_iff.2 hx, (p.map (·.1)).nodup_iff.1 h.2⟩
def encR (r : Nat) : Value := .int .i64 (r : Nat)
def mapL (F : Fo) (r : Nat) : List Pr := allL (getL 2 F r) 4096
/-- the roots, the lists, and rows of entries, in memory -/
def StM (w ww : World) (f L : Nat) (F : Fo) (rv : Value) (rs : List Nat) (qv : Value) (ls : List Value) (ex : List (Value × List Pr)) : Prop :=
  ∃ K1 K2 K3, LK w ww f F L (K1 ++ K2 ++ K3) ∧ RowO K1 w.heap.size 3 1 rv rs.length (rs.map encR) ∧ RowO K2 w.heap.size 40 1 qv ls.length ls ∧ ∀ x ∈ ex, RowK K3 w.heap.size 43 5 x.1 x.2.length (flatP x.2)
theorem StM.calm (h : StM w ww f L F rv rs qv ls ex) (b : Below ww.heap.size ww w') : StM w w' f L F rv rs qv ls ex := by
  obtain ⟨K1, K2, K3, h1, h2⟩ := h
  exact ⟨K1, K2, K3, h1.calm b, h2⟩
theorem StM.alloc (h : StM w ww f L F rv rs qv ls ex) (o : Obj) : StM w (ww.alloc o) f L F rv rs qv ls ex := h.calm ((Turned.refl [] ww).alloc o).below
theorem StM.drewN (h : StM w ww f L F rv rs qv ls ex) (n : Nat) : StM w (ww.drewN n) f L F rv rs qv ls ex := h.calm ((Turned.refl [] ww).drewN n).below
theorem StM.lv (h : StM w ww f L F rv rs qv ls ex) : ∃ K, LV w ww f F L K := by
  obtain ⟨K1, K2, K3, h1, _⟩ := h
  exact ⟨_, h1.1⟩
theorem StM.bel (h : StM w ww f L F rv rs qv ls ex) : Below w.heap.size w ww := by
  obtain ⟨K, h1⟩ := h.lv
  exact h1.bel
theorem StM.ok (h : StM w ww f L F rv rs qv ls ex) : Ok F L := by
  obtain ⟨K, h1⟩ := h.lv
  exact h1.ok
theorem StM.start (h : LV w ww f fo0 0 []) : StM w ww f 0 fo0 (.slice none 0 0) [] (.slice none 0 0) [] [] :=
  ⟨[], [], [], ⟨h, by simp [keysK]⟩, RowO.nil _ _ _, RowO.nil _ _ _, by simp⟩
theorem StM.rowR (h : StM w ww f L F rv rs qv ls ex) : ww.ownsRow w.heap.size 3 1 rv rs.length (rs.map encR) := by
  obtain ⟨K1, K2, K3, h1, h2, h3, h4⟩ := h
  exact (h2.row.mono (K' := K1 ++ K2 ++ K3) fun x hx => by simp [hx]).at h1.1
theorem StM.rowL (h : StM w ww f L F rv rs qv ls ex) : ww.ownsRow w.heap.size 40 1 qv ls.length ls := by
  obtain ⟨K1, K2, K3, h1, h2, h3, h4⟩ := h
  exact (h3.row.mono (K' := K1 ++ K2 ++ K3) fun x hx => by simp [hx]).at h1.1
theorem StM.rowX (h : StM w ww f L F rv rs qv ls ex) {v : Value} {c : List Pr} (hx : (v, c) ∈ ex) : ww.ownsRow w.heap.size 43 5 v c.length (flatP c) := by
  obtain ⟨K1, K2, K3, h1, h2, h3, h4⟩ := h
  exact ((h4 _ hx).mono (K' := K1 ++ K2 ++ K3) fun x hx => by simp [hx]).at h1.1
theorem StM.set (h : StM w ww f L F rv rs qv ls ex) (hL : L ≤ 2 ^ 34) {r pg : Nat} (hr : isB F (r : Int) = true) (hpg : pg < 4096) (x : Ent) (hx : x.ok) :
    Calls Try.prog 12 #[.pointer (some ⟨f, 0, none⟩), .int .i64 (r : Nat), .int .i64 (pg : Nat), encE x] ww fun e w' => e = .returned (.tuple #[.int .i64 ((setF F r pg (.set 0 x)).2 : Nat), .int .i64 0]) ∧ StM w w' f (L + 3) (setF F r pg (.set 0 x)).1 rv rs qv ls ex := by
  obtain ⟨K1, K2, K3, h1, h2⟩ := h
  exact (set_lv h1.1 hL hr hpg x hx).mono fun e w' ⟨e1, e2⟩ => ⟨e1, K1, K2, K3, ⟨e2, h1.2⟩, h2⟩
theorem StM.clear (h : StM w ww f L F rv rs qv ls ex) (hL : L ≤ 2 ^ 34) {r pg : Nat} (hr : isB F (r : Int) = true) (hpg : pg < 4096) :
    Calls Try.prog 16 #[.pointer (some ⟨f, 0, none⟩), .int .i64 (r : Nat), .int .i64 (pg : Nat)] ww fun e w' => e = .returned (.tuple #[.int .i64 ((clearF F r pg).2 : Nat), .int .i64 0]) ∧ StM w w' f (L + 3) (clearF F r pg).1 rv rs qv ls ex := by
  obtain ⟨K1, K2, K3, h1, h2⟩ := h
  exact (clear_lv h1.1 hL hr hpg).mono fun e w' ⟨e1, e2⟩ => ⟨e1, K1, K2, K3, ⟨e2, h1.2⟩, h2⟩
theorem StM.drop (h : StM w ww f L F rv rs qv ls ex) (hL : L ≤ 2 ^ 34) {r : Nat} (hr : isB F (r : Int) = true) :
    Calls Try.prog 18 #[.pointer (some ⟨f, 0, none⟩), .int .i64 (r : Nat)] ww fun e w' => ∃ (v : Value) (G : Fo) (ys : List Slot), e = .returned (.tuple #[v, .int .i64 0]) ∧ DropIs F L r G ys ∧ w'.ownsRow ww.heap.size 31 3 v ys.length (flat ys) ∧ StM w w' f L G rv rs qv ls ex := by
  obtain ⟨K1, K2, K3, h1, h2⟩ := h
  exact (drop_lv h1.1 hL hr).mono fun e w' ⟨v, G, ys, e1, e2, eo, e3⟩ => ⟨v, G, ys, e1, e2, eo, K1, K2, K3, ⟨e3, h1.2⟩, h2⟩
theorem StM.all (h : StM w ww f L F rv rs qv ls ex) (hL : L ≤ 2 ^ 34) {r : Nat} (hr : isB F (r : Int) = true) :
    Calls Try.prog 13 #[.pointer (some ⟨f, 0, none⟩), .int .i64 (r : Nat)] ww fun e w' => ∃ v, e = .returned v ∧ w'.ownsRow ww.heap.size 43 5 v (mapL F r).length (flatP (mapL F r)) ∧ Below ww.heap.size ww w' ∧ StM w w' f L F rv rs qv ls ((v, mapL F r) :: ex) := by
  obtain ⟨K1, K2, K3, h1, h2, h3, h4⟩ := h
  refine (all_lv h1.1 hL hr).mono fun e w' ⟨v, e1, e2, e3⟩ => ?_
  have e2 : w'.ownsRow ww.heap.size 43 5 v (mapL F r).length (flatP (mapL F r)) := e2
  refine ⟨v, e1, e2, e3, ?_⟩
  generalize mapL F r = c at *
  obtain ⟨K4, k1, k2⟩ := h1.row e3 e2
  refine ⟨K1, K2, K4 ++ K3, k1.perm ?_, h2, h3, ?_⟩
  · have := (List.perm_append_comm (l₁ := K4) (l₂ := K1 ++ K2)).append_right K3
    simpa only [List.append_assoc] using this
  · intro x hx
    rcases List.mem_cons.1 hx with e | hx
    · rw [e]; exact k2.row.mono fun y hy => List.mem_append.2 (.inl hy)
    · exact (h4 x hx).mono fun y hy => List.mem_append.2 (.inr hy)
theorem StM.appR (h : StM w ww f L F rv rs qv ls ex) {o : Obj} {v' : Value} {r : Nat} (ho : w'.ownsRow w.heap.size 3 1 v' (rs.length + 1) (rs.map encR ++ [encR r])) (hg : (ww.alloc o).grownBy w' rv.ownBlock) (hb : v'.ownBlock = rv.ownBlock ∨ v'.ownBlock = some (ww.heap.size + 1)) : StM w w' f L F v' (rs ++ [r]) qv ls ex := by
  obtain ⟨K1, K2, K3, h1, h2, h3, h4⟩ := h
  have h1' : LK w ww f F L ([] ++ K1 ++ (K2 ++ K3)) := by simpa using h1
  obtain ⟨K1', k1, k2⟩ := h1'.grow h2 hg ho (by rw [World.size_alloc]; exact hb)
  exact ⟨K1', K2, K3, by simpa using k1, by simpa using k2, h3, h4⟩
theorem StM.appL (h : StM w ww f L F rv rs qv ls ex) {o : Obj} {v' v : Value} (ho : w'.ownsRow w.heap.size 40 1 v' (ls.length + 1) (ls ++ [v])) (hg : (ww.alloc o).grownBy w' qv.ownBlock) (hb : v'.ownBlock = qv.ownBlock ∨ v'.ownBlock = some (ww.heap.size + 1)) : StM w w' f L F rv rs v' (ls ++ [v]) ex := by
  obtain ⟨K1, K2, K3, h1, h2, h3, h4⟩ := h
  obtain ⟨K2', k1, k2⟩ := h1.grow h3 hg ho (by rw [World.size_alloc]; exact hb)
  exact ⟨K1, K2', K3, k1, h2, by simpa using k2, h4⟩
theorem StM.less {ex' : List (Value × List Pr)} (h : StM w ww f L F rv rs qv ls ex) (hs : ∀ x, x ∈ ex' → x ∈ ex) : StM w ww f L F rv rs qv ls ex' := by
  obtain ⟨K1, K2, K3, h1, h2, h3, h4⟩ := h
  exact ⟨K1, K2, K3, h1, h2, h3, fun x hx => h4 x (hs x hx)⟩
theorem cell_of_owns {base n cap rb roff k : Nat} {t : TypeId} {xs : List Value} {u : Value} (h : ww.ownsRow base t 1 (.slice (some ⟨rb, roff, none⟩) n cap) n xs) (hk : xs[k]? = some u) : ww.cell? ⟨rb, roff + k, none⟩ = some u := by
  obtain ⟨a, c, e, h1, h2⟩ := SlAt.of_owns h
  simp only [Value.slice.injEq] at e
  obtain ⟨rfl, _, _⟩ := e
  have hkn : k < n := by
    rcases Nat.lt_or_ge k n with q | q
    · exact q
    · rw [List.getElem?_eq_none (by rw [h1.1]; exact q)] at hk; cases hk
  obtain ⟨b, off, e, hc⟩ := h1.cells (by omega)
  simp only [Option.some.injEq, Addr.mk.injEq, and_true] at e
  obtain ⟨rfl, rfl⟩ := e
  rw [hc k hkn, hk]
theorem StM.cellR {rb roff n rcap k r : Nat} (h : StM w ww f L F (.slice (some ⟨rb, roff, none⟩) n rcap) rs qv ls ex) (hn : rs.length = n) (hk : rs[k]? = some r) : ww.cell? ⟨rb, roff + k, none⟩ = some (.int .i64 (r : Nat)) := by
  have := h.rowR
  rw [hn] at this
  exact cell_of_owns this (u := encR r) (by rw [List.getElem?_map, hk]; rfl)
theorem StM.cellL {rb roff n rcap k : Nat} {v : Value} (h : StM w ww f L F rv rs (.slice (some ⟨rb, roff, none⟩) n rcap) ls ex) (hn : ls.length = n) (hk : ls[k]? = some v) : ww.cell? ⟨rb, roff + k, none⟩ = some v := by
  have := h.rowL
  rw [hn] at this
  exact cell_of_owns this hk
/-- what is held, and what the lists are -/
structure StP (F : Fo) (hs rs : List Nat) (ls : List Value) (ex : List (Value × List Pr)) : Prop where
  held : ∀ r : Nat, r ≠ 0 → cnt F.held (r : Int) = hs.count r
  cont : ∀ (k r : Nat) (v : Value), rs[k]? = some r → ls[k]? = some v → r = 0 ∨ r ∈ hs → (v, mapL F r) ∈ ex
theorem StP.isB (h : StP F hs rs ls ex) {r : Nat} (hr : r = 0 ∨ r ∈ hs) : isB F (r : Int) = true := by
  rw [isB_iff]
  by_cases h0 : r = 0
  · exact .inl h0
  · right
    rw [h.held r h0]
    exact List.count_pos_iff.2 (hr.resolve_left h0)
theorem StP.start : StP fo0 [] [] [] [] := ⟨fun r _ => rfl, fun k r v h => by cases h⟩
theorem mapL_ext (h : Ok F L) (e : Ext F G) {r : Nat} (hr : r = 0 ∨ r ∈ F.ids) : mapL G r = mapL F r := allL_congr 4096 fun q _ => getL_ext h.inv e 2 r q hr
theorem StP.ids (h : StP F hs rs ls ex) (k : Ok F L) {r : Nat} (hr : r = 0 ∨ r ∈ hs) : r = 0 ∨ r ∈ F.ids := by
  by_cases h0 : r = 0
  · exact .inl h0
  · right
    refine k.root ?_
    rw [h.held r h0]
    exact List.count_pos_iff.2 (hr.resolve_left h0)
theorem StP.new (h : StP F hs rs ls ex) (hrs : ∀ r, r ∈ rs → r = 0 ∨ r ∈ hs) (hl : ls.length = rs.length) (k : Ok F L) (e : Ext F G) {r' : Nat} (hh : ∀ i : Int, cnt G.held i = cnt F.held i + if r' ≠ 0 ∧ i = r' then 1 else 0) (v : Value) : StP G (hs ++ [r']) (rs ++ [r']) (ls ++ [v]) ((v, mapL G r') :: ex) := by
  refine ⟨fun r h0 => ?_, fun j r u hr hu hx => ?_⟩
  · rw [hh, h.held r h0, List.count_append]
    by_cases e : r = r'
    · subst e; rw [if_pos ⟨h0, rfl⟩]; simp
    · rw [if_neg (by omega), List.count_singleton, if_neg (by simpa using Ne.symm e)]
  · have hj : j < (rs ++ [r']).length := by
      rcases Nat.lt_or_ge j (rs ++ [r']).length with q | q
      · exact q
      · rw [List.getElem?_eq_none q] at hr; cases hr
    rw [List.length_append, List.length_singleton] at hj
    by_cases hlt : j < rs.length
    · rw [List.getElem?_append_left hlt] at hr
      rw [List.getElem?_append_left (by omega)] at hu
      have hm := hrs r (List.mem_of_getElem? hr)
      rw [mapL_ext k e (h.ids k hm)]
      exact List.mem_cons_of_mem _ (h.cont j r u hr hu hm)
    · obtain rfl : j = rs.length := by omega
      rw [List.getElem?_append_right (Nat.le_refl _)] at hr
      rw [List.getElem?_append_right (by omega)] at hu
      simp [hl] at hr hu
      subst hr hu
      exact List.mem_cons_self
theorem StP.drop {a : Nat} {ys : List Slot} (h : StP F (a :: hs) rs ls ex) (d : DropIs F L a G ys) : StP G hs rs ls ex := by
  have hH : ∀ r : Nat, r ≠ 0 → cnt G.held (r : Int) = hs.count r := fun r h0 => by
    rw [d.held, h.held r h0, List.count_cons]
    by_cases e : a = r
    · subst e; simp [h0]
    · rw [if_neg (by omega), if_neg (by simpa using e)]; rfl
  refine ⟨hH, fun j r u hr hu hx => ?_⟩
  have hg : r = 0 ∨ r ∈ G.ids := by
    by_cases h0 : r = 0
    · exact .inl h0
    · right
      refine d.ok.root ?_
      rw [hH r h0]
      exact List.count_pos_iff.2 (hx.resolve_left h0)
  have := h.cont j r u hr hu (hx.imp id fun h => List.mem_cons_of_mem _ h)
  rw [mapL_ext d.ok d.ext hg] at this
  exact this
theorem StP.gone (h : StP F [] rs ls ex) (k : Ok F L) : F.ids = [] := k.ids_nil fun i => by
  by_cases h0 : i = 0
  · subst h0
    rcases Nat.eq_zero_or_pos (cnt F.held ((0 : Nat) : Int)) with h' | h'
    · exact h'
    · have h1 := k.root (i := 0) h'
      have := (k.inv.pos 0 h1).1
      omega
  · rw [h.held i h0]; rfl
end Go.Proofs.Ytmpbhoijkcanmaa.R
