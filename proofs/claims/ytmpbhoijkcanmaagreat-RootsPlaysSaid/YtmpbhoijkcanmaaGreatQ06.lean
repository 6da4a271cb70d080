/- Maps of pages, and versions of them: lemmas, part 6 of 23. -/
import Derived.Deep.RegionHeld3
import Derived.Shelf.SlSortCmp.WholeK
import Derived.Test.YtmpbhoijkcanmaaGreatShelf
import Derived.Shelf.SlSortCmp.NoneTotal
import Derived.Laws.AppendOwn
import Derived.Test.YtmpbhoijkcanmaaGreatQ05

/- Radix: a way to a node is taken away: what goes of a slot. -/
namespace Go.Proofs.YtmpbhoijkcanmaaGreat.R
open Go.ChangeShapes Go.WideShapes Go.ChangeAt Go.RowKit Go.Maps Go.Proofs.YtmpbhoijkcanmaaGreat.G
set_option linter.unusedVariables false
set_option linter.unusedSimpArgs false
set_option linter.unnecessarySimpa false

variable {w w' : World} {p : Pf} {F F2 G : Fo} {pd : Nat → Nat} {ps : Slot → Nat}
theorem FoAt.withSl {wq : World} {l : List (Slot × Value)} (h : FoAt w p G) (hm : MapIs Tryz.prog 45 encS wq p.s l) (hn : NumL l) (t : Turned [p.s] w wq) : FoAt wq p (R.withSl G l) := h.setSl hm hn t
theorem withSl_sub {l : List (Slot × Value)} (hl : ∀ s, cnt l s ≤ cnt G.sl s) : Sub G (R.withSl G l) :=
  ⟨⟨fun _ h => h, fun _ _ => rfl, fun _ _ => rfl, fun _ _ => rfl, fun _ _ => rfl⟩, fun _ _ => Nat.le_refl _, rfl, rfl, hl⟩
/-- the cells that an entry's variable has, and the forest's map of slots -/
def VarAt (w : World) (p : Pf) (eb : Nat) (s : Slot) : Prop := w.cell? ⟨p.f, 2, none⟩ = some (.map (some p.s)) ∧ w.cell? ⟨eb, 0, none⟩ = some (.int .i64 s.e) ∧ w.cell? ⟨eb, 1, none⟩ = some (.int .i64 s.c) ∧ w.cell? ⟨eb, 2, none⟩ = some (.int .i64 s.i)
theorem VarAt.turned {eb : Nat} {s : Slot} (h : VarAt w p eb s) {S : List Nat} (t : Turned S w w') (h1 : p.f ∉ S) (h2 : eb ∉ S) : VarAt w' p eb s := ⟨t.cell h.1 h1, t.cell h.2.1 h2, t.cell h.2.2.1 h2, t.cell h.2.2.2 h2⟩
/-- what the maps do at an entry -/
def LesStep (w w6 : World) (p : Pf) (gb B eb : Nat) (F F2 : Fo) (x : Node) (g : List (Slot × Value)) (pd : Nat → Nat) (ps : Slot → Nat) (s : Slot) : Prop :=
  ∃ (c : Nat) (w7 : World) (n7 : Int) (w8 : World) (l8 g' : List (Slot × Value)), (Instr.lookup 101 (.map (some p.s)) (.agg #[.int .i64 s.e, .int .i64 s.c, .int .i64 s.i]) false).run Tryz.prog w6.drew = .ok (.int .i64 c) w6.drew ∧
    (Instr.lookup 101 (.map (some p.s)) (.agg #[.int .i64 s.e, .int .i64 s.c, .int .i64 s.i]) false).run Tryz.prog w7 = .ok (.int .i64 c) w7 ∧
    (Instr.mapEntry 101 (.map (some p.s)) (.agg #[.int .i64 s.e, .int .i64 s.c, .int .i64 s.i])).run Tryz.prog w6.drew = .ok (.tuple #[.int .i64 c, .int .i64 n7]) w7 ∧
    (Instr.entryStore 101 (.map (some p.s)) (.int .i64 n7) (.int .i64 ((c : Int) - 1))).run Tryz.prog w7 = .ok () w8 ∧
    (1 ≤ c ∧ c ≤ 2 ^ 50) ∧ VarAt w8 p eb s ∧ VarAt w7 p eb s ∧ VarAt w6.drew p eb s ∧
    (∀ N, (Instr.lookup 101 (.map (some p.s)) (.agg #[.int .i64 s.e, .int .i64 s.c, .int .i64 s.i]) false).run Tryz.prog (w8.drewN N) = .ok (.int .i64 ((c : Int) - 1)) (w8.drewN N)) ∧
    (c ≠ 1 → ∀ N, LesAt w (w8.drewN N) p gb B F F2 x g pd ps) ∧
    (c = 1 → ∀ wq, Turned [] w8 wq → MapIs Tryz.prog 45 encS wq p.s l8 ∧ ∀ w9, MapIs Tryz.prog 45 encS w9 p.s (mdel l8 s) → Turned [p.s] wq w9 → VarAt w9 p eb s ∧ MapIs Tryz.prog 45 encS w9 gb g' ∧
      ∀ wa, MapIs Tryz.prog 45 encS wa gb (mput g' s (.bool true)) → Turned [gb] w9 wa → LesAt w wa p gb B F F2 x g pd ps)
theorem les_step {wr : World} {gb B lev : Nat} {x : Node} {g g1 : List (Slot × Value)} {j : Nat} (hc : LesC p gb B lev F F2 x) (hB : B < w.heap.size) (hgl : gb < w.heap.size) (h : LesIs w wr p gb B F F2 x g pd (remS x ps j) G g1) (hj : j < 16) (hb : x.bits.testBit j = true) :
    LesStep w (wr.alloc (.cells #[.int .i64 (x.ents j).s.e, .int .i64 (x.ents j).s.c, .int .i64 (x.ents j).s.i, .int .i64 (x.ents j).g] 47)) p gb B wr.heap.size F F2 x g pd (remS x ps (j + 1)) (x.ents j).s := by
  have hso := hc.ents j hj hb
  obtain ⟨k, hk⟩ := keyS _ hso
  have t1 := (Turned.refl [] wr).alloc (.cells #[.int .i64 (x.ents j).s.e, .int .i64 (x.ents j).s.c, .int .i64 (x.ents j).s.i, .int .i64 (x.ents j).g] 47)
  have hnew := fun q u hq => cells_new wr [.int .i64 (x.ents j).s.e, .int .i64 (x.ents j).s.c, .int .i64 (x.ents j).s.i, .int .i64 (x.ents j).g] 47 q u hq
  have n0 := hnew 0 _ rfl
  have n1 := hnew 1 _ rfl
  have n2 := hnew 2 _ rfl
  rw [Addr.add_mid, Nat.zero_add] at n0 n1 n2
  have t2 := t1.drew
  generalize wr.alloc (.cells #[.int .i64 (x.ents j).s.e, .int .i64 (x.ents j).s.c, .int .i64 (x.ents j).s.i, .int .i64 (x.ents j).g] 47) = w6 at *
  have h6 := h.calm t2
  have hF := h6.fo
  obtain ⟨s, hs⟩ : ∃ s, (x.ents j).s = s := ⟨_, rfl⟩
  rw [hs] at hso hk n0 n1 n2 ⊢
  have hz := zeroI
  -- how many there are
  have hm16 : slHits x (j + 1) s ≤ slHits x 16 s := slHits_mono _ _ (by omega)
  have hsucc : slHits x (j + 1) s = slHits x j s + 1 := by rw [slHits_succ x j, if_pos ⟨hb, hs⟩]
  have hcnt := h6.inv.sls s
  have hc1 : 1 ≤ cnt G.sl s := by
    rw [hcnt]; unfold remS; omega
  have hc50 : cnt G.sl s ≤ 2 ^ 50 := hF.ns.le s
  have hrem : ∀ t, remS x ps (j + 1) t = if t = s then remS x ps j t - 1 else remS x ps j t := fun t => by
    unfold remS
    by_cases e : t = s
    · subst e; rw [if_pos rfl]; omega
    · rw [if_neg e, slHits_succ x j, if_neg (fun h => e (h.2.symm.trans hs)), Nat.add_zero]
  have hrs : 1 ≤ remS x ps j s := by unfold remS; omega
  obtain ⟨w7, n7, e1, e2, e3, e4⟩ := hF.sl.run_entry keyedS encS_inj Tryz.underlying101 hz s hk
  obtain ⟨c, hcc⟩ : ∃ c, cnt G.sl s = c := ⟨_, rfl⟩
  obtain ⟨w8, g1', g2, g3⟩ := e4 (.int .i64 ((c : Int) - 1))
  rw [hF.ns.get] at e1
  have hl7 := e2.run_look keyedS encS_inj Tryz.underlying101 (hz w7) s hk false
  rw [look_touch, hF.ns.get] at hl7
  have hS7 : p.f ≠ p.s := hF.dis.1.2.2
  have hsz : w.heap.size ≤ wr.heap.size := h.own.size
  have hpf : p.f < wr.heap.size := h.fo.lt (.inl rfl)
  have hps : p.s < wr.heap.size := h.fo.lt (.inr (.inr (.inr (.inl rfl))))
  have hgs : gb ≠ p.s := fun e => hc.gb (.inr (.inr (.inr (.inl e))))
  have hgf : gb ≠ p.f := fun e => hc.gb (.inl e)
  have e33 := e3.trans g3
  have V6 : VarAt w6.drew p wr.heap.size s := ⟨hF.c2, n0, n1, n2⟩
  have hfs : p.f ∉ [p.s] := by simpa using hS7
  have hes : wr.heap.size ∉ [p.s] := by simp; omega
  have hp3 : p.own F p.s := .inr (.inr (.inr (.inl rfl)))
  rw [hcc] at e1 hl7 hc1 hc50
  have O8 : OwnP (fun b => p.own F b ∨ b = gb) w w8 := h6.own.step e33 (fun b hb => by simp at hb; subst hb; exact .inr (.inl hp3))
  have N8 : NodeAt w8 B x := h6.nd.turned e33 (by
    have : B ≠ p.s := fun e => hc.nB (e ▸ .inr (.inr (.inr (.inl rfl))))
    simpa using this)
  have hlook : ∀ N, (Instr.lookup 101 (.map (some p.s)) (encS s) false).run Tryz.prog (w8.drewN N) = .ok (.int .i64 ((c : Int) - 1)) (w8.drewN N) := fun N => by
    have := (g2.turned ((Turned.refl [] w8).drewN N) (by simp)).run_look keyedS encS_inj Tryz.underlying101 (hz _) s hk false
    rw [look_put, if_pos rfl] at this
    exact this
  refine ⟨c, w7, n7, w8, mput G.sl s (.int .i64 ((c : Int) - 1)), g1, by have := hF.look_sl _ hso; rw [hcc] at this; exact this, hl7, e1, g1', ⟨hc1, hc50⟩, V6.turned e33 hfs hes, V6.turned e3 hfs hes, V6, hlook, fun hne N => ?_, fun h1 wq tq => ?_⟩
  · have hcast : ((c : Int) - 1) = ((c - 1 : Nat) : Int) := by omega
    rw [hcast] at g2
    have hcp : ∀ t, cnt (mput G.sl s (.int .i64 ((c - 1 : Nat) : Int))) t = if t = s then c - 1 else cnt G.sl t := cnt_put _ _ _
    have hle : ∀ t, cnt (mput G.sl s (.int .i64 ((c - 1 : Nat) : Int))) t ≤ cnt G.sl t := fun t => by
      rw [hcp]
      by_cases e : t = s
      · subst e; rw [if_pos rfl]; omega
      · rw [if_neg e]; exact Nat.le_refl _
    have hsub := withSl_sub hle
    refine ⟨R.withSl G (mput G.sl s (.int .i64 ((c - 1 : Nat) : Int))), g1, LesIs.calm (wr := w8) ?_ ((Turned.refl [] w8).drewN N)⟩
    exact ⟨h6.sub.trans hsub, h6.inv.withSl (fun t => by
        rw [hcp, hrem]
        have := h6.inv.sls t
        by_cases e : t = s
        · subst e; rw [if_pos rfl, if_pos rfl]; omega
        · rw [if_neg e, if_neg e]; exact this), h6.keep, fun t => by
        have a := h6.gone t
        rw [a]
        show _ ↔ _ ∨ (_ ∧ cnt (mput G.sl s (.int .i64 ((c - 1 : Nat) : Int))) t = 0)
        rw [hcp]
        by_cases e : t = s
        · subst e
          rw [if_pos rfl]
          exact or_congr Iff.rfl ⟨fun h => absurd h.2 (by omega), fun h => absurd h.2 (by omega)⟩
        · rw [if_neg e], hF.withSl g2 (hF.ns.put _ _ (by omega) (by omega)) e33, h6.map.turned e33 (by simpa using hgs), O8, N8⟩
  · have V8 : VarAt wq p wr.heap.size s := (V6.turned e33 hfs hes).turned tq (by simp) (by simp)
    refine ⟨g2.turned tq (by simp), fun w9 m9 t9 => ?_⟩
    have e39 : Turned [p.s] w6.drew w9 := (e33.trans (tq.nil_mono)).trans t9
    have M9 := h6.map.turned e39 (by simpa using hgs)
    refine ⟨V8.turned t9 hfs hes, M9, fun wa ma ta => ?_⟩
    have hcp : ∀ t, cnt (mdel (mput G.sl s (.int .i64 ((c : Int) - 1))) s) t = if t = s then 0 else cnt G.sl t := fun t => by
      rw [cnt_del]
      by_cases e : t = s
      · rw [if_pos e, if_pos e]
      · rw [if_neg e, if_neg e]
        unfold cnt
        rw [look_put, if_neg e]
    have hle : ∀ t, cnt (mdel (mput G.sl s (.int .i64 ((c : Int) - 1))) s) t ≤ cnt G.sl t := fun t => by
      rw [hcp]; split <;> omega
    have hsub := withSl_sub hle
    have ho : ∀ {b}, p.own G b → b ∉ [gb] := fun {b} hb hm => by
      simp at hm; subst hm
      exact hc.gb (hc.sub.own (h.sub.own hb))
    refine ⟨R.withSl G (mdel (mput G.sl s (.int .i64 ((c : Int) - 1))) s), _, h6.sub.trans hsub, h6.inv.withSl (fun t => ?_), h6.keep, fun t => ?_, (hF.withSl m9 (hF.ns.put0 _ _) e39).turned ta (fun b hb => ho hb), ma, ((((h6.own.step e33 (fun b hb => by simp at hb; subst hb; exact .inr (.inl hp3))).step tq (by simp)).step t9 (fun b hb => by simp at hb; subst hb; exact .inr (.inl hp3))).step ta (fun b hb => by simp at hb; subst hb; exact .inr (.inr rfl))), ((N8.turned tq (by simp)).turned t9 (by
      have : B ≠ p.s := fun e => hc.nB (e ▸ .inr (.inr (.inr (.inl rfl))))
      simpa using this)).turned ta (by
      have : B ≠ gb := fun e => hc.gb (e ▸ hc.oB)
      simpa using this)⟩
    · rw [hcp, hrem]
      have := h6.inv.sls t
      by_cases e : t = s
      · subst e; rw [if_pos rfl, if_pos rfl]; omega
      · rw [if_neg e, if_neg e]; exact this
    · have a := h6.gone t
      rw [look_put]
      show _ ↔ _ ∨ (_ ∧ cnt (mdel (mput G.sl s (.int .i64 ((c : Int) - 1))) s) t = 0)
      rw [hcp]
      by_cases e : t = s
      · rw [if_pos e, if_pos e]
        have := h6.sub.sl t
        subst e
        have : 0 < cnt F2.sl t := by omega
        simp [this]
      · rw [if_neg e, if_neg e]; exact a
end Go.Proofs.YtmpbhoijkcanmaaGreat.R

/- Radix: a way to a node is taken away: the walk. -/
namespace Go.Proofs.YtmpbhoijkcanmaaGreat.R
open Go.ChangeShapes Go.WideShapes Go.ChangeAt Go.RowKit Go.Maps Go.Proofs.YtmpbhoijkcanmaaGreat.G
set_option linter.unusedVariables false
set_option linter.unusedSimpArgs false
set_option linter.unnecessarySimpa false

variable {w w' : World} {p : Pf} {F F2 G : Fo} {pd : Nat → Nat} {ps : Slot → Nat}
theorem lessPost.more {gb n : Nat} {pend : Nat → Nat} {pendS : Slot → Nat} {g : List (Slot × Value)} {e : Ending} (he : e = .returned (.tuple #[])) (h : Inv (decRef F n) (dec1 pend n) pendS 0) (hF : FoAt w' p (decRef F n)) (hm : MapIs Tryz.prog 45 encS w' gb g) (ho : OwnP (fun b => p.own F b ∨ b = gb) w w') : lessPost p gb F pend pendS n g w e w' :=
  ⟨he, decRef F n, g, decRef_sub F n, h, fun i hi _ => hi, Gone.refl (fun _ => rfl) g, hF, hm, ho⟩
theorem lessPost.done {gb n B : Nat} {pend : Nat → Nat} {pendS : Slot → Nat} {g : List (Slot × Value)} {x : Node} {e : Ending} (he : e = .returned (.tuple #[])) (hz : dec1 pend n n = 0) (h : LesAt w w' p gb B F (dropId (decRef F n) n) x g (dec1 pend n) (remS x pendS 16)) : lessPost p gb F pend pendS n g w e w' := by
  obtain ⟨G, g', h⟩ := h
  refine ⟨he, G, g', ((decRef_sub F n).trans (dropId_sub _ n)).trans h.sub, h.inv.pendEq (fun _ _ => rfl) (fun s => by unfold remS; omega), fun i hi h0 => h.keep i (dropId_mem.2 ⟨hi, fun e => ?_⟩) h0, fun s => h.gone s, h.fo, h.map, h.own⟩
  subst e; omega

set_option maxRecDepth 100000 in
set_option maxHeartbeats 4000000 in
theorem less_step (lev : Nat) (HC : LessC (lev + 1)) : LessC lev := by
  intro p gb F pend pendS n g w hI hn hl hp hlast hrefs hF hm hgb
  have hp60 : n < 2 ^ 60 := by have := (hI.pos n hn).2; omega
  have hRr := hI.refs n hn
  have hR46 := hrefs n hn
  have HI1 := hI.decRef hn hp
  have HA1 := hF.decRef hn
  have hc0 := hF.c0
  have hL := hF.look_node n hp60 hn
  unfold ptrV at hL
  have hN := hF.nd n hn
  have c81 := hN.refs
  have f81 := hN.frozen 81
  have hoB : p.own F (p.blk n) := .inr (.inr (.inr (.inr ⟨n, hn, rfl⟩)))
  have t1 : Turned [p.blk n] w (w.setCell ⟨p.blk n, 81, none⟩ (.int .i64 ((F.nd n).refs - 1 : Nat))) := (Turned.refl [p.blk n] w).setCell (p := ⟨p.blk n, 81, none⟩) (.inl (by simp)) _
  have hgB : gb ≠ p.blk n := fun e => hgb (e ▸ hoB)
  have HM1 := hm.turned t1 (by simpa using hgB)
  have HO1 : OwnP (fun b => p.own F b ∨ b = gb) w (w.setCell ⟨p.blk n, 81, none⟩ (.int .i64 ((F.nd n).refs - 1 : Nat))) := (OwnP.of (Turned.refl [] w)).step t1 (fun b hb => by simp at hb; subst hb; exact .inr (.inl hoB))
  have hblt : p.blk n < w.heap.size := hF.lt hoB
  have hglt : gb < w.heap.size := hm.lt
  obtain ⟨R, hR⟩ : ∃ R, (F.nd n).refs = R := ⟨_, rfl⟩
  have hR1 : 1 ≤ R := by omega
  have hcast : ((R - 1 : Nat) : Int) = (R : Int) - 1 := by omega
  rw [hR] at c81 HA1 HM1 HO1 hR46 t1
  rw [hcast] at HA1 HM1 HO1 t1
  by_cases hR0 : R = 1
  · have hz : dec1 pend n n = 0 := by
      unfold dec1; rw [if_pos rfl]; omega
    have h0 : ((decRef F n).nd n).refs = 0 := by rw [(decRef_nd F n n).2.2.2, if_pos rfl]; omega
    subst hR0
    have HI2 := HI1.dropId (show n ∈ (decRef F n).ids from hn) h0 (.inr rfl)
    obtain ⟨x, hx⟩ : ∃ x, (decRef F n).nd n = x := ⟨_, rfl⟩
    rw [hx] at HI2
    have hnok := HI1.ok n hn
    rw [hx] at hnok
    have hLC : LesC p gb (p.blk n) lev F (dropId (decRef F n) n) x :=
      ⟨(decRef_sub F n).trans (dropId_sub _ n), fun i hi => (HI2.pos i hi).1, fun j hj => by
        rcases hnok.kid j hj with h' | ⟨h1, h2, h3⟩
        · exact .inl h'
        · have h2' : F.lev (x.kids j) = F.lev n + 1 := h2
          exact .inr ⟨dropId_mem.2 ⟨h1, fun e => by rw [e] at h2'; omega⟩, by show F.lev (x.kids j) = _; omega⟩, hnok.bits.1, fun j hj hb => (hnok.ents j hj hb).1, hlast, hrefs, hgb, FoAt.own_drop HA1 hn, hoB⟩
    have HN1 := HA1.nd n hn
    rw [hx] at HN1
    have HS : Hid (∀ wq, MapIs Tryz.prog 3 encI wq p.m (mdel (nodesL p F) (n : Int)) → Turned [p.m] (w.setCell ⟨p.blk n, 81, none⟩ (.int .i64 ((1 : Nat) - 1))) wq → LesAt w wq p gb (p.blk n) F (dropId (decRef F n) n) x g (remK x (dec1 pend n) 0) (remS x pendS 0)) := fun wq hq tq => by
      have h1 := HA1.dropId n hq tq
      refine ⟨_, g, Sub.refl _, HI2.pendEq (fun i _ => ?_) (fun s => ?_), fun i hi _ => hi, Gone.refl (fun _ => rfl) g, h1, HM1.turned tq ?_, HO1.step tq (fun b hb => by simp at hb; subst hb; exact .inr (.inl (.inr (.inl rfl)))), HN1.turned tq ?_⟩
      · unfold remK
        rw [show hits x.kids 0 i = 0 from rfl, Nat.sub_zero]
      · unfold remS
        rw [show slHits x 0 s = 0 from rfl, Nat.sub_zero]
      · have : gb ≠ p.m := fun e => hgb (e ▸ .inr (.inl rfl))
        simpa using this
      · have := (hF.far n hn).2.1
        simpa using this
    have HMn : MapIs Tryz.prog 3 encI (w.setCell ⟨p.blk n, 81, none⟩ (.int .i64 ((1 : Nat) - 1))) p.m (nodesL p F) := HA1.nodes
    have hd0 := HA1.c0
    obtain ⟨kk, hkk⟩ := keyI (n : Int) (by unfold I64; omega)
    have HKK := Lib.hid hkk
    have HMn := Lib.hid HMn
    have HLC := Lib.hid hLC
    have HZ := Lib.hid hz
    have Hblt := Lib.hid hblt
    have Hglt := Lib.hid hglt
    have HHC := Lib.hid HC
    have hcv : ((1 : Nat) : Int) = 1 := rfl
    have hcw : ((1 : Nat) : Int) - 1 = 0 := rfl
    rw [hcw] at HMn hd0 HS
    rw [hcv] at c81
    clear hcv hcw
    obtain ⟨B, hB⟩ : ∃ B, p.blk n = B := ⟨_, rfl⟩
    rw [hB] at hL c81 f81 HS HMn HLC Hblt hd0
    have hIx := Lib.hid (indexKids x.kids)
    have hIe := Lib.hid (indexEnts x.ents)
    clear hI hl hp hrefs hF hm hgb hRr hR46 HI1 HA1 hN hoB t1 hgB HM1 HO1 hblt hglt hR hR1 hcast h0 HI2 hnok hLC HN1 hkk hz hx hB HC
    go_enter Tryz.func57, Tryz.ntmps57
    go_upto_region 3 with fail
    clear hc0 c81 f81 hL
    generalize w.setCell ⟨B, 81, none⟩ (.int .i64 0) = w1 at *
    go_upto_region 4 with (at_delete; refine wp_del _ rfl _ _ 99 3 rfl keyedI encI_inj Tryz.underlying99 p.m (nodesL p F) rfl HMn.out (n : Int) rfl HKK.out ?_; intro w2 hm2 ht2; have S2 := Lib.hid (HS.out w2 hm2 ht2); clear hm2 ht2)
    clear HS HMn hd0
    obtain ⟨G0, g0, hS0⟩ := S2.out
    have HRk := Lib.hid hS0.nd.kidsRange
    have HIk := Lib.hid (infoKids x.kids)
    clear hS0
    generalize rowL x.kids = A at *
    go_upto_block 1 with (refine wpList_load_mid (by rfl) 112 _ (by rfl) B 0 (by rfl) A _ HRk.out Tryz.underlying112 (by rfl) HIk.out ?_)
    go_loopw [38] (fun v wr => ∃ j : Nat, j ≤ 16 ∧ v = .int .i64 j ∧ Hid (LesAt w wr p gb B F (dropId (decRef F n) n) x g (remK x (dec1 pend n) j) (remS x pendS 0))) (fun v _ => 16 - (intOf v).toNat)
    case atStart => exact ⟨0, by omega, rfl, S2.out⟩
    case round =>
      obtain ⟨j, hj, rfl, hK⟩ := hrel
      clear S2 HRk
      by_cases hlt : j < 16
      · have hix := hIx.out j hlt
        obtain ⟨k, hk⟩ : ∃ k, x.kids j = k := ⟨_, rfl⟩
        rw [hk] at hix
        by_cases h0 : k = 0
        · have HK1 : Hid (LesAt w wr p gb B F (dropId (decRef F n) n) x g (remK x (dec1 pend n) (j + 1)) (remS x pendS 0)) := by
            obtain ⟨G, g', h⟩ := hK.out
            exact ⟨G, g', h.skip HLC.out (hk.trans h0)⟩
          subst h0
          clear hK hk
          go_wp2
          go_roundw
          case rel => exact ⟨j + 1, by omega, by go_num, HK1.out⟩
          case measure => simp [intOf]; omega
        · have hkb : ((k : Int) != 0) = true := by simpa using h0
          have CK : Hid (Calls Tryz.prog 57 #[.pointer (some ⟨p.f, 0, none⟩), .int .i64 (k : Nat), .map (some gb)] wr fun e wq => e = .returned (.tuple #[]) ∧ LesAt w wq p gb B F (dropId (decRef F n) n) x g (remK x (dec1 pend n) (j + 1)) (remS x pendS 0)) := by
            obtain ⟨G, g', h⟩ := hK.out
            have := h.kid HHC.out HLC.out hlt (by rw [hk]; exact h0)
            rw [hk] at this
            exact this
          clear hK hk h0
          go_wp2_with (go_at_call 57; ((with_reducible refine CK.out.mono ?_); rintro e wq ⟨rfl, hs⟩; have HK1 := Lib.hid hs; clear hs))
          go_roundw
          case rel => exact ⟨j + 1, by omega, by go_num, HK1.out⟩
          case measure => simp [intOf]; omega
      · have hje : j = 16 := by omega
        subst hje
        have S0 : Hid (LesAt w wr p gb B F (dropId (decRef F n) n) x g (dec1 pend n) (remS x pendS 0)) := by
          obtain ⟨G, g', h⟩ := hK.out
          exact ⟨G, g', h.pend (fun i _ => by unfold remK; omega) (fun _ => rfl)⟩
        clear hK
        have HRe : Hid (wr.rangeAt B 16 (entL x.ents)) := by
          obtain ⟨G, g', h⟩ := S0.out
          exact h.nd.entsRange
        have HIi := Lib.hid (infoEnts x.ents)
        clear hj hlt HIk hIx
        generalize entL x.ents = E at *
        go_wp2_with (refine wpList_load_mid (by rfl) 113 _ (by rfl) B 16 (by rfl) E _ HRe.out Tryz.underlying113 (by rfl) HIi.out ?_)
        clear HRe HIi
        go_loopw [52] (fun v ws => ∃ j : Nat, j ≤ 16 ∧ v = .int .i64 j ∧ Hid (LesAt w ws p gb B F (dropId (decRef F n) n) x g (dec1 pend n) (remS x pendS j))) (fun v _ => 16 - (intOf v).toNat)
        case atStart => exact ⟨0, by omega, rfl, S0.out⟩
        case round =>
          obtain ⟨j, hj, rfl, hS⟩ := hrel
          clear S0
          obtain ⟨G, g1, hG⟩ := hS.out
          clear hS
          by_cases hlt : j < 16
          · have hix := hIe.out j hlt
            have c80 := hG.nd.bits
            have c80' : ∀ o, (wr.alloc o).cell? ⟨B, 80, none⟩ = some (.int .u16 x.bits) := fun o => ((Turned.refl [] wr).alloc o).cell c80 (by simp)
            have hu := HLC.out.bits
            have hbo := bit_ofI x.bits j hu
            by_cases hb : x.bits.testBit j = true
            · rw [if_pos hb] at hbo
              have hrel := les_step HLC.out Hblt.out Hglt.out hG hlt hb
              have hkok := HLC.out.ents j hlt hb
              generalize hxe : x.ents j = xe at *
              obtain ⟨⟨se, sc, si⟩, sg⟩ := xe
              simp only at hix hrel
              have HRel := Lib.hid hrel
              obtain ⟨ks, hks⟩ := keyS _ hkok
              have HKS := Lib.hid hks
              clear hG hrel c80 hkok hks
              go_upto_region 14 with fail
              obtain ⟨w6, hw6⟩ : ∃ w6, wr.alloc (.cells #[.int .i64 se, .int .i64 sc, .int .i64 si, .int .i64 sg] 47) = w6 := ⟨_, rfl⟩
              obtain ⟨eb, heb⟩ : ∃ eb, wr.heap.size = eb := ⟨_, rfl⟩
              rw [hw6, heb] at HRel
              rw [hw6, heb]
              obtain ⟨c, w7, n7, w8, l8, g2, r1, r2, r3, r4, hc, k8, k7, k6, rq, hmore, hone⟩ := HRel.out
              unfold VarAt at k8 k7 k6
              simp only at r1 r2 r3 k7 k8 k6 rq
              have K8 := Lib.hid k8
              have K7 := Lib.hid k7
              have K6 := Lib.hid k6
              have HMore := Lib.hid hmore
              have HOne := Lib.hid hone
              clear k7 k8 k6 hix hu hbo hw6 c80' hmore hone HRel
              have hwr : IntKind.i64.wrap ((c : Int) - 1) = (c : Int) - 1 := IntWalk.i64_in _ (by omega)
              have hc1 : (1 : Int) ≤ c := by omega
              go_region_held3 (fun w' => w'.cell? ⟨p.f, 2, none⟩ = some (.map (some p.s)) ∧ w'.cell? ⟨eb, 0, none⟩ = some (.int .i64 se) ∧ w'.cell? ⟨eb, 1, none⟩ = some (.int .i64 sc) ∧ w'.cell? ⟨eb, 2, none⟩ = some (.int .i64 si)) (first | exact K6.out | exact K7.out | exact K8.out | go_keep) (fail)
              all_goals
                clear r1 r2 r3 r4 K6 K7 hwr
                obtain ⟨d2, d3, d4, d5⟩ := K8.out
                go_upto_region 15 with fail
                by_cases h1 : c = 1
                · subst h1
                  have rq0 : ∀ N, (Instr.lookup 101 (.map (some p.s)) (.agg #[.int .i64 se, .int .i64 sc, .int .i64 si]) false).run Tryz.prog (w8.drewN N) = .ok (.int .i64 0) (w8.drewN N) := rq
                  clear rq
                  go_quiet (fail)
                  have hd2 : (w8.drewN nq).cell? ⟨p.f, 2, none⟩ = some (.map (some p.s)) := d2
                  have hd3 : (w8.drewN nq).cell? ⟨eb, 0, none⟩ = some (.int .i64 se) := d3
                  have hd4 : (w8.drewN nq).cell? ⟨eb, 1, none⟩ = some (.int .i64 sc) := d4
                  have hd5 : (w8.drewN nq).cell? ⟨eb, 2, none⟩ = some (.int .i64 si) := d5
                  have HD := Lib.hid (HOne.out rfl (w8.drewN nq).drew ((Turned.refl [] w8).drewN nq).drew)
                  clear d2 d3 d4 d5 rq0 HMore HOne K8
                  go_upto_region 16 with fail
                  generalize w8.drewN nq = w9 at *
                  go_still_tail 6, (by kernel_rfl)
                  change wpList _ _ _ _ _ w9.drew
                  generalize w9.drew = wd at *
                  clear hd2 hd3 hd4 hd5
                  go_upto_region 17 with (at_delete; refine wp_del _ rfl _ _ 101 45 rfl keyedS encS_inj Tryz.underlying101 p.s l8 rfl HD.out.1 ⟨se, sc, si⟩ rfl HKS.out ?_; intro wb hmb htb; obtain ⟨hv, hg2, ha⟩ := HD.out.2 wb hmb htb; unfold VarAt at hv; have HV := Lib.hid hv; have HG := Lib.hid hg2; have HA := Lib.hid ha; clear hv hg2 ha hmb htb)
                  obtain ⟨e2, e3, e4, e5⟩ := HV.out
                  simp only at e3 e4 e5
                  clear HD HV
                  go_wp2_with (at_mapUpdate; refine wp_put _ rfl _ _ _ 86 rfl keyedS encS_inj Tryz.underlying86 gb g2 rfl HG.out ⟨se, sc, si⟩ rfl (.bool true) rfl HKS.out ?_; intro wc hmc htc; have HF := Lib.hid (HA.out wc hmc htc); clear hmc htc)
                  go_roundw
                  case rel => exact ⟨j + 1, by omega, by go_num, HF.out⟩
                  case measure => simp [intOf]; omega
                · have hcb : ((c : Int) - 1 == 0) = false := by simp; omega
                  go_quiet (fail)
                  have HF := Lib.hid (HMore.out h1 nq)
                  clear rq d2 d3 d4 d5 HMore HOne K8
                  go_wp2
                  go_roundw
                  case rel => exact ⟨j + 1, by omega, by go_num, HF.out⟩
                  case measure => simp [intOf]; omega
            · have hbf : x.bits.testBit j = false := by simpa using hb
              rw [if_neg hb] at hbo
              have HFin : Hid (∀ o, LesAt w (wr.alloc o) p gb B F (dropId (decRef F n) n) x g (dec1 pend n) (remS x pendS (j + 1))) := fun o => ⟨G, g1, (hG.skipE HLC.out hbf).calm ((Turned.refl [] wr).alloc o)⟩
              clear hG c80 hb hbf
              go_wp2
              go_roundw
              case rel => exact ⟨j + 1, by omega, by go_num, HFin.out _⟩
              case measure => simp [intOf]; omega
          · have hje : j = 16 := by omega
            subst hje
            go_wp2
            go_end0
            exact lessPost.done rfl HZ.out ⟨G, g1, hG⟩
  · have HI2 := HI1.exc0 (fun _ => by rw [(decRef_nd F n n).2.2.2, if_pos rfl]; omega)
    have HE := Lib.hid (lessPost.more (w := w) rfl HI2 HA1 HM1 HO1)
    have hR2 : 1 < (R : Int) := by omega
    obtain ⟨B, hB⟩ : ∃ B, p.blk n = B := ⟨_, rfl⟩
    rw [hB] at hL c81 f81 HE
    clear hI hl hp hrefs hF hm hgb hRr HI1 HA1 hN hoB t1 hgB HM1 HO1 hblt hglt hR hR1 hcast hR0 HI2 hn hlast
    go_enter Tryz.func57, Tryz.ntmps57
    go_wp2
    go_end0
    exact HE.out
theorem less3 (lev : Nat) (h : 2 < lev) : LessC lev := fun p gb F pend pendS n g w hI hn hl _ _ _ _ _ _ => by
  have := hI.lev n hn
  omega
theorem less_fn (lev : Nat) (h : lev ≤ 2) : LessC lev := by
  have h2 := less_step 2 (less3 3 (by omega))
  have h1 := less_step 1 h2
  have h0 := less_step 0 h1
  have : lev = 0 ∨ lev = 1 ∨ lev = 2 := by omega
  rcases this with rfl | rfl | rfl
  · exact h0
  · exact h1
  · exact h2
end Go.Proofs.YtmpbhoijkcanmaaGreat.R

/- Radix: how two slots are compared. -/
namespace Go.Proofs.YtmpbhoijkcanmaaGreat.R
open Go.ChangeShapes Go.WideShapes Go.ChangeAt Go.RowKit Go.Maps Go.Proofs.YtmpbhoijkcanmaaGreat.G Go.Sort Go.Shelf Go.Lib
set_option linter.unusedVariables false
set_option linter.unusedSimpArgs false
set_option linter.unnecessarySimpa false

/-- cmp.Compare, cmp.Or -/
def cmpI (a b : Int) : Int := if a < b then -1 else if b < a then 1 else 0
theorem isnan (a : Int) (w : World) : Calls Tryz.prog 86 #[.int .i64 a] w fun e' w' => e' = .returned (.bool false) ∧ w = w' := by
  go_enter Tryz.func86, Tryz.ntmps86
  go_wp2
  go_ret
  exact ⟨rfl, rfl⟩
theorem compare (a b : Int) (w : World) : Calls Tryz.prog 66 #[.int .i64 a, .int .i64 b] w fun e' w' => e' = .returned (.int .i64 (cmpI a b)) ∧ w = w' := by
  have CN := Lib.hid isnan
  have h3 : a < b ∨ b < a ∨ a = b := by omega
  rcases h3 with h | h | rfl
  · rw [show cmpI a b = -1 from if_pos h]
    go_enter Tryz.func66, Tryz.ntmps66
    go_wp2_with (go_at_call 86; ((with_reducible refine (CN.out _ _).mono ?_); rintro e ww ⟨rfl, rfl⟩))
    go_ret
    exact ⟨rfl, rfl⟩
  · rw [show cmpI a b = 1 by unfold cmpI; rw [if_neg (by omega), if_pos h]]
    have h' : ¬ a < b := by omega
    go_enter Tryz.func66, Tryz.ntmps66
    go_wp2_with (go_at_call 86; ((with_reducible refine (CN.out _ _).mono ?_); rintro e ww ⟨rfl, rfl⟩))
    go_ret
    exact ⟨rfl, rfl⟩
  · rw [show cmpI a a = 0 by unfold cmpI; rw [if_neg (by omega), if_neg (by omega)]]
    go_enter Tryz.func66, Tryz.ntmps66
    go_wp2_with (go_at_call 86; ((with_reducible refine (CN.out _ _).mono ?_); rintro e ww ⟨rfl, rfl⟩))
    go_ret
    exact ⟨rfl, rfl⟩
def orI (x y : Int) : Int := if x = 0 then y else x
theorem or3 (x y z : Int) (b : Nat) (w : World) (h0 : w.cell? ⟨b, 0, none⟩ = some (.int .i64 x)) (h1 : w.cell? ⟨b, 1, none⟩ = some (.int .i64 y)) (h2 : w.cell? ⟨b, 2, none⟩ = some (.int .i64 z)) :
    Calls Tryz.prog 65 #[.slice (some ⟨b, 0, none⟩) 3 3] w fun e' w' => e' = .returned (.int .i64 (orI x (orI y z))) ∧ w = w' := by
  obtain ⟨R, hR⟩ : ∃ R, orI x (orI y z) = R := ⟨_, rfl⟩
  rw [hR]
  have HR := Lib.hid hR
  clear hR
  go_enter Tryz.func65, Tryz.ntmps65
  go_wp2
  go_loop [8] (fun i => i = .int .i64 0 ∨ (i = .int .i64 1 ∧ x = 0) ∨ (i = .int .i64 2 ∧ x = 0 ∧ y = 0) ∨ (i = .int .i64 3 ∧ x = 0 ∧ y = 0 ∧ z = 0)) (fun i => 3 - (intOf i).toNat)
  case atStart => exact .inl rfl
  case round =>
    rcases hrel with rfl | ⟨rfl, hx⟩ | ⟨rfl, hx, hy⟩ | ⟨rfl, hx, hy, hz⟩
    · by_cases hx : x = 0
      · have hxb : (x == 0) = true := by simpa using hx
        have HX := Lib.hid hx
        clear hx
        go_wp2
        go_round
        case rel => exact .inr (.inl ⟨rfl, HX.out⟩)
        case measure => simp [intOf]
      · have hxb : (x == 0) = false := by simpa using hx
        have HX := Lib.hid hx
        clear hx
        go_wp2
        go_ret
        exact ⟨ret1 (by rw [← HR.out]; exact (if_neg HX.out).symm), rfl⟩
    · by_cases hy : y = 0
      · have hyb : (y == 0) = true := by simpa using hy
        have HX := Lib.hid hx
        have HY := Lib.hid hy
        clear hx hy
        go_wp2
        go_round
        case rel => exact .inr (.inr (.inl ⟨rfl, HX.out, HY.out⟩))
        case measure => simp [intOf]
      · have hyb : (y == 0) = false := by simpa using hy
        have HX := Lib.hid hx
        have HY := Lib.hid hy
        clear hx hy
        go_wp2
        go_ret
        exact ⟨ret1 (by rw [← HR.out]; unfold orI; rw [if_pos HX.out, if_neg HY.out]), rfl⟩
    · by_cases hz : z = 0
      · have hzb : (z == 0) = true := by simpa using hz
        have HX := Lib.hid hx
        have HY := Lib.hid hy
        have HZ := Lib.hid hz
        clear hx hy hz
        go_wp2
        go_round
        case rel => exact .inr (.inr (.inr ⟨rfl, HX.out, HY.out, HZ.out⟩))
        case measure => simp [intOf]
      · have hzb : (z == 0) = false := by simpa using hz
        have HX := Lib.hid hx
        have HY := Lib.hid hy
        clear hx hy hz
        go_wp2
        go_ret
        exact ⟨ret1 (by rw [← HR.out]; unfold orI; rw [if_pos HX.out, if_pos HY.out]), rfl⟩
    · have HX := Lib.hid (And.intro hx (And.intro hy hz))
      clear hx hy hz
      go_wp2
      go_ret
      exact ⟨ret1 (by rw [← HR.out]; unfold orI; rw [if_pos HX.out.1, if_pos HX.out.2.1, HX.out.2.2]), rfl⟩
def cmpS (a b : Slot) : Int := orI (cmpI a.e b.e) (orI (cmpI a.c b.c) (cmpI a.i b.i))

set_option maxRecDepth 100000 in
set_option maxHeartbeats 4000000 in
theorem closureB (a b : Slot) (W : World) : Calls Tryz.prog 71 #[encS a, encS b] W fun e w' => e = .returned (.int .i64 (cmpS a b)) ∧ ∃ q os', w' = grow (W.drewN q) os' := by
  obtain ⟨ae, ac, ai⟩ := a
  obtain ⟨be, bc, bi⟩ := b
  have C1 := Lib.hid (compare ae be)
  have C2 := Lib.hid (compare ac bc)
  have C3 := Lib.hid (compare ai bi)
  unfold encS cmpS
  simp only
  have CO : Hid (∀ (b : Nat) (w : World), w.cell? ⟨b, 0, none⟩ = some (.int .i64 (cmpI ae be)) → w.cell? ⟨b, 1, none⟩ = some (.int .i64 (cmpI ac bc)) → w.cell? ⟨b, 2, none⟩ = some (.int .i64 (cmpI ai bi)) → Calls Tryz.prog 65 #[.slice (some ⟨b, 0, none⟩) 3 3] w fun e' w' => e' = .returned (.int .i64 (orI (cmpI ae be) (orI (cmpI ac bc) (cmpI ai bi)))) ∧ w = w') :=
    fun b w h0 h1 h2 => or3 _ _ _ b w h0 h1 h2
  generalize orI (cmpI ae be) (orI (cmpI ac bc) (cmpI ai bi)) = R at *
  generalize cmpI ae be = x at *
  generalize cmpI ac bc = y at *
  generalize cmpI ai bi = z at *
  go_enter Tryz.func71, Tryz.ntmps71
  go_upto_region 1 with fail
  have b1 : ∀ j u, [Value.int .i64 ae, .int .i64 ac, .int .i64 ai][j]? = some u → ((W.alloc (.cells #[.int .i64 ae, .int .i64 ac, .int .i64 ai] 45)).alloc (.cells #[.int .i64 be, .int .i64 bc, .int .i64 bi] 45)).cell? ((⟨W.heap.size, 0, none⟩ : Addr).add j) = some u :=
    fun j u h => ((Turned.refl [] _).alloc _).cell (cells_new W _ 45 j u h) (by simp)
  have b2 : ∀ j u, [Value.int .i64 be, .int .i64 bc, .int .i64 bi][j]? = some u → ((W.alloc (.cells #[.int .i64 ae, .int .i64 ac, .int .i64 ai] 45)).alloc (.cells #[.int .i64 be, .int .i64 bc, .int .i64 bi] 45)).cell? ((⟨W.heap.size + 1, 0, none⟩ : Addr).add j) = some u := by
    intro j u h
    have := cells_new (W.alloc (.cells #[.int .i64 ae, .int .i64 ac, .int .i64 ai] 45)) [Value.int .i64 be, .int .i64 bc, .int .i64 bi] 45 j u h
    simpa using this
  have c1 : _ = some (Value.int .i64 ae) := b1 0 _ rfl
  have c2 : _ = some (Value.int .i64 ac) := b1 1 _ rfl
  have c3 : _ = some (Value.int .i64 ai) := b1 2 _ rfl
  have c4 : _ = some (Value.int .i64 be) := b2 0 _ rfl
  have c5 : _ = some (Value.int .i64 bc) := b2 1 _ rfl
  have c6 : _ = some (Value.int .i64 bi) := b2 2 _ rfl
  change World.cell? _ ⟨W.heap.size, 0, none⟩ = _ at c1
  change World.cell? _ ⟨W.heap.size, 1, none⟩ = _ at c2
  change World.cell? _ ⟨W.heap.size, 2, none⟩ = _ at c3
  change World.cell? _ ⟨W.heap.size + 1, 0, none⟩ = _ at c4
  change World.cell? _ ⟨W.heap.size + 1, 1, none⟩ = _ at c5
  change World.cell? _ ⟨W.heap.size + 1, 2, none⟩ = _ at c6
  have hG : Hid (∃ os, (W.alloc (.cells #[.int .i64 ae, .int .i64 ac, .int .i64 ai] 45)).alloc (.cells #[.int .i64 be, .int .i64 bc, .int .i64 bi] 45) = grow W os) := ⟨_, by rw [alloc_eq_grow, alloc_eq_grow, grow_grow]⟩
  clear b1 b2
  generalize (W.alloc (.cells #[.int .i64 ae, .int .i64 ac, .int .i64 ai] 45)).alloc (.cells #[.int .i64 be, .int .i64 bc, .int .i64 bi] 45) = w1 at *
  generalize W.heap.size = B at *
  go_region_held3 (fun w' => w'.cell? ⟨B, 0, none⟩ = some (.int .i64 ae) ∧ w'.cell? ⟨B, 1, none⟩ = some (.int .i64 ac) ∧ w'.cell? ⟨B, 2, none⟩ = some (.int .i64 ai) ∧ w'.cell? ⟨B + 1, 0, none⟩ = some (.int .i64 be) ∧ w'.cell? ⟨B + 1, 1, none⟩ = some (.int .i64 bc) ∧ w'.cell? ⟨B + 1, 2, none⟩ = some (.int .i64 bi)) (go_keep)
    (first
      | (go_at_call 66; ((with_reducible refine (C1.out _).mono ?_); rintro e w3 ⟨rfl, rfl⟩))
      | (go_at_call 66; ((with_reducible refine (C2.out _).mono ?_); rintro e w3 ⟨rfl, rfl⟩))
      | (go_at_call 66; ((with_reducible refine (C3.out _).mono ?_); rintro e w3 ⟨rfl, rfl⟩))
      | (go_at_call 65; ((with_reducible refine (CO.out _ _ ?_ ?_ ?_).mono ?_); (exact cells_new _ [.int .i64 x, .int .i64 y, .int .i64 z] _ 0 _ rfl); (exact cells_new _ [.int .i64 x, .int .i64 y, .int .i64 z] _ 1 _ rfl); (exact cells_new _ [.int .i64 x, .int .i64 y, .int .i64 z] _ 2 _ rfl); rintro e w3 ⟨rfl, rfl⟩)))
  go_wp2
  go_ret
  obtain ⟨os, hos⟩ := hG.out
  refine ⟨rfl, 1, os ++ #[.cells #[.int .i64 x, .int .i64 y, .int .i64 z] 3], ?_⟩
  rw [hos, alloc_eq_grow, grow_grow]
  rfl

set_option maxRecDepth 100000 in
set_option maxHeartbeats 4000000 in
theorem closureI (a b : Slot) (W : World) : Calls Tryz.prog 64 #[encS a, encS b] W fun e w' => e = .returned (.int .i64 (cmpS a b)) ∧ ∃ q os', w' = grow (W.drewN q) os' := by
  obtain ⟨ae, ac, ai⟩ := a
  obtain ⟨be, bc, bi⟩ := b
  have C1 := Lib.hid (compare ae be)
  have C2 := Lib.hid (compare ac bc)
  have C3 := Lib.hid (compare ai bi)
  unfold encS cmpS
  simp only
  have CO : Hid (∀ (b : Nat) (w : World), w.cell? ⟨b, 0, none⟩ = some (.int .i64 (cmpI ae be)) → w.cell? ⟨b, 1, none⟩ = some (.int .i64 (cmpI ac bc)) → w.cell? ⟨b, 2, none⟩ = some (.int .i64 (cmpI ai bi)) → Calls Tryz.prog 65 #[.slice (some ⟨b, 0, none⟩) 3 3] w fun e' w' => e' = .returned (.int .i64 (orI (cmpI ae be) (orI (cmpI ac bc) (cmpI ai bi)))) ∧ w = w') :=
    fun b w h0 h1 h2 => or3 _ _ _ b w h0 h1 h2
  generalize orI (cmpI ae be) (orI (cmpI ac bc) (cmpI ai bi)) = R at *
  generalize cmpI ae be = x at *
  generalize cmpI ac bc = y at *
  generalize cmpI ai bi = z at *
  go_enter Tryz.func64, Tryz.ntmps64
  go_upto_region 1 with fail
  have b1 : ∀ j u, [Value.int .i64 ae, .int .i64 ac, .int .i64 ai][j]? = some u → ((W.alloc (.cells #[.int .i64 ae, .int .i64 ac, .int .i64 ai] 45)).alloc (.cells #[.int .i64 be, .int .i64 bc, .int .i64 bi] 45)).cell? ((⟨W.heap.size, 0, none⟩ : Addr).add j) = some u :=
    fun j u h => ((Turned.refl [] _).alloc _).cell (cells_new W _ 45 j u h) (by simp)
  have b2 : ∀ j u, [Value.int .i64 be, .int .i64 bc, .int .i64 bi][j]? = some u → ((W.alloc (.cells #[.int .i64 ae, .int .i64 ac, .int .i64 ai] 45)).alloc (.cells #[.int .i64 be, .int .i64 bc, .int .i64 bi] 45)).cell? ((⟨W.heap.size + 1, 0, none⟩ : Addr).add j) = some u := by
    intro j u h
    have := cells_new (W.alloc (.cells #[.int .i64 ae, .int .i64 ac, .int .i64 ai] 45)) [Value.int .i64 be, .int .i64 bc, .int .i64 bi] 45 j u h
    simpa using this
  have c1 : _ = some (Value.int .i64 ae) := b1 0 _ rfl
  have c2 : _ = some (Value.int .i64 ac) := b1 1 _ rfl
  have c3 : _ = some (Value.int .i64 ai) := b1 2 _ rfl
  have c4 : _ = some (Value.int .i64 be) := b2 0 _ rfl
  have c5 : _ = some (Value.int .i64 bc) := b2 1 _ rfl
  have c6 : _ = some (Value.int .i64 bi) := b2 2 _ rfl
  change World.cell? _ ⟨W.heap.size, 0, none⟩ = _ at c1
  change World.cell? _ ⟨W.heap.size, 1, none⟩ = _ at c2
  change World.cell? _ ⟨W.heap.size, 2, none⟩ = _ at c3
  change World.cell? _ ⟨W.heap.size + 1, 0, none⟩ = _ at c4
  change World.cell? _ ⟨W.heap.size + 1, 1, none⟩ = _ at c5
  change World.cell? _ ⟨W.heap.size + 1, 2, none⟩ = _ at c6
  have hG : Hid (∃ os, (W.alloc (.cells #[.int .i64 ae, .int .i64 ac, .int .i64 ai] 45)).alloc (.cells #[.int .i64 be, .int .i64 bc, .int .i64 bi] 45) = grow W os) := ⟨_, by rw [alloc_eq_grow, alloc_eq_grow, grow_grow]⟩
  clear b1 b2
  generalize (W.alloc (.cells #[.int .i64 ae, .int .i64 ac, .int .i64 ai] 45)).alloc (.cells #[.int .i64 be, .int .i64 bc, .int .i64 bi] 45) = w1 at *
  generalize W.heap.size = B at *
  go_region_held3 (fun w' => w'.cell? ⟨B, 0, none⟩ = some (.int .i64 ae) ∧ w'.cell? ⟨B, 1, none⟩ = some (.int .i64 ac) ∧ w'.cell? ⟨B, 2, none⟩ = some (.int .i64 ai) ∧ w'.cell? ⟨B + 1, 0, none⟩ = some (.int .i64 be) ∧ w'.cell? ⟨B + 1, 1, none⟩ = some (.int .i64 bc) ∧ w'.cell? ⟨B + 1, 2, none⟩ = some (.int .i64 bi)) (go_keep)
    (first
      | (go_at_call 66; ((with_reducible refine (C1.out _).mono ?_); rintro e w3 ⟨rfl, rfl⟩))
      | (go_at_call 66; ((with_reducible refine (C2.out _).mono ?_); rintro e w3 ⟨rfl, rfl⟩))
      | (go_at_call 66; ((with_reducible refine (C3.out _).mono ?_); rintro e w3 ⟨rfl, rfl⟩))
      | (go_at_call 65; ((with_reducible refine (CO.out _ _ ?_ ?_ ?_).mono ?_); (exact cells_new _ [.int .i64 x, .int .i64 y, .int .i64 z] _ 0 _ rfl); (exact cells_new _ [.int .i64 x, .int .i64 y, .int .i64 z] _ 1 _ rfl); (exact cells_new _ [.int .i64 x, .int .i64 y, .int .i64 z] _ 2 _ rfl); rintro e w3 ⟨rfl, rfl⟩)))
  go_wp2
  go_ret
  obtain ⟨os, hos⟩ := hG.out
  refine ⟨rfl, 1, os ++ #[.cells #[.int .i64 x, .int .i64 y, .int .i64 z] 3], ?_⟩
  rw [hos, alloc_eq_grow, grow_grow]
  rfl
end Go.Proofs.YtmpbhoijkcanmaaGreat.R

/- Radix: slices.SortFunc over slots: rows of slots, sorted. -/
namespace Go.Proofs.YtmpbhoijkcanmaaGreat.R
open Go.ChangeShapes Go.WideShapes Go.ChangeAt Go.RowKit Go.Maps Go.Proofs.YtmpbhoijkcanmaaGreat.G Go.Sort Go.Shelf Go.Lib
set_option linter.unusedVariables false
set_option linter.unusedSimpArgs false
set_option linter.unnecessarySimpa false

def encL (x : Slot) : List Value := [.int .i64 x.e, .int .i64 x.c, .int .i64 x.i]
/-- in the order of extents, classes, indices -/
def ltB (a b : Slot) : Bool := decide (a.e < b.e ∨ (a.e = b.e ∧ (a.c < b.c ∨ (a.c = b.c ∧ a.i < b.i))))
theorem ltS (a b : Slot) : ltOf cmpS a b = ltB a b := by
  unfold ltOf cmpS orI cmpI ltB
  rw [Bool.eq_iff_iff]
  simp only [decide_eq_true_eq]
  repeat' split
  all_goals omega
theorem swoS : SWO (ltOf cmpS) where
  irrefl x := by rw [ltS]; simp [ltB]
  trans x y z h1 h2 := by rw [ltS] at *; unfold ltB at *; simp only [decide_eq_true_eq] at *; omega
  ntrans x y z h1 h2 := by rw [ltS] at *; unfold ltB at *; simp only [decide_eq_false_iff_not] at *; omega
def leS (x y : Slot) : Prop := ltB y x = false

theorem cmpLaysB (blk off size : Nat) (w : World) : CmpLays Tryz.prog 71 #[] encL 3 cmpS blk off size w :=
  fun _ _ _ _ x y => closureB x y _
theorem sortFB (blk off cap : Nat) (d : Array Slot) (w : World) (hH : HoldsK encL 3 w blk off d) (hblk : blk < w.heap.size) (hsz : d.size < 4611686018427387904) :
    Calls Tryz.prog 84 #[.slice (some ⟨blk, off, none⟩) d.size cap, .func (.func 71) #[] #[]] w fun e w' =>
      e = .returned (.tuple #[]) ∧ ∃ d' n os, PermIn 0 d.size d d' ∧ SortedIn (ltOf cmpS) 0 d.size d' ∧ w' = sortWorldK encL 3 w blk off n d' os := by
  have eg : ∀ args w, (callFunc 71 args).run Tryz.prog w = .ok (.enter 71 args) w := enters_of Tryz.func71 (by kernel_rfl) rfl
  have hcon := AnyQ.slices_SortFunc Tryz.sortSl 3 Tryz.isAgg45 Tryz.sizeOf45 encL (fun _ => rfl) (fun x v hv => by simp [encL] at hv; rcases hv with rfl | rfl | rfl <;> rfl) cmpS swoS 71 #[] blk off cap d w eg (cmpLaysB blk off d.size w) hH hblk hsz
  exact hcon
theorem sort_nilB (a : Option Addr) (cap : Nat) (w : World) : Calls Tryz.prog 84 #[.slice a 0 cap, .func (.func 71) #[] #[]] w fun e w' => e = .returned (.tuple #[]) ∧ w' = w :=
  AnyF.slices_SortFunc_none Tryz.sortSl a cap _ w

theorem cmpLaysI (blk off size : Nat) (w : World) : CmpLays Tryz.prog 64 #[] encL 3 cmpS blk off size w :=
  fun _ _ _ _ x y => closureI x y _
theorem sortFI (blk off cap : Nat) (d : Array Slot) (w : World) (hH : HoldsK encL 3 w blk off d) (hblk : blk < w.heap.size) (hsz : d.size < 4611686018427387904) :
    Calls Tryz.prog 84 #[.slice (some ⟨blk, off, none⟩) d.size cap, .func (.func 64) #[] #[]] w fun e w' =>
      e = .returned (.tuple #[]) ∧ ∃ d' n os, PermIn 0 d.size d d' ∧ SortedIn (ltOf cmpS) 0 d.size d' ∧ w' = sortWorldK encL 3 w blk off n d' os := by
  have eg : ∀ args w, (callFunc 64 args).run Tryz.prog w = .ok (.enter 64 args) w := enters_of Tryz.func64 (by kernel_rfl) rfl
  have hcon := AnyQ.slices_SortFunc Tryz.sortSl 3 Tryz.isAgg45 Tryz.sizeOf45 encL (fun _ => rfl) (fun x v hv => by simp [encL] at hv; rcases hv with rfl | rfl | rfl <;> rfl) cmpS swoS 64 #[] blk off cap d w eg (cmpLaysI blk off d.size w) hH hblk hsz
  exact hcon
theorem sort_nilI (a : Option Addr) (cap : Nat) (w : World) : Calls Tryz.prog 84 #[.slice a 0 cap, .func (.func 64) #[] #[]] w fun e w' => e = .returned (.tuple #[]) ∧ w' = w :=
  AnyF.slices_SortFunc_none Tryz.sortSl a cap _ w

/-- a slice of slots -/
def Sl3 (w : World) (a : Option Addr) (len : Nat) (xs : List Slot) : Prop :=
  xs.length = len ∧ (len = 0 ∨ ∃ b off, a = some ⟨b, off, none⟩ ∧ ∀ i (h : i < xs.length), w.cell? ⟨b, off + i * 3, none⟩ = some (.int .i64 xs[i].e) ∧ w.cell? ⟨b, off + i * 3 + 1, none⟩ = some (.int .i64 xs[i].c) ∧ w.cell? ⟨b, off + i * 3 + 2, none⟩ = some (.int .i64 xs[i].i))
theorem Sl3.turned {w w' : World} {a : Option Addr} {len : Nat} {xs : List Slot} (h : Sl3 w a len xs) {S : List Nat} (t : Turned S w w') (hn : ∀ x, a = some x → x.block ∉ S) : Sl3 w' a len xs := by
  refine ⟨h.1, ?_⟩
  rcases h.2 with h0 | ⟨b, off, e, hc⟩
  · exact .inl h0
  · refine .inr ⟨b, off, e, fun i hi => ?_⟩
    obtain ⟨c0, c1, c2⟩ := hc i hi
    have hb : b ∉ S := hn ⟨b, off, none⟩ e
    exact ⟨t.cell c0 hb, t.cell c1 hb, t.cell c2 hb⟩
theorem sl3_of_holds {w : World} {b off : Nat} {d : Array Slot} (h : HoldsK encL 3 w b off d) : Sl3 w (some ⟨b, off, none⟩) d.size d.toList := by
  refine ⟨by simp, .inr ⟨b, off, rfl, fun i hi => ?_⟩⟩
  have hi' : i < d.size := by simpa using hi
  have hd : d[i]! = d.toList[i] := by rw [getElem!_pos _ i hi']; simp
  have key : ∀ r, r < 3 → w.cell? ⟨b, off + (i * 3 + r), none⟩ = some ((encL d[i]!)[r]!) := by
    intro r hr
    have := (h (i * 3 + r) (by rw [size_flatK]; omega)).1
    rw [get_flatK _ _ _ _ (by omega), show (i * 3 + r) / 3 = i by omega, show (i * 3 + r) % 3 = r by omega] at this
    exact this
  rw [hd] at key
  exact ⟨key 0 (by omega), by rw [Nat.add_assoc]; exact key 1 (by omega), by rw [Nat.add_assoc]; exact key 2 (by omega)⟩
theorem sorted_list {d d' : Array Slot} (hP : PermIn 0 d.size d d') (hS : SortedIn (ltOf cmpS) 0 d.size d') : d'.size = d.size ∧ d'.toList.Perm d.toList ∧ d'.toList.Pairwise leS := by
  obtain ⟨hsz, _, hperm⟩ := hP
  have e1 : d'.extract 0 d.size = d' := by rw [← hsz]; exact Array.extract_size
  rw [e1, Array.extract_size] at hperm
  refine ⟨hsz, hperm, ?_⟩
  rw [List.pairwise_iff_getElem]
  intro i j hi hj hij
  have hi' : i < d'.size := by simpa using hi
  have hj' : j < d'.size := by simpa using hj
  have := hS i j (Nat.zero_le _) hij (by omega)
  rw [getElem!_pos d' j hj', getElem!_pos d' i hi', ltS] at this
  have hij1 : d'.toList[i] = d'[i] := by simp
  have hij2 : d'.toList[j] = d'[j] := by simp
  rw [hij1, hij2]
  unfold leS
  simpa using this
def flat (xs : List Slot) : List Value := xs.flatMap encL
theorem flat_len (xs : List Slot) : (flat xs).length = xs.length * 3 := by
  induction xs with
  | nil => rfl
  | cons x xs ih => unfold flat at *; simp [encL] at *; omega
theorem flat_get (xs : List Slot) (i r : Nat) (hi : i < xs.length) (hr : r < 3) : (flat xs)[i * 3 + r]? = (encL xs[i])[r]? := by
  induction xs generalizing i with
  | nil => simp at hi
  | cons x xs ih =>
    have e : flat (x :: xs) = encL x ++ flat xs := by unfold flat; simp
    rw [e]
    cases i with
    | zero =>
      rw [List.getElem?_append_left (by simp [encL]; omega)]
      simp
    | succ i =>
      rw [List.getElem?_append_right (by simp [encL]; omega)]
      have : (i + 1) * 3 + r - (encL x).length = i * 3 + r := by simp [encL]; omega
      rw [this, ih i (by simpa using hi)]
      simp
theorem turned_sort {w : World} {g off n : Nat} {d : Array Slot} {os : Array Obj} : Turned [g] w (sortWorldK encL 3 w g off n d os) := by
  refine ⟨rfl, rfl, rfl, ?_, fun k hk hn => ?_⟩
  · simp [sortWorldK, putRowK, grow, putRow, mapBlock, Sort.ahead]
  · have hkg : k ≠ g := by simpa using hn
    simp only [sortWorldK, putRowK, grow, putRow, mapBlock, Sort.ahead]
    rw [Array.getElem?_append_left (by simpa using hk), Array.getElem?_modify, if_neg hkg.symm]
theorem holds_of_owns {w : World} {g cap n : Nat} {cur : Array Value} {xs : List Slot} (hh : w.heap[g]? = some (.cells cur 45 (0, 0))) (ht : cur.toList.take (n * 3) = flat xs) (hn : xs.length = n) : HoldsK encL 3 w g 0 xs.toArray := by
  intro j hj
  rw [size_flatK] at hj
  have hj' : j < xs.length * 3 := by simpa using hj
  refine ⟨?_, ?_⟩
  · have hg := flat_get xs (j / 3) (j % 3) (by omega) (by omega)
    rw [show j / 3 * 3 + j % 3 = j by omega] at hg
    rw [get_flatK _ _ _ _ hj]
    have h1 : (cur.toList.take (n * 3))[j]? = cur.toList[j]? := by rw [List.getElem?_take, if_pos (by omega)]
    rw [ht] at h1
    have h2 : w.cell? ⟨g, 0 + j, none⟩ = cur[j]? := by simp [World.cell?, hh]
    rw [h2, ← Array.getElem?_toList, ← h1, hg]
    have h3 : xs.toArray[j / 3]! = xs[j / 3]'(by omega) := by rw [getElem!_pos _ _ (by simp; omega)]; simp
    rw [h3]
    have h4 : j % 3 = 0 ∨ j % 3 = 1 ∨ j % 3 = 2 := by omega
    rcases h4 with h | h | h <;> rw [h] <;> rfl
  · simp [World.frozen?, hh]

theorem sl3_of_owns {w : World} {base : Nat} {v : Value} {n : Nat} {xs : List Slot} (h : w.ownsRow base 45 3 v n (flat xs)) : ∃ a cap, v = .slice a n cap ∧ Sl3 w a n xs ∧ (∀ x, a = some x → base ≤ x.block ∧ x.block < w.heap.size) := by
  obtain ⟨h1, h2⟩ := h
  have hl : xs.length = n := by have := flat_len xs; omega
  rcases h2 with ⟨rfl, rfl⟩ | ⟨g, cap, cur, rfl, hg, hh, hn, hc, hs, ht⟩
  · exact ⟨none, 0, rfl, ⟨hl, .inl rfl⟩, fun x hx => by cases hx⟩
  · have hH := sl3_of_holds (holds_of_owns (cap := cap) hh ht hl)
    simp only [List.size_toArray, hl] at hH
    exact ⟨_, cap, rfl, hH, fun x hx => by simp only [Option.some.injEq] at hx; subst hx; exact ⟨hg, lt_of_at hh⟩⟩

theorem owns_sorted {w : World} {base g cap m : Nat} {cur : Array Value} {os : Array Obj} {d : Array Slot} (hg : base ≤ g) (hh : w.heap[g]? = some (.cells cur 45 (0, 0))) (hn : d.size ≤ cap) (hc : cap ≤ maxLen) (hs : cur.size = cap * 3) :
    (sortWorldK encL 3 w g 0 m d os).ownsRow base 45 3 (.slice (some ⟨g, 0, none⟩) d.size cap) d.size (flat d.toList) := by
  have hgl := lt_of_at hh
  refine ⟨by rw [flat_len]; simp, .inr ⟨g, cap, putCells id 0 (flatK encL 3 d) cur, rfl, hg, ?_, hn, hc, by simpa [putCells] using hs, ?_⟩⟩
  · simp only [sortWorldK, putRowK, grow, putRow, mapBlock, Sort.ahead]
    rw [Array.getElem?_append_left (by simpa using hgl), Array.getElem?_modify, if_pos rfl, hh]
    rfl
  · apply List.ext_getElem?
    intro j
    rw [List.getElem?_take]
    by_cases hj : j < d.size * 3
    · rw [if_pos hj, Array.getElem?_toList]
      have hjc : j < cur.size := by omega
      have hg2 := flat_get d.toList (j / 3) (j % 3) (by simp; omega) (by omega)
      rw [show j / 3 * 3 + j % 3 = j by omega] at hg2
      rw [hg2]
      simp only [putCells, Array.getElem?_mapIdx, Array.getElem?_eq_getElem hjc, Option.map_some]
      rw [if_pos ⟨Nat.zero_le _, by rw [size_flatK]; omega⟩]
      simp only [Nat.sub_zero, id]
      rw [get_flatK _ _ _ _ hj]
      have h3 : d[j / 3]! = d.toList[j / 3]'(by simp; omega) := by rw [getElem!_pos _ _ (by omega)]; simp
      rw [h3]
      have h4 : j % 3 = 0 ∨ j % 3 = 1 ∨ j % 3 = 2 := by omega
      rcases h4 with h | h | h <;> rw [h] <;> rfl
    · rw [if_neg hj, List.getElem?_eq_none (by rw [flat_len]; simp; omega)]

/-- the row of those is sorted -/
theorem sort_ownsB {w : World} {base : Nat} {v : Value} {xs : List Slot} (hown : w.ownsRow base 45 3 v xs.length (flat xs)) (hxl : xs.length < 4611686018427387904) :
    Calls Tryz.prog 84 #[v, .func (.func 71) #[] #[]] w fun e w' => e = .returned (.tuple #[]) ∧ ∃ ys, ys.Perm xs ∧ ys.Pairwise leS ∧ w'.ownsRow base 45 3 v xs.length (flat ys) ∧ Turned v.ownBlock.toList w w' ∧ (∀ k ∈ v.ownBlock.toList, base ≤ k) := by
  obtain ⟨h1, h2⟩ := hown
  rcases h2 with ⟨rfl, h0⟩ | ⟨g, cap, cur, rfl, hg, hh, hn, hc, hs, ht⟩
  · have hx : xs = [] := List.length_eq_zero_iff.1 h0
    subst hx
    exact (sort_nilB none 0 w).mono fun e w' ⟨e1, e2⟩ => ⟨e1, [], List.Perm.refl _, List.Pairwise.nil, ⟨rfl, .inl ⟨rfl, rfl⟩⟩, by rw [e2]; exact Turned.refl _ _, by intro k hk; cases hk⟩
  · have hH : HoldsK encL 3 w g 0 xs.toArray := holds_of_owns (cap := cap) hh ht rfl
    have := sortFB g 0 cap xs.toArray w hH (lt_of_at hh) (by simpa using hxl)
    simp only [List.size_toArray] at this
    refine this.mono fun e w' ⟨e1, d', n, os, hp, hso, hw⟩ => ?_
    obtain ⟨z1, z2, z3⟩ := sorted_list (d := xs.toArray) (by simpa using hp) (by simpa using hso)
    have hT : Turned [g] w w' := by rw [hw]; exact turned_sort
    have z1' : d'.size = xs.length := by simpa using z1
    have ho := owns_sorted (m := n) (os := os) (d := d') hg hh (by omega) hc hs
    rw [← hw, z1'] at ho
    exact ⟨e1, d'.toList, by simpa using z2, z3, ho, by simpa [Value.ownBlock] using hT, by intro k hk; simp [Value.ownBlock] at hk; omega⟩
/-- the row of those is sorted -/
theorem sort_ownsI {w : World} {base : Nat} {v : Value} {xs : List Slot} (hown : w.ownsRow base 45 3 v xs.length (flat xs)) (hxl : xs.length < 4611686018427387904) :
    Calls Tryz.prog 84 #[v, .func (.func 64) #[] #[]] w fun e w' => e = .returned (.tuple #[]) ∧ ∃ ys, ys.Perm xs ∧ ys.Pairwise leS ∧ w'.ownsRow base 45 3 v xs.length (flat ys) ∧ Turned v.ownBlock.toList w w' ∧ (∀ k ∈ v.ownBlock.toList, base ≤ k) := by
  obtain ⟨h1, h2⟩ := hown
  rcases h2 with ⟨rfl, h0⟩ | ⟨g, cap, cur, rfl, hg, hh, hn, hc, hs, ht⟩
  · have hx : xs = [] := List.length_eq_zero_iff.1 h0
    subst hx
    exact (sort_nilI none 0 w).mono fun e w' ⟨e1, e2⟩ => ⟨e1, [], List.Perm.refl _, List.Pairwise.nil, ⟨rfl, .inl ⟨rfl, rfl⟩⟩, by rw [e2]; exact Turned.refl _ _, by intro k hk; cases hk⟩
  · have hH : HoldsK encL 3 w g 0 xs.toArray := holds_of_owns (cap := cap) hh ht rfl
    have := sortFI g 0 cap xs.toArray w hH (lt_of_at hh) (by simpa using hxl)
    simp only [List.size_toArray] at this
    refine this.mono fun e w' ⟨e1, d', n, os, hp, hso, hw⟩ => ?_
    obtain ⟨z1, z2, z3⟩ := sorted_list (d := xs.toArray) (by simpa using hp) (by simpa using hso)
    have hT : Turned [g] w w' := by rw [hw]; exact turned_sort
    have z1' : d'.size = xs.length := by simpa using z1
    have ho := owns_sorted (m := n) (os := os) (d := d') hg hh (by omega) hc hs
    rw [← hw, z1'] at ho
    exact ⟨e1, d'.toList, by simpa using z2, z3, ho, by simpa [Value.ownBlock] using hT, by intro k hk; simp [Value.ownBlock] at hk; omega⟩
end Go.Proofs.YtmpbhoijkcanmaaGreat.R
