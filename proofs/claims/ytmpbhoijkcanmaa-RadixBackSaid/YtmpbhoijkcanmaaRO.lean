/- Radix: a way to a node is taken away: what goes of a slot. -/
import Derived.Test.YtmpbhoijkcanmaaRN
namespace Go.Proofs.Ytmpbhoijkcanmaa.R
open Go.ChangeShapes Go.WideShapes Go.ChangeAt Go.RowKit Go.Maps Go.Proofs.Ytmpbhoijkcanmaa.G
set_option linter.unusedVariables false
set_option linter.unusedSimpArgs false
set_option linter.unnecessarySimpa false

variable {w w' : World} {p : Pf} {F F2 G : Fo} {pd : Nat → Nat} {ps : Slot → Nat}
theorem FoAt.withSl {wq : World} {l : List (Slot × Value)} (h : FoAt w p G) (hm : MapIs Try.prog 31 encS wq p.s l) (hn : NumL l) (t : Turned [p.s] w wq) : FoAt wq p (R.withSl G l) := h.setSl hm hn t
theorem withSl_sub {l : List (Slot × Value)} (hl : ∀ s, cnt l s ≤ cnt G.sl s) : Sub G (R.withSl G l) :=
  ⟨⟨fun _ h => h, fun _ _ => rfl, fun _ _ => rfl, fun _ _ => rfl, fun _ _ => rfl⟩, fun _ _ => Nat.le_refl _, rfl, rfl, hl⟩
/-- the cells that an entry's variable has, and the forest's map of slots -/
def VarAt (w : World) (p : Pf) (eb : Nat) (s : Slot) : Prop := w.cell? ⟨p.f, 2, none⟩ = some (.map (some p.s)) ∧ w.cell? ⟨eb, 0, none⟩ = some (.int .i64 s.e) ∧ w.cell? ⟨eb, 1, none⟩ = some (.int .i64 s.c) ∧ w.cell? ⟨eb, 2, none⟩ = some (.int .i64 s.i)
theorem VarAt.turned {eb : Nat} {s : Slot} (h : VarAt w p eb s) {S : List Nat} (t : Turned S w w') (h1 : p.f ∉ S) (h2 : eb ∉ S) : VarAt w' p eb s := ⟨t.cell h.1 h1, t.cell h.2.1 h2, t.cell h.2.2.1 h2, t.cell h.2.2.2 h2⟩
/-- what the maps do at an entry -/
def LesStep (w w6 : World) (p : Pf) (gb B eb : Nat) (F F2 : Fo) (x : Node) (g : List (Slot × Value)) (pd : Nat → Nat) (ps : Slot → Nat) (s : Slot) : Prop :=
  ∃ (c : Nat) (w7 : World) (n7 : Int) (w8 : World) (l8 g' : List (Slot × Value)), (Instr.lookup 88 (.map (some p.s)) (.agg #[.int .i64 s.e, .int .i64 s.c, .int .i64 s.i]) false).run Try.prog w6.drew = .ok (.int .i64 c) w6.drew ∧
    (Instr.lookup 88 (.map (some p.s)) (.agg #[.int .i64 s.e, .int .i64 s.c, .int .i64 s.i]) false).run Try.prog w7 = .ok (.int .i64 c) w7 ∧
    (Instr.mapEntry 88 (.map (some p.s)) (.agg #[.int .i64 s.e, .int .i64 s.c, .int .i64 s.i])).run Try.prog w6.drew = .ok (.tuple #[.int .i64 c, .int .i64 n7]) w7 ∧
    (Instr.entryStore 88 (.map (some p.s)) (.int .i64 n7) (.int .i64 ((c : Int) - 1))).run Try.prog w7 = .ok () w8 ∧
    (1 ≤ c ∧ c ≤ 2 ^ 50) ∧ VarAt w8 p eb s ∧ VarAt w7 p eb s ∧ VarAt w6.drew p eb s ∧
    (∀ N, (Instr.lookup 88 (.map (some p.s)) (.agg #[.int .i64 s.e, .int .i64 s.c, .int .i64 s.i]) false).run Try.prog (w8.drewN N) = .ok (.int .i64 ((c : Int) - 1)) (w8.drewN N)) ∧
    (c ≠ 1 → ∀ N, LesAt w (w8.drewN N) p gb B F F2 x g pd ps) ∧
    (c = 1 → ∀ wq, Turned [] w8 wq → MapIs Try.prog 31 encS wq p.s l8 ∧ ∀ w9, MapIs Try.prog 31 encS w9 p.s (mdel l8 s) → Turned [p.s] wq w9 → VarAt w9 p eb s ∧ MapIs Try.prog 31 encS w9 gb g' ∧
      ∀ wa, MapIs Try.prog 31 encS wa gb (mput g' s (.bool true)) → Turned [gb] w9 wa → LesAt w wa p gb B F F2 x g pd ps)
theorem les_step {wr : World} {gb B lev : Nat} {x : Node} {g g1 : List (Slot × Value)} {j : Nat} (hc : LesC p gb B lev F F2 x) (hB : B < w.heap.size) (hgl : gb < w.heap.size) (h : LesIs w wr p gb B F F2 x g pd (remS x ps j) G g1) (hj : j < 16) (hb : x.bits.testBit j = true) :
    LesStep w (wr.alloc (.cells #[.int .i64 (x.ents j).s.e, .int .i64 (x.ents j).s.c, .int .i64 (x.ents j).s.i, .int .i64 (x.ents j).g] 33)) p gb B wr.heap.size F F2 x g pd (remS x ps (j + 1)) (x.ents j).s := by
  have hso := hc.ents j hj hb
  obtain ⟨k, hk⟩ := keyS _ hso
  have t1 := (Turned.refl [] wr).alloc (.cells #[.int .i64 (x.ents j).s.e, .int .i64 (x.ents j).s.c, .int .i64 (x.ents j).s.i, .int .i64 (x.ents j).g] 33)
  have hnew := fun q u hq => cells_new wr [.int .i64 (x.ents j).s.e, .int .i64 (x.ents j).s.c, .int .i64 (x.ents j).s.i, .int .i64 (x.ents j).g] 33 q u hq
  have n0 := hnew 0 _ rfl
  have n1 := hnew 1 _ rfl
  have n2 := hnew 2 _ rfl
  rw [Addr.add_mid, Nat.zero_add] at n0 n1 n2
  have t2 := t1.drew
  generalize wr.alloc (.cells #[.int .i64 (x.ents j).s.e, .int .i64 (x.ents j).s.c, .int .i64 (x.ents j).s.i, .int .i64 (x.ents j).g] 33) = w6 at *
  have h6 := h.calm t2
  have hF := h6.fo
  obtain ⟨s, hs⟩ : ∃ s, (x.ents j).s = s := ⟨_, rfl⟩
  rw [hs] at hso hk n0 n1 n2 ⊢
  have hz := zeroI
  -- how many there are
  have hm16 : slHits x (j + 1) s ≤ slHits x 16 s := slHits_mono _ _ (by omega)
  have hsucc : slHits x (j + 1) s = slHits x j s + 1 := by rw [slHits_succ x j, if_pos ⟨hb, hs⟩]
  have hcnt := h6.inv.sls s
  have hc1 : 1 ≤ cnt G.sl s := by
    rw [hcnt]; unfold remS; omega
  have hc50 : cnt G.sl s ≤ 2 ^ 50 := hF.ns.le s
  have hrem : ∀ t, remS x ps (j + 1) t = if t = s then remS x ps j t - 1 else remS x ps j t := fun t => by
    unfold remS
    by_cases e : t = s
    · subst e; rw [if_pos rfl]; omega
    · rw [if_neg e, slHits_succ x j, if_neg (fun h => e (h.2.symm.trans hs)), Nat.add_zero]
  have hrs : 1 ≤ remS x ps j s := by unfold remS; omega
  obtain ⟨w7, n7, e1, e2, e3, e4⟩ := hF.sl.run_entry keyedS encS_inj Try.underlying88 hz s hk
  obtain ⟨c, hcc⟩ : ∃ c, cnt G.sl s = c := ⟨_, rfl⟩
  obtain ⟨w8, g1', g2, g3⟩ := e4 (.int .i64 ((c : Int) - 1))
  rw [hF.ns.get] at e1
  have hl7 := e2.run_look keyedS encS_inj Try.underlying88 (hz w7) s hk false
  rw [look_touch, hF.ns.get] at hl7
  have hS7 : p.f ≠ p.s := hF.dis.1.2.2
  have hsz : w.heap.size ≤ wr.heap.size := h.own.size
  have hpf : p.f < wr.heap.size := h.fo.lt (.inl rfl)
  have hps : p.s < wr.heap.size := h.fo.lt (.inr (.inr (.inr (.inl rfl))))
  have hgs : gb ≠ p.s := fun e => hc.gb (.inr (.inr (.inr (.inl e))))
  have hgf : gb ≠ p.f := fun e => hc.gb (.inl e)
  have e33 := e3.trans g3
  have V6 : VarAt w6.drew p wr.heap.size s := ⟨hF.c2, n0, n1, n2⟩
  have hfs : p.f ∉ [p.s] := by simpa using hS7
  have hes : wr.heap.size ∉ [p.s] := by simp; omega
  have hp3 : p.own F p.s := .inr (.inr (.inr (.inl rfl)))
  rw [hcc] at e1 hl7 hc1 hc50
  have O8 : OwnP (fun b => p.own F b ∨ b = gb) w w8 := h6.own.step e33 (fun b hb => by simp at hb; subst hb; exact .inr (.inl hp3))
  have N8 : NodeAt w8 B x := h6.nd.turned e33 (by
    have : B ≠ p.s := fun e => hc.nB (e ▸ .inr (.inr (.inr (.inl rfl))))
    simpa using this)
  have hlook : ∀ N, (Instr.lookup 88 (.map (some p.s)) (encS s) false).run Try.prog (w8.drewN N) = .ok (.int .i64 ((c : Int) - 1)) (w8.drewN N) := fun N => by
    have := (g2.turned ((Turned.refl [] w8).drewN N) (by simp)).run_look keyedS encS_inj Try.underlying88 (hz _) s hk false
    rw [look_put, if_pos rfl] at this
    exact this
  refine ⟨c, w7, n7, w8, mput G.sl s (.int .i64 ((c : Int) - 1)), g1, by have := hF.look_sl _ hso; rw [hcc] at this; exact this, hl7, e1, g1', ⟨hc1, hc50⟩, V6.turned e33 hfs hes, V6.turned e3 hfs hes, V6, hlook, fun hne N => ?_, fun h1 wq tq => ?_⟩
  · have hcast : ((c : Int) - 1) = ((c - 1 : Nat) : Int) := by omega
    rw [hcast] at g2
    have hcp : ∀ t, cnt (mput G.sl s (.int .i64 ((c - 1 : Nat) : Int))) t = if t = s then c - 1 else cnt G.sl t := cnt_put _ _ _
    have hle : ∀ t, cnt (mput G.sl s (.int .i64 ((c - 1 : Nat) : Int))) t ≤ cnt G.sl t := fun t => by
      rw [hcp]
      by_cases e : t = s
      · subst e; rw [if_pos rfl]; omega
      · rw [if_neg e]; exact Nat.le_refl _
    have hsub := withSl_sub hle
    refine ⟨R.withSl G (mput G.sl s (.int .i64 ((c - 1 : Nat) : Int))), g1, LesIs.calm (wr := w8) ?_ ((Turned.refl [] w8).drewN N)⟩
    exact ⟨h6.sub.trans hsub, h6.inv.withSl (fun t => by
        rw [hcp, hrem]
        have := h6.inv.sls t
        by_cases e : t = s
        · subst e; rw [if_pos rfl, if_pos rfl]; omega
        · rw [if_neg e, if_neg e]; exact this), h6.keep, fun t => by
        have a := h6.gone t
        rw [a]
        show _ ↔ _ ∨ (_ ∧ cnt (mput G.sl s (.int .i64 ((c - 1 : Nat) : Int))) t = 0)
        rw [hcp]
        by_cases e : t = s
        · subst e
          rw [if_pos rfl]
          exact or_congr Iff.rfl ⟨fun h => absurd h.2 (by omega), fun h => absurd h.2 (by omega)⟩
        · rw [if_neg e], hF.withSl g2 (hF.ns.put _ _ (by omega) (by omega)) e33, h6.map.turned e33 (by simpa using hgs), O8, N8⟩
  · have V8 : VarAt wq p wr.heap.size s := (V6.turned e33 hfs hes).turned tq (by simp) (by simp)
    refine ⟨g2.turned tq (by simp), fun w9 m9 t9 => ?_⟩
    have e39 : Turned [p.s] w6.drew w9 := (e33.trans (tq.nil_mono)).trans t9
    have M9 := h6.map.turned e39 (by simpa using hgs)
    refine ⟨V8.turned t9 hfs hes, M9, fun wa ma ta => ?_⟩
    have hcp : ∀ t, cnt (mdel (mput G.sl s (.int .i64 ((c : Int) - 1))) s) t = if t = s then 0 else cnt G.sl t := fun t => by
      rw [cnt_del]
      by_cases e : t = s
      · rw [if_pos e, if_pos e]
      · rw [if_neg e, if_neg e]
        unfold cnt
        rw [look_put, if_neg e]
    have hle : ∀ t, cnt (mdel (mput G.sl s (.int .i64 ((c : Int) - 1))) s) t ≤ cnt G.sl t := fun t => by
      rw [hcp]; split <;> omega
    have hsub := withSl_sub hle
    have ho : ∀ {b}, p.own G b → b ∉ [gb] := fun {b} hb hm => by
      simp at hm; subst hm
      exact hc.gb (hc.sub.own (h.sub.own hb))
    refine ⟨R.withSl G (mdel (mput G.sl s (.int .i64 ((c : Int) - 1))) s), _, h6.sub.trans hsub, h6.inv.withSl (fun t => ?_), h6.keep, fun t => ?_, (hF.withSl m9 (hF.ns.put0 _ _) e39).turned ta (fun b hb => ho hb), ma, ((((h6.own.step e33 (fun b hb => by simp at hb; subst hb; exact .inr (.inl hp3))).step tq (by simp)).step t9 (fun b hb => by simp at hb; subst hb; exact .inr (.inl hp3))).step ta (fun b hb => by simp at hb; subst hb; exact .inr (.inr rfl))), ((N8.turned tq (by simp)).turned t9 (by
      have : B ≠ p.s := fun e => hc.nB (e ▸ .inr (.inr (.inr (.inl rfl))))
      simpa using this)).turned ta (by
      have : B ≠ gb := fun e => hc.gb (e ▸ hc.oB)
      simpa using this)⟩
    · rw [hcp, hrem]
      have := h6.inv.sls t
      by_cases e : t = s
      · subst e; rw [if_pos rfl, if_pos rfl]; omega
      · rw [if_neg e, if_neg e]; exact this
    · have a := h6.gone t
      rw [look_put]
      show _ ↔ _ ∨ (_ ∧ cnt (mdel (mput G.sl s (.int .i64 ((c : Int) - 1))) s) t = 0)
      rw [hcp]
      by_cases e : t = s
      · rw [if_pos e, if_pos e]
        have := h6.sub.sl t
        subst e
        have : 0 < cnt F2.sl t := by omega
        simp [this]
      · rw [if_neg e, if_neg e]; exact a
end Go.Proofs.Ytmpbhoijkcanmaa.R
