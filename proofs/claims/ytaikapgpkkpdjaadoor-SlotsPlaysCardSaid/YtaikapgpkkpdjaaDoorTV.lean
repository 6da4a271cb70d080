/- Slots: a call of both. -/
import Derived.Test.YtaikapgpkkpdjaaDoorTU
namespace Go.Proofs.YtaikapgpkkpdjaaDoor.L
open Go.ChangeShapes Go.WideShapes Go.ChangeAt Go.RowKit Go.Maps Go.Proofs.YtaikapgpkkpdjaaDoor.G Go.Sort Go.Shelf Go.Lib Go.Deep
set_option linter.unusedVariables false
set_option linter.unusedSimpArgs false

variable {w ww w3 : World} {p : Pl} {r : Rl} {ex ex2 : Exts} {l l2 : States} {rx rx2 : Nat → RX}
def Both (w ww : World) (p : Pl) (r : Rl) : Prop := ∃ ex l rx, Duo w ww p r ex l rx ∧ Rel r.n ex l rx
def doesPost (w : World) (p : Pl) (r : Rl) (e : Ending) (w' : World) : Prop := e = .returned (.bool true) ∧ Both w w' p r
def CutQ (w : World) (p : Pl) (r : Rl) (ex : Exts) (l : States) (rx : Nat → RX) (B : Nat) (c : CallD) (x : Slot) (v : Value) (wc : World) : Prop := ∃ b, v = .pointer (some ⟨b, 0, none⟩) ∧ Rq w wc p r ex l rx B c [(b, x)]
set_option maxRecDepth 100000 in
set_option maxHeartbeats 8000000 in
theorem rdoes (hD : Duo w ww p r ex l rx) (hR : Rel r.n ex l rx) (c : CallD) (hok : c.ok) :
    Calls Tryd.prog 12 #[.pointer (some ⟨p.s, 0, none⟩), .pointer (some ⟨r.br, 0, none⟩), encC c] ww (doesPost w p r) := by
  have hdoo := hok.1
  have HOk := Lib.hid hok
  have HEp := Lib.hid hok.2.2.2.2
  have HRd := Lib.hid (hD.rq c)
  have HI := Lib.hid hD.a.inv
  have HRel := Lib.hid hR
  have HB : Hid (∀ b, r.blk rx b → b < ww.heap.size) := fun b hb => hD.b.lt hb
  have HN := Lib.hid (show r.n ≤ 16384 by have := hD.few; omega)
  have HD : Hid (Duo w ww p r ex l rx) := hD
  unfold encC
  obtain ⟨d, cls, wh, od, ⟨xe, xc, xi⟩, ep⟩ := c
  have k0 := HRd.out.cc.c0
  have k1 := HRd.out.cc.c1
  simp only [Nat.zero_add] at k0 k1 hdoo HRd
  simp only
  clear hok hR hD
  rcases mod7 d hdoo with hr | hr | hr | hr | hr | hr | hr
  case inl | inr.inl | inr.inr.inl | inr.inr.inr.inl =>
    obtain ⟨R, hR⟩ : ∃ R, takeR r.n ex l cls = R := ⟨_, rfl⟩
    obtain ⟨⟨re, rc, ri⟩, er, rex, rl⟩ := R
    have HR := Lib.hid hR
    clear hR
    go_enter Tryd.func12, Tryd.ntmps12
    go_wp2_with (first
      | (go_at_call 22; ((with_reducible refine (HRd.out.takeA cls _ HR.out).mono ?_); rintro e w9 ⟨rfl, hs⟩; have S9 := Lib.hid (hs.var ⟨re, rc, ri⟩); have m1 := S9.out.cc.c1; simp only [Nat.zero_add] at m1; clear hs HRd k0 k1))
      | (go_at_call 29; ((with_reducible refine (S9.out.takeB HB.out HI.out HRel.out cls _ HR.out).mono ?_); rintro e wA ⟨rfl, rx', hs0, hrel⟩; have hs := hs0.var ⟨re, rc, ri⟩; have v1 := (hs.vars (w9.heap.size, ⟨re, rc, ri⟩) (by simp)).1; have n0 := v1.c0; have n1 := v1.c1; have n2 := v1.c2; simp only at n0 n1 n2; have SA := Lib.hid (And.intro hs.duo hrel); clear hs hs0 v1 m1 S9 hrel)))
    go_ret
    exact ⟨rfl, _, _, _, SA.out⟩
  case inr.inr.inr.inr.inr.inr =>
    obtain ⟨ys, hy⟩ : ∃ ys, canon (dueV ep) r.n ex l = ys := ⟨_, rfl⟩
    have HY := Lib.hid hy
    clear hy
    have HSm : Hid (∀ B ww a a' cap cap', RowIs ww a ys.length ys B → RowIs ww a' ys.length ys B → Calls Tryd.prog 17 #[.slice a ys.length cap, .slice a' ys.length cap'] ww fun e w' => e = .returned (.bool true) ∧ Below ww.heap.size ww w') := by
      intro B ww a a' cap cap' h h'
      have := same ys ys a a' _ _ cap cap' ww h.1 h'.1 h.2.1 h.2.1
      rw [decide_eq_true rfl] at this
      exact this
    go_enter Tryd.func12, Tryd.ntmps12
    go_upto_region 10 with fail
    have m7 := HRd.out.cc.c7
    simp only [Nat.zero_add] at m7
    clear k0 k1
    have HS14 := Lib.hid m7
    generalize ww.alloc (.cells #[.int .u8 d, .int .i64 cls, .int .u16 wh, .bool od, .int .i64 xe, .int .i64 xc, .int .i64 xi, .int .u64 ep] 40) = wB at *
    generalize ww.heap.size = b14 at *
    go_region_held3 (fun w' => w'.cell? ⟨b14, 7, none⟩ = some (.int .u64 ep)) (first | exact K5.out | exact K4.out | exact K3.out | go_keep)
      (first
        | (go_at_call 23; ((with_reducible refine ((HRd.out.calm (Turned.refl [] _).drew).dueA ep ys HY.out).mono ?_); rintro e w3 ⟨d3, cap3', rfl, hrow, hs⟩; have S3 := Lib.hid hs; have R3 := Lib.hid hrow; have K3 := Lib.hid (show w3.cell? ⟨b14, 7, none⟩ = some (.int .u64 ep) from hs.cc.c7); clear hs hrow))
        | (go_at_call 30; ((with_reducible refine (S3.out.dueB HB.out HI.out HRel.out ep HEp.out ys HY.out _ _ _ R3.out).mono ?_); rintro e w4 ⟨d4, cap4', rfl, hrow, hrow0, rx', hs, hrel⟩; have S4 := Lib.hid hs; have R4 := Lib.hid (And.intro hrow0 hrow); have HR4 := Lib.hid hrel; have K4 := Lib.hid (show w4.cell? ⟨b14, 7, none⟩ = some (.int .u64 ep) from hs.cc.c7); clear hs hrow hrow0 hrel))
        | (go_at_call 17; ((with_reducible refine (HSm.out _ _ _ _ _ _ R4.out.1 R4.out.2).mono ?_); rintro e w5 ⟨rfl, hb5⟩; have S5 := Lib.hid (S4.out.calm (Turned.of_below hb5)); have K5 := Lib.hid (show w5.cell? ⟨b14, 7, none⟩ = some (.int .u64 ep) from (S4.out.calm (Turned.of_below hb5)).cc.c7); clear hb5)))
    all_goals
      go_wp2
      go_ret
      exact ⟨rfl, _, _, _, S5.out.duo, HR4.out⟩
  all_goals
    obtain ⟨ys, hy⟩ : ∃ ys, canon liveV r.n ex l = ys := ⟨_, rfl⟩
    have HY : Hid (allR rx 1 r.n = ys) := (HRel.out.all1 HI.out).trans hy
    have hpi := pick_i64 (so := liveV) HI.out HN.out ⟨d, cls, wh, od, ⟨xe, xc, xi⟩, ep⟩ HOk.out
    rw [hy] at hpi
    have hlen := canon_few (so := liveV) HI.out HN.out
    rw [hy] at hlen
    have HLen := Lib.hid hlen
    obtain ⟨x, hx⟩ : ∃ x, pickS ys ⟨d, cls, wh, od, ⟨xe, xc, xi⟩, ep⟩ = x := ⟨_, rfl⟩
    rw [hx] at hpi
    obtain ⟨ze, zc, zi⟩ := x
    have CP : Hid (∀ a n cap base w3, RowIs w3 a n ys base → Calls Tryd.prog 25 #[.slice a n cap, .agg #[.int .u8 d, .int .i64 cls, .int .u16 wh, .bool od, .int .i64 xe, .int .i64 xc, .int .i64 xi, .int .u64 ep]] w3 fun e w' => e = .returned (.agg #[.int .i64 ze, .int .i64 zc, .int .i64 zi]) ∧ Below w3.heap.size w3 w') :=
      fun a n cap base w3 hr => picked_any ys ⟨d, cls, wh, od, ⟨xe, xc, xi⟩, ep⟩ HOk.out a n cap base w3 hr _ hx
    have HPi := Lib.hid hpi
    clear hy hx hpi hlen
    go_enter Tryd.func12, Tryd.ntmps12
    go_upto_region 11 with fail
    obtain ⟨q0, q1, q2, q3, q4, q5, q6, q7⟩ := HRd.out.cc.conj
    simp only [Nat.zero_add] at q0 q1 q2 q3 q4 q5 q6 q7
    have hlt14 := HRd.out.lt
    clear k0 k1
    generalize ww.alloc (.cells #[.int .u8 d, .int .i64 cls, .int .u16 wh, .bool od, .int .i64 xe, .int .i64 xc, .int .i64 xi, .int .u64 ep] 40) = wB at *
    generalize ww.heap.size = b14 at *
    generalize d % 7 = d7 at *
    subst hr
    go_cut [11] from 53 to 56 (fun v wc => CutQ w p r ex l rx b14 ⟨d, cls, wh, od, ⟨xe, xc, xi⟩, ep⟩ ⟨ze, zc, zi⟩ v wc)
    case first =>
      go_region_held3 (fun w' => w'.cell? ⟨b14, 0, none⟩ = some (.int .u8 d) ∧ w'.cell? ⟨b14, 1, none⟩ = some (.int .i64 cls) ∧ w'.cell? ⟨b14, 2, none⟩ = some (.int .u16 wh) ∧ w'.cell? ⟨b14, 3, none⟩ = some (.bool od) ∧ w'.cell? ⟨b14, 4, none⟩ = some (.int .i64 xe) ∧ w'.cell? ⟨b14, 5, none⟩ = some (.int .i64 xc) ∧ w'.cell? ⟨b14, 6, none⟩ = some (.int .i64 xi) ∧ w'.cell? ⟨b14, 7, none⟩ = some (.int .u64 ep)) (first | exact (S4.out.var ⟨ze, zc, zi⟩).cc.conj | exact (S4.out.setv HB.out ⟨ze, zc, zi⟩).cc.conj | exact S4.out.cc.conj | exact S3.out.cc.conj | go_keep)
        (first
          | (go_at_call 19; ((with_reducible refine ((HRd.out.calm (Turned.refl [] _).drew).allB 1 (by omega) ys HY.out HLen.out).mono ?_); rintro e w3 ⟨d3, cap3', rfl, hrow, hs⟩; have S3 := Lib.hid hs; have R3 := Lib.hid hrow; clear hs hrow))
          | (go_at_call 19; ((with_reducible refine (((HRd.out.var ⟨0, 0, 0⟩).calm (Turned.refl [] _).drew).allB 1 (by omega) ys HY.out HLen.out).mono ?_); rintro e w3 ⟨d3, cap3', rfl, hrow, hs⟩; have S3 := Lib.hid hs; have R3 := Lib.hid hrow; clear hs hrow))
          | (go_at_call 25; ((with_reducible refine (CP.out _ _ _ _ _ R3.out).mono ?_); rintro e w4 ⟨rfl, hb4⟩; have S4 := Lib.hid (S3.out.calm (Turned.of_below hb4)); clear hb4; try (obtain ⟨hv, hb⟩ := S4.out.vars _ (List.mem_cons_self ..); have z0 := hv.c0; have z1 := hv.c1; have z2 := hv.c2; have f0 := hv.f 0; have f1 := hv.f 1; have f2 := hv.f 2; clear hv; simp only at hb z0 z1 z2)))
          | (go_at_call 25; ((with_reducible refine (CP.out _ _ _ _ _ (R3.out.turned ((Turned.refl [] _).alloc _) (by simp))).mono ?_); rintro e w4 ⟨rfl, hb4⟩; have S4 := Lib.hid ((S3.out.var ⟨0, 0, 0⟩).calm (Turned.of_below hb4)); clear hb4; obtain ⟨hv, hb⟩ := S4.out.vars _ (List.mem_cons_self ..); have z0 := hv.c0; have z1 := hv.c1; have z2 := hv.c2; have f0 := hv.f 0; have f1 := hv.f 1; have f2 := hv.f 2; clear hv; simp only at hb z0 z1 z2)))
      all_goals
        go_wp2
        go_meet
        first
          | exact ⟨_, rfl, S4.out.var ⟨ze, zc, zi⟩⟩
          | exact ⟨_, rfl, S4.out.setv HB.out ⟨ze, zc, zi⟩⟩
    case rest =>
      obtain ⟨b19, rfl, hRd⟩ := hcut
      have v := (hRd.vars _ (List.mem_cons_self ..)).1
      have z0 := v.c0
      have z1 := v.c1
      have z2 := v.c2
      have z7 : wc.cell? ⟨b14, 7, none⟩ = some (.int .u64 ep) := hRd.cc.c7
      simp only at z0 z1 z2
      have HRc := Lib.hid hRd
      obtain ⟨R, hR⟩ : ∃ R, dropR l ⟨ze, zc, zi⟩ ep = R := ⟨_, rfl⟩
      obtain ⟨er, rl⟩ := R
      have HR := Lib.hid hR
      clear hR v hRd q0 q1 q2 q3 q4 q5 q6 q7 CP HRd
      go_upto_region 12 with fail
      go_region_held3 (fun w' => w'.cell? ⟨b19, 0, none⟩ = some (.int .i64 ze) ∧ w'.cell? ⟨b19, 1, none⟩ = some (.int .i64 zc) ∧ w'.cell? ⟨b19, 2, none⟩ = some (.int .i64 zi) ∧ w'.cell? ⟨b14, 7, none⟩ = some (.int .u64 ep)) (first | exact K6.out | exact K5.out | go_keep)
        (first
          | (go_at_call 24; ((with_reducible refine ((HRc.out.calm (Turned.refl [] _).drew).dropA _ HPi.out ep _ HR.out).mono ?_); rintro e w5 ⟨rfl, hs⟩; have S5 := Lib.hid hs; have v := (hs.vars _ (List.mem_cons_self ..)).1; have K5 := Lib.hid (And.intro v.c0 (And.intro v.c1 (And.intro v.c2 (show w5.cell? ⟨b14, 7, none⟩ = some (.int .u64 ep) from hs.cc.c7)))); clear hs v))
          | (go_at_call 31; ((with_reducible refine (S5.out.dropB HB.out HI.out HRel.out _ HPi.out ep HEp.out _ HR.out).mono ?_); rintro e w6 ⟨rfl, rx', hs, hrel⟩; have S6 := Lib.hid hs; have HR6 := Lib.hid hrel; have v := (hs.vars _ (List.mem_cons_self ..)).1; have K6 := Lib.hid (And.intro v.c0 (And.intro v.c1 (And.intro v.c2 (show w6.cell? ⟨b14, 7, none⟩ = some (.int .u64 ep) from hs.cc.c7)))); clear hs v hrel)))
      all_goals
        go_wp2
        go_ret
        exact ⟨rfl, _, _, _, S6.out.duo, HR6.out⟩
end Go.Proofs.YtaikapgpkkpdjaaDoor.L
