/- Radix: pages and entries that are handed in, bytes that are handed in. -/
import Derived.Test.YtmpbhoijkcanmaaSI
import Derived.Test.YtmpbhoijkcanmaaGRd
namespace Go.Proofs.Ytmpbhoijkcanmaa.R
open Go.ChangeShapes Go.WideShapes Go.ChangeAt Go.RowKit Go.Maps Go.Proofs.Ytmpbhoijkcanmaa.G Go.Joins
set_option linter.unusedVariables false
set_option linter.unusedSimpArgs false
set_option linter.unnecessarySimpa false

structure PutD where
  page : Nat
  x : Ent
  gone : Bool
deriving Inhabited
def PutD.ok (c : PutD) : Prop := c.page < 65536 ∧ c.x.ok
def encPut (c : PutD) : List Value := [.int .u16 (c.page : Nat), .int .i64 c.x.s.e, .int .i64 c.x.s.c, .int .i64 c.x.s.i, .int .i64 c.x.g, .bool c.gone]
abbrev PutsAt (w : World) (a : Option Addr) (len : Nat) (l : List PutD) : Prop := RowsAt w 6 encPut a len l
theorem PutsAt.cells {w : World} {a : Option Addr} {len : Nat} {l : List PutD} (h : PutsAt w a len l) (i : Nat) (hi : i < len) : ∃ b off x, a = some ⟨b, off, none⟩ ∧ b < w.heap.size ∧ l[i]? = some x ∧ w.cell? ⟨b, off + i * 6, none⟩ = some (.int .u16 (x.page : Nat)) ∧ w.cell? ⟨b, off + i * 6 + 1, none⟩ = some (.int .i64 x.x.s.e) ∧ w.cell? ⟨b, off + i * 6 + 2, none⟩ = some (.int .i64 x.x.s.c) ∧ w.cell? ⟨b, off + i * 6 + 3, none⟩ = some (.int .i64 x.x.s.i) ∧ w.cell? ⟨b, off + i * 6 + 4, none⟩ = some (.int .i64 x.x.g) ∧ w.cell? ⟨b, off + i * 6 + 5, none⟩ = some (.bool x.gone) := by
  obtain ⟨b, off, x, e, hb, hx, hc⟩ := RowsAt.at h i hi
  exact ⟨b, off, x, e, hb, hx, hc 0 _ rfl, hc 1 _ rfl, hc 2 _ rfl, hc 3 _ rfl, hc 4 _ rfl, hc 5 _ rfl⟩
abbrev BytesAt (w : World) (a : Option Addr) (len : Nat) (l : List Nat) : Prop := RowsAt w 1 (fun n : Nat => [.int .u8 (n : Nat)]) a len l
section
variable {H : Type} {enc : TypeId × Value → H} {w : World} {base : Nat} {spare : Nat → Bool} {held : Bool}
theorem put_trod {fuel : Nat} {cs : List Value} {y : DataW H × List MemPlace} (hl : cs.length = 6) (h : DataW.trod enc Try.prog w base spare held fuel 35 cs = some y) : ∃ x : PutD, x.ok ∧ cs = encPut x := by
  have e16 : Try.prog.cellsOf 29 = 1 := by kernel_rfl
  have eB : Try.prog.cellsOf 4 = 1 := by kernel_rfl
  obtain ⟨c0, c1, c2, c3, c4, c5, rfl⟩ : ∃ c0 c1 c2 c3 c4 c5, cs = [c0, c1, c2, c3, c4, c5] := by
    match cs, hl with
    | [c0, c1, c2, c3, c4, c5], _ => exact ⟨c0, c1, c2, c3, c4, c5, rfl⟩
  obtain ⟨y0, y1, y2, n, rfl, _, h0, h1, h2⟩ := Go.Deep.trod_struct3 Try.underlying35 h
  simp only [e16, eB, eE, List.drop_zero, List.drop_succ_cons, List.take_succ_cons, List.take_zero] at h0 h1 h2
  obtain ⟨p, e0, rfl, w0⟩ := DataW.trod_int Try.underlying29 h0
  obtain ⟨x, hx, e1, e2, e3, e4, rfl⟩ := ent_trod h1
  obtain ⟨g, e5, _⟩ := DataW.trod_bool Try.underlying4 h2
  simp only [List.cons.injEq, and_true] at e0 e5
  have b0 := bounds_u16 w0
  obtain ⟨pn, rfl⟩ : ∃ pn : Nat, p = pn := ⟨p.toNat, by omega⟩
  exact ⟨⟨pn, x, g⟩, ⟨by simp only; omega, hx⟩, by rw [e0, e1, e2, e3, e4, e5]; rfl⟩
theorem puts_of {fuel : Nat} {a : Option Addr} {len cap : Nat} {y : DataW H × List MemPlace} (h : DataW.trod enc Try.prog w base spare held fuel 22 [.slice a len cap] = some y) : ∃ l, PutsAt w a len l ∧ (∀ x ∈ l, x.ok) ∧ len ≤ maxLen ∧ len ≤ cap :=
  rows_of (by omega) encPut (fun _ => rfl) PutD.ok Try.underlying22 (by kernel_rfl) (fun _ _ _ => put_trod) h
theorem byte_trod {fuel : Nat} {cs : List Value} {y : DataW H × List MemPlace} (hl : cs.length = 1) (h : DataW.trod enc Try.prog w base spare held fuel 5 cs = some y) : ∃ x : Nat, x < 256 ∧ cs = [.int .u8 (x : Nat)] := by
  obtain ⟨p, e0, rfl, w0⟩ := DataW.trod_int Try.underlying5 h
  have b0 := bounds_u8 w0
  obtain ⟨pn, rfl⟩ : ∃ pn : Nat, p = pn := ⟨p.toNat, by omega⟩
  exact ⟨pn, by omega, e0⟩
theorem bytes_of {fuel : Nat} {a : Option Addr} {len cap : Nat} {y : DataW H × List MemPlace} (h : DataW.trod enc Try.prog w base spare held fuel 23 [.slice a len cap] = some y) : ∃ l, BytesAt w a len l ∧ (∀ x ∈ l, x < 256) ∧ len ≤ maxLen ∧ len ≤ cap :=
  rows_of Nat.one_pos (fun n : Nat => [.int .u8 (n : Nat)]) (fun _ => rfl) (fun n => n < 256) Try.underlying23 (by kernel_rfl) (fun _ _ _ => byte_trod) h
end
/-- a row that is owned, by its cells -/
theorem slAt_of_row {K : List (Nat × Obj)} {base n : Nat} {t : TypeId} {v : Value} {xs : List Value} {w ww : World} {f L : Nat} {F : Fo} (r : RowK K base t 1 v n xs) (h : LV w ww f F L K) : ∃ a cap, v = .slice a n cap ∧ SlAt ww a n xs := by
  obtain ⟨a, cap, e, h1, _⟩ := SlAt.of_owns (r.at h)
  exact ⟨a, cap, e, h1⟩
end Go.Proofs.Ytmpbhoijkcanmaa.R
