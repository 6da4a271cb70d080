/- Radix: an entry that is handed in, read as data. -/
import Derived.Test.YtmpbhoijkcanmaaSD
import Derived.Lib.SmallJoins
namespace Go.Proofs.Ytmpbhoijkcanmaa.R
open Go.ChangeShapes Go.WideShapes Go.ChangeAt Go.RowKit Go.Joins
set_option linter.unusedVariables false
set_option linter.unusedSimpArgs false
set_option linter.unnecessarySimpa false

section
variable {H : Type} {enc : TypeId × Value → H} {w : World} {base : Nat} {spare : Nat → Bool} {held : Bool}
def datS (x : Slot) : DataW H := .agg [.lit (.int .i64 x.e), .lit (.int .i64 x.c), .lit (.int .i64 x.i)]
def datE (x : Ent) : DataW H := .agg [datS x.s, .lit (.int .i64 x.g)]
theorem wf_i64 {n : Int} (h : (Lit.int .i64 n).wf = true) : I64 n := by
  have := bounds_i64 h
  unfold I64; omega
theorem eS : Try.prog.cellsOf 31 = 3 := by kernel_rfl
theorem eI : Try.prog.cellsOf 3 = 1 := by kernel_rfl
theorem eE : Try.prog.cellsOf 33 = 4 := by kernel_rfl
theorem slot_trod {fuel : Nat} {c0 c1 c2 : Value} {y : DataW H × List MemPlace} (h : DataW.trod enc Try.prog w base spare held fuel 31 [c0, c1, c2] = some y) :
    ∃ x : Slot, x.ok ∧ c0 = .int .i64 x.e ∧ c1 = .int .i64 x.c ∧ c2 = .int .i64 x.i ∧ y = (datS x, []) := by
  obtain ⟨y0, y1, y2, n, rfl, _, h0, h1, h2⟩ := Go.Deep.trod_struct3 Try.underlying31 h
  simp only [eI, List.drop_zero, List.drop_succ_cons, List.take_succ_cons, List.take_zero] at h0 h1 h2
  obtain ⟨a, e0, rfl, w0⟩ := DataW.trod_int Try.underlying3 h0
  obtain ⟨b, e1, rfl, w1⟩ := DataW.trod_int Try.underlying3 h1
  obtain ⟨c, e2, rfl, w2⟩ := DataW.trod_int Try.underlying3 h2
  simp only [List.cons.injEq, and_true] at e0 e1 e2
  exact ⟨⟨a, b, c⟩, ⟨wf_i64 w0, wf_i64 w1, wf_i64 w2⟩, e0, e1, e2, rfl⟩
theorem ent_trod {fuel : Nat} {c0 c1 c2 c3 : Value} {y : DataW H × List MemPlace} (h : DataW.trod enc Try.prog w base spare held fuel 33 [c0, c1, c2, c3] = some y) :
    ∃ x : Ent, x.ok ∧ c0 = .int .i64 x.s.e ∧ c1 = .int .i64 x.s.c ∧ c2 = .int .i64 x.s.i ∧ c3 = .int .i64 x.g ∧ y = (datE x, []) := by
  obtain ⟨y0, y1, n, rfl, _, h0, h1⟩ := trod_struct2 Try.underlying33 h
  simp only [eI, eS, List.drop_zero, List.drop_succ_cons, List.take_succ_cons, List.take_zero] at h0 h1
  obtain ⟨s, hs, e0, e1, e2, rfl⟩ := slot_trod h0
  obtain ⟨g, e3, rfl, w3⟩ := DataW.trod_int Try.underlying3 h1
  simp only [List.cons.injEq, and_true] at e3
  exact ⟨⟨s, g⟩, ⟨hs, wf_i64 w3⟩, e0, e1, e2, e3, rfl⟩
theorem of_pair {α β : Type} {a c : α} {b d : β} (h : (a, b) = (c, d)) : a = c ∧ b = d := ⟨congrArg Prod.fst h, congrArg Prod.snd h⟩
set_option maxRecDepth 100000 in
theorem open_entry {r : Reach} {b0 : Nat} {v : Value} {d : DataW H} {p : List MemPlace} (hv : Value.okWide Try.prog w r b0 33 v) (h : DataW.Trod enc Try.prog w base spare held 33 v d p) :
    ∃ x : Ent, x.ok ∧ v = encE x ∧ d = datE x ∧ p = [] := by
  obtain ⟨cs, rfl, hsz⟩ := okWide_struct Try.underlying33 hv
  obtain ⟨c0, c1, c2, c3, rfl⟩ := array4 (hsz.trans eE)
  obtain ⟨fuel, hf⟩ := h
  have hf' : DataW.trod enc Try.prog w base spare held fuel 33 [c0, c1, c2, c3] = some (d, p) := hf
  obtain ⟨x, hx, rfl, rfl, rfl, rfl, e⟩ := ent_trod hf'
  exact ⟨x, hx, rfl, (of_pair e).1, (of_pair e).2⟩
theorem slot_mk (x : Slot) (h : x.ok) : DataW.trod enc Try.prog w base spare held 2 31 [.int .i64 x.e, .int .i64 x.c, .int .i64 x.i] = some (datS x, []) := by
  have := trod_struct_mk (enc := enc) (P := Try.prog) (w := w) (base := base) (spare := spare) (held := held) (n := 1) (cs := [.int .i64 x.e, .int .i64 x.c, .int .i64 x.i])
    (xs := [(.lit (.int .i64 x.e), []), (.lit (.int .i64 x.c), []), (.lit (.int .i64 x.i), [])]) Try.underlying31 (by rw [eS]; rfl) (by
      simp [eI, trod_int_mk 0 Try.underlying3 (wf64 h.1), trod_int_mk 0 Try.underlying3 (wf64 h.2.1), trod_int_mk 0 Try.underlying3 (wf64 h.2.2)])
  simpa [datS] using this
theorem shut_entry (x : Ent) (h : x.ok) : DataW.Trod enc Try.prog w base spare held 33 (encE x) (datE x) [] := by
  have := trod_struct_mk (enc := enc) (P := Try.prog) (w := w) (base := base) (spare := spare) (held := held) (n := 2) (cs := (encE x).cells.toList)
    (xs := [(datS x.s, []), (.lit (.int .i64 x.g), [])]) Try.underlying33 (by rw [eE]; rfl) (by
      simp [eI, eS, encE, Value.cells, slot_mk x.s h.1, trod_int_mk 1 Try.underlying3 (wf64 h.2)])
  exact ⟨3, by simpa [datE] using this⟩
end
end Go.Proofs.Ytmpbhoijkcanmaa.R
