/- Radix: nodes' functions: is a node empty; what changes a node. -/
import Derived.Test.YtmpbhoijkcanmaaRB
import Derived.ChangeKeysEq
import Derived.StillTailTactics
namespace Go.Proofs.Ytmpbhoijkcanmaa.R
open Go.ChangeShapes Go.WideShapes Go.ChangeAt Go.RowKit Go.Maps Go.Proofs.Ytmpbhoijkcanmaa.G
set_option linter.unusedVariables false
set_option linter.unusedSimpArgs false
set_option linter.unnecessarySimpa false

variable {w w' : World}
/-! ### bits of 16 -/
theorem wrap16 (t : Nat) (ht : t < 16) : IntKind.u16.wrap (2 ^ t) = ((2 ^ t : Nat) : Int) := by
  have hp : 2 ^ t < 2 ^ 16 := Nat.pow_lt_pow_right (by omega) ht
  have : ((2 : Int) ^ t) = ((2 ^ t : Nat) : Int) := by rw [Int.natCast_pow]; rfl
  rw [this, IntKind.wrap_u16]
  generalize 2 ^ t = P at *
  omega
theorem or_lt (u t : Nat) (hu : u < 2 ^ 16) (ht : t < 16) : u ||| 2 ^ t < 2 ^ 16 := Nat.or_lt_two_pow hu (Nat.pow_lt_pow_right (by omega) ht)
theorem or_bit (u t : Nat) (hu : u < 2 ^ 16) (ht : t < 16) : bits BinOp.or IntKind.u16 (u : Int) (IntKind.u16.wrap (2 ^ t)) = ((u ||| 2 ^ t : Nat) : Int) := by
  have hp : 2 ^ t < 2 ^ 16 := Nat.pow_lt_pow_right (by omega) ht
  rw [wrap16 t ht]
  show IntKind.u16.wrap ((BitVec.ofInt 16 (u : Int) ||| BitVec.ofInt 16 ((2 ^ t : Nat) : Int)).toNat : Int) = _
  rw [BitVec.toNat_or, BitVec.ofInt_natCast, BitVec.ofInt_natCast, BitVec.toNat_ofNat, BitVec.toNat_ofNat, Nat.mod_eq_of_lt hu, Nat.mod_eq_of_lt hp, IntKind.wrap_u16]
  have := or_lt u t hu ht
  omega
def clr (u t : Nat) : Nat := u &&& (2 ^ 16 - (2 ^ t + 1))
theorem clr_lt (u t : Nat) (hu : u < 2 ^ 16) : clr u t < 2 ^ 16 := Nat.lt_of_le_of_lt Nat.and_le_left hu
theorem clr_bit (u t j : Nat) (hu : u < 2 ^ 16) (ht : t < 16) : (clr u t).testBit j = (u.testBit j && decide (j ≠ t)) := by
  have hp : 2 ^ t < 2 ^ 16 := Nat.pow_lt_pow_right (by omega) ht
  unfold clr
  rw [Nat.testBit_and, Nat.testBit_two_pow_sub_succ hp, Nat.testBit_two_pow]
  by_cases hj : j < 16
  · simp [hj, eq_comm]
  · have : u.testBit j = false := Nat.testBit_lt_two_pow (Nat.lt_of_lt_of_le hu (Nat.pow_le_pow_right (by omega) (by omega)))
    simp [this]
theorem andnot_bit (u t : Nat) (hu : u < 2 ^ 16) (ht : t < 16) : bits BinOp.andNot IntKind.u16 (u : Int) (IntKind.u16.wrap (2 ^ t)) = ((clr u t : Nat) : Int) := by
  have hp : 2 ^ t < 2 ^ 16 := Nat.pow_lt_pow_right (by omega) ht
  rw [wrap16 t ht]
  show IntKind.u16.wrap ((BitVec.ofInt 16 (u : Int) &&& ~~~ BitVec.ofInt 16 ((2 ^ t : Nat) : Int)).toNat : Int) = _
  rw [BitVec.toNat_and, BitVec.toNat_not, BitVec.ofInt_natCast, BitVec.ofInt_natCast, BitVec.toNat_ofNat, BitVec.toNat_ofNat, Nat.mod_eq_of_lt hu, Nat.mod_eq_of_lt hp, IntKind.wrap_u16]
  have := clr_lt u t hu
  unfold clr at *
  rw [show 2 ^ 16 - 1 - 2 ^ t = 2 ^ 16 - (2 ^ t + 1) by omega]
  omega
theorem bit_of (u t : Nat) (hu : u < 2 ^ 16) : bits BinOp.and IntKind.u16 ((u / 2 ^ t : Nat) : Int) 1 = if u.testBit t then 1 else 0 := by
  show IntKind.u16.wrap ((BitVec.ofInt 16 ((u / 2 ^ t : Nat) : Int) &&& BitVec.ofInt 16 ((1 : Nat) : Int)).toNat : Int) = _
  have hlt : u / 2 ^ t < 2 ^ 16 := Nat.lt_of_le_of_lt (Nat.div_le_self _ _) hu
  rw [BitVec.toNat_and, BitVec.ofInt_natCast, BitVec.ofInt_natCast, BitVec.toNat_ofNat, BitVec.toNat_ofNat, Nat.mod_eq_of_lt hlt, IntKind.wrap_u16]
  rw [Nat.and_one_is_mod, Nat.testBit_eq_decide_div_mod_eq]
  by_cases h : u / 2 ^ t % 2 = 1
  · simp [h]
  · have h0 : u / 2 ^ t % 2 = 0 := by omega
    simp [h0]

theorem bit_ofI (u t : Nat) (hu : u < 2 ^ 16) : bits BinOp.and IntKind.u16 ((u : Int) / 2 ^ t) 1 = if u.testBit t then 1 else 0 := by
  have e : ((u : Int) / 2 ^ t) = ((u / 2 ^ t : Nat) : Int) := by rw [Int.natCast_ediv, Int.natCast_pow]; rfl
  rw [e]
  exact bit_of u t hu

/-! ### rows of kids -/
def rowL (f : Nat → Nat) : List Value := (List.range 16).map fun j => Value.int .i64 (f j)
def rowA (f : Nat → Nat) : Array Value := (rowL f).toArray
theorem rowA_get (f : Nat → Nat) (j : Nat) (hj : j < 16) : (rowA f)[j]? = some (.int .i64 (f j)) := by
  unfold rowA rowL
  rw [List.getElem?_toArray, List.getElem?_map, List.getElem?_range hj]
  rfl
theorem NodeAt.kidsRange {b : Nat} {x : Node} (h : NodeAt w b x) : w.rangeAt b 0 (rowL x.kids) := by
  intro j v hv
  unfold rowL at hv
  have hj : j < 16 := by
    rcases Nat.lt_or_ge j 16 with h | h
    · exact h
    · rw [List.getElem?_eq_none (by simpa using h)] at hv; cases hv
  rw [List.getElem?_map, List.getElem?_range hj] at hv
  simp only [Option.map_some, Option.some.injEq] at hv
  rw [Nat.zero_add, h.kid j hj, hv]
theorem infoKids16 : (Try.prog.info? 95).map (·.size) = some 16 := by kernel_rfl
theorem infoKids (f : Nat → Nat) : (Try.prog.info? 95).map (·.size) = some (rowL f).length := by
  have : (rowL f).length = 16 := by unfold rowL; simp
  rw [this, infoKids16]
/-- a load of a row in the midst of a block, behind a guard that says yes -/
theorem wpList_load_g {P : Program} {ops : Array Oper} {rest : List Oper} {op : Oper} {a : Act} {w : World} {Q : Exit → Act → World → Prop} (hw : Region.wanted op (yielded ops a.tmps) = true) (ty : TypeId) (x : Operand) (ho : op.op = .load ty x)
    (b o : Nat) (hx : a.eval x = .pointer (some ⟨b, o, none⟩)) (cs : List Value) (d : TypeDesc) (hc : w.rangeAt b o cs)
    (hu : P.underlying ty = some d) (hd : d.isRow = true) (hi : (P.info? ty).map (·.size) = some cs.length)
    (h : wpList P ops Q rest (a.put op.dst (.agg cs.toArray)) w) : wpList P ops Q (op :: rest) a w :=
  BigFrame.wpList_want hw fun _ hK => wp_load_mid ty x ho b o hx cs d hc hu hd hi (hK _ _ h)
def noKids (f : Nat → Nat) : Bool := (List.range 16).all fun j => f j == 0
theorem infoI : ∃ i, Try.prog.info? 3 = some i ∧ Try.prog.cellsOf 3 = 1 := by
  have h : (Try.prog.info? 3).isSome = true := by kernel_rfl
  obtain ⟨i, hi⟩ := Option.isSome_iff_exists.1 h
  exact ⟨i, hi, by kernel_rfl⟩
theorem eqlKids (f : Nat → Nat) (w : World) : (Op.equalIn 10000 95 (.agg (rowA f)) (.agg (rowA fun _ => 0))).run Try.prog w = .ok (noKids f) w := by
  obtain ⟨i, hi, hc⟩ := infoI
  rw [run_equalIn_array w 9999 _ _ Try.underlying95 hi, hc]
  have key : ∀ l : List Nat, (∀ j ∈ l, j < 16) → (Op.eqItems 9999 3 1 (rowA f) (rowA fun _ => 0) l).run Try.prog w = .ok (l.all fun j => f j == 0) w := by
    intro l
    induction l with
    | nil => intro _; rfl
    | cons j l ih =>
      intro h
      have hj := h j (by simp)
      have p1 : (part 3 (rowA f) (j * 1)).run Try.prog w = .ok (.int .i64 (f j)) w := by
        simp [part, isAgg, run_underlying Try.underlying3, rowA_get f j hj]
      have p2 : (part 3 (rowA fun _ => 0) (j * 1)).run Try.prog w = .ok (.int .i64 0) w := by
        have := rowA_get (fun _ => 0) j hj
        simp [part, isAgg, run_underlying Try.underlying3, this]
      have p3 : (Op.equalIn 9999 3 (.int .i64 (f j)) (.int .i64 0)).run Try.prog w = .ok ((f j : Int) == 0) w := run_equalIn_int w 9998 3 .i64 .i64 _ _ Try.underlying3
      have e : ((f j : Int) == 0) = (f j == 0) := by rw [Bool.eq_iff_iff]; simp
      rw [e] at p3
      simp only [Op.eqItems, Sem.run_bind, p1, p2, p3, Result.andThen_ok, List.all_cons]
      cases hb : (f j == 0)
      · simp
      · simp only [Bool.not_true, Bool.false_eq_true, if_false, Bool.true_and, if_true]
        exact ih fun k hk => h k (by simp [hk])
  exact key _ (fun j hj => List.mem_range.1 hj)
def emptyB (x : Node) : Bool := x.bits == 0 && noKids x.kids
set_option maxRecDepth 100000 in
theorem empty_fn (b : Nat) (x : Node) (w : World) (h : NodeAt w b x) : Calls Try.prog 66 #[.pointer (some ⟨b, 0, none⟩)] w fun e w' => e = .returned (.bool (emptyB x)) ∧ w = w' := by
  have c80 := h.bits
  have HK := Lib.hid h.kidsRange
  have HI := Lib.hid (infoKids x.kids)
  have he := eqlKids x.kids w
  rw [show rowA (fun _ => 0) = #[.int .i64 0, .int .i64 0, .int .i64 0, .int .i64 0, .int .i64 0, .int .i64 0, .int .i64 0, .int .i64 0, .int .i64 0, .int .i64 0, .int .i64 0, .int .i64 0, .int .i64 0, .int .i64 0, .int .i64 0, .int .i64 0] from rfl] at he
  have e0 : ((x.bits : Int) == 0) = (x.bits == 0) := by rw [Bool.eq_iff_iff]; simp
  unfold emptyB
  unfold rowA at he
  generalize rowL x.kids = A at *
  generalize noKids x.kids = B at *
  generalize x.bits = u at *
  clear h
  cases hu : (u == 0)
  · rw [hu] at e0
    clear hu
    go_enter Try.func66, Try.ntmps66
    go_wp2
    go_ret
    exact ⟨rfl, rfl⟩
  · rw [hu] at e0
    clear hu
    go_enter Try.func66, Try.ntmps66
    go_wp2_with (first
      | (refine wpList_load_g (by rfl) 95 _ (by rfl) b 0 (by rfl) A _ HK.out Try.underlying95 (by rfl) HI.out ?_))
    go_ret
    exact ⟨rfl, rfl⟩

/-! ### what changes a node -/
def setE (x : Node) (i : Nat) (e : Ent) : Node := { x with ents := fun j => if j = i then e else x.ents j }
def setLeaf (x : Node) (i : Nat) (e : Ent) : Node := { x with ents := fun j => if j = i then e else x.ents j, bits := x.bits ||| 2 ^ i }
def clearLeaf (x : Node) (i : Nat) : Node := { x with ents := fun j => if j = i then zeroE else x.ents j, bits := clr x.bits i }
def setKid (x : Node) (i k : Nat) : Node := { x with kids := fun j => if j = i then k else x.kids j }
def setBits (x : Node) (u : Nat) : Node := { x with bits := u }
def setRefs (x : Node) (n : Nat) : Node := { x with refs := n }
theorem cellN_ent (x : Node) (i j : Nat) (hi : i < 16) (hj : j < 4) : cellN x (16 + i * 4 + j) = entCell (x.ents i) j := by
  unfold cellN
  rw [if_neg (by omega), if_pos (by omega), show (16 + i * 4 + j - 16) / 4 = i by omega, show (16 + i * 4 + j - 16) % 4 = j by omega]
theorem NodeAt.setE {b : Nat} {x : Node} (h : NodeAt w b x) (i : Nat) (hi : i < 16) (e : Ent) :
    NodeAt ((((w.setCell ⟨b, 16 + i * 4, none⟩ (.int .i64 e.s.e)).setCell ⟨b, 16 + i * 4 + 1, none⟩ (.int .i64 e.s.c)).setCell ⟨b, 16 + i * 4 + 2, none⟩ (.int .i64 e.s.i)).setCell ⟨b, 16 + i * 4 + 3, none⟩ (.int .i64 e.g)) b (setE x i e) := by
  refine World.rowIs.congr ((((World.rowIs.set h (16 + i * 4) _).set (16 + i * 4 + 1) _).set (16 + i * 4 + 2) _).set (16 + i * 4 + 3) _) fun j hj => ?_
  by_cases hr : 16 + i * 4 ≤ j ∧ j < 16 + i * 4 + 4
  · have h4 : j = 16 + i * 4 ∨ j = 16 + i * 4 + 1 ∨ j = 16 + i * 4 + 2 ∨ j = 16 + i * 4 + 3 := by omega
    have hd : (j - 16) / 4 = i := by omega
    have hc : ∀ k, k < 4 → cellN (R.setE x i e) (16 + i * 4 + k) = entCell e k := fun k hk => by
      rw [cellN_ent _ i k hi hk]
      show entCell (if i = i then e else x.ents i) k = _
      rw [if_pos rfl]
    rcases h4 with rfl | rfl | rfl | rfl
    · rw [if_neg (by omega), if_neg (by omega), if_neg (by omega), if_pos rfl, show cellN (R.setE x i e) (16 + i * 4) = entCell e 0 from hc 0 (by omega)]; rfl
    · rw [if_neg (by omega), if_neg (by omega), if_pos rfl, hc 1 (by omega)]; rfl
    · rw [if_neg (by omega), if_pos rfl, hc 2 (by omega)]; rfl
    · rw [if_pos rfl, hc 3 (by omega)]; rfl
  · rw [if_neg (by omega), if_neg (by omega), if_neg (by omega), if_neg (by omega)]
    unfold cellN R.setE
    by_cases h16 : j < 16
    · rw [if_pos h16, if_pos h16]
    · rw [if_neg h16, if_neg h16]
      by_cases h80 : j < 80
      · rw [if_pos h80, if_pos h80]
        simp only
        rw [if_neg (by omega)]
      · rw [if_neg h80, if_neg h80]
theorem NodeAt.setBits {b : Nat} {x : Node} (h : NodeAt w b x) (u : Nat) : NodeAt (w.setCell ⟨b, 80, none⟩ (.int .u16 u)) b (setBits x u) := by
  refine World.rowIs.congr (World.rowIs.set h 80 _) fun j hj => ?_
  unfold cellN R.setBits
  by_cases h80 : j = 80
  · subst h80; rfl
  · rw [if_neg h80]
    by_cases h16 : j < 16
    · rw [if_pos h16, if_pos h16]
    · rw [if_neg h16, if_neg h16]
      by_cases hl : j < 80
      · rw [if_pos hl, if_pos hl]
      · rw [if_neg hl, if_neg hl, if_neg h80, if_neg h80]
theorem NodeAt.setRefs {b : Nat} {x : Node} (h : NodeAt w b x) (u : Nat) : NodeAt (w.setCell ⟨b, 81, none⟩ (.int .i64 u)) b (setRefs x u) := by
  refine World.rowIs.congr (World.rowIs.set h 81 _) fun j hj => ?_
  unfold cellN R.setRefs
  by_cases h81 : j = 81
  · subst h81; rfl
  · rw [if_neg h81]
    by_cases h16 : j < 16
    · rw [if_pos h16, if_pos h16]
    · rw [if_neg h16, if_neg h16]
      by_cases hl : j < 80
      · rw [if_pos hl, if_pos hl]
      · rw [if_neg hl, if_neg hl, if_pos (by omega), if_pos (by omega)]
theorem NodeAt.setKid {b : Nat} {x : Node} (h : NodeAt w b x) (i k : Nat) (hi : i < 16) : NodeAt (w.setCell ⟨b, i, none⟩ (.int .i64 k)) b (setKid x i k) := by
  refine World.rowIs.congr (World.rowIs.set h i _) fun j hj => ?_
  unfold cellN R.setKid
  by_cases e : j = i
  · subst e
    rw [if_pos rfl, if_pos hi]
    simp
  · rw [if_neg e]
    by_cases h16 : j < 16
    · rw [if_pos h16, if_pos h16]; simp only [if_neg e]
    · rw [if_neg h16, if_neg h16]
end Go.Proofs.Ytmpbhoijkcanmaa.R
