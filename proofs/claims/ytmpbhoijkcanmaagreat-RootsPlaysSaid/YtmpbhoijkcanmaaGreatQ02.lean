/- Maps of pages, and versions of them: lemmas, part 2 of 23. -/
import Derived.ChangeKeysEq
import Derived.StillTailTactics
import Derived.Deep.RegionHeld3
import Derived.Deep.DeepCutAuto
import Derived.Deep.CutBlock
import Derived.Test.YtmpbhoijkcanmaaGreatQ01

/- Radix: nodes' functions: is a node empty; what changes a node. -/
namespace Go.Proofs.YtmpbhoijkcanmaaGreat.R
open Go.ChangeShapes Go.WideShapes Go.ChangeAt Go.RowKit Go.Maps Go.Proofs.YtmpbhoijkcanmaaGreat.G
set_option linter.unusedVariables false
set_option linter.unusedSimpArgs false
set_option linter.unnecessarySimpa false

variable {w w' : World}
/-! ### bits of 16 -/
theorem wrap16 (t : Nat) (ht : t < 16) : IntKind.u16.wrap (2 ^ t) = ((2 ^ t : Nat) : Int) := by
  have hp : 2 ^ t < 2 ^ 16 := Nat.pow_lt_pow_right (by omega) ht
  have : ((2 : Int) ^ t) = ((2 ^ t : Nat) : Int) := by rw [Int.natCast_pow]; rfl
  rw [this, IntKind.wrap_u16]
  generalize 2 ^ t = P at *
  omega
theorem or_lt (u t : Nat) (hu : u < 2 ^ 16) (ht : t < 16) : u ||| 2 ^ t < 2 ^ 16 := Nat.or_lt_two_pow hu (Nat.pow_lt_pow_right (by omega) ht)
theorem or_bit (u t : Nat) (hu : u < 2 ^ 16) (ht : t < 16) : bits BinOp.or IntKind.u16 (u : Int) (IntKind.u16.wrap (2 ^ t)) = ((u ||| 2 ^ t : Nat) : Int) := by
  have hp : 2 ^ t < 2 ^ 16 := Nat.pow_lt_pow_right (by omega) ht
  rw [wrap16 t ht]
  show IntKind.u16.wrap ((BitVec.ofInt 16 (u : Int) ||| BitVec.ofInt 16 ((2 ^ t : Nat) : Int)).toNat : Int) = _
  rw [BitVec.toNat_or, BitVec.ofInt_natCast, BitVec.ofInt_natCast, BitVec.toNat_ofNat, BitVec.toNat_ofNat, Nat.mod_eq_of_lt hu, Nat.mod_eq_of_lt hp, IntKind.wrap_u16]
  have := or_lt u t hu ht
  omega
def clr (u t : Nat) : Nat := u &&& (2 ^ 16 - (2 ^ t + 1))
theorem clr_lt (u t : Nat) (hu : u < 2 ^ 16) : clr u t < 2 ^ 16 := Nat.lt_of_le_of_lt Nat.and_le_left hu
theorem clr_bit (u t j : Nat) (hu : u < 2 ^ 16) (ht : t < 16) : (clr u t).testBit j = (u.testBit j && decide (j ≠ t)) := by
  have hp : 2 ^ t < 2 ^ 16 := Nat.pow_lt_pow_right (by omega) ht
  unfold clr
  rw [Nat.testBit_and, Nat.testBit_two_pow_sub_succ hp, Nat.testBit_two_pow]
  by_cases hj : j < 16
  · simp [hj, eq_comm]
  · have : u.testBit j = false := Nat.testBit_lt_two_pow (Nat.lt_of_lt_of_le hu (Nat.pow_le_pow_right (by omega) (by omega)))
    simp [this]
theorem andnot_bit (u t : Nat) (hu : u < 2 ^ 16) (ht : t < 16) : bits BinOp.andNot IntKind.u16 (u : Int) (IntKind.u16.wrap (2 ^ t)) = ((clr u t : Nat) : Int) := by
  have hp : 2 ^ t < 2 ^ 16 := Nat.pow_lt_pow_right (by omega) ht
  rw [wrap16 t ht]
  show IntKind.u16.wrap ((BitVec.ofInt 16 (u : Int) &&& ~~~ BitVec.ofInt 16 ((2 ^ t : Nat) : Int)).toNat : Int) = _
  rw [BitVec.toNat_and, BitVec.toNat_not, BitVec.ofInt_natCast, BitVec.ofInt_natCast, BitVec.toNat_ofNat, BitVec.toNat_ofNat, Nat.mod_eq_of_lt hu, Nat.mod_eq_of_lt hp, IntKind.wrap_u16]
  have := clr_lt u t hu
  unfold clr at *
  rw [show 2 ^ 16 - 1 - 2 ^ t = 2 ^ 16 - (2 ^ t + 1) by omega]
  omega
theorem bit_of (u t : Nat) (hu : u < 2 ^ 16) : bits BinOp.and IntKind.u16 ((u / 2 ^ t : Nat) : Int) 1 = if u.testBit t then 1 else 0 := by
  show IntKind.u16.wrap ((BitVec.ofInt 16 ((u / 2 ^ t : Nat) : Int) &&& BitVec.ofInt 16 ((1 : Nat) : Int)).toNat : Int) = _
  have hlt : u / 2 ^ t < 2 ^ 16 := Nat.lt_of_le_of_lt (Nat.div_le_self _ _) hu
  rw [BitVec.toNat_and, BitVec.ofInt_natCast, BitVec.ofInt_natCast, BitVec.toNat_ofNat, BitVec.toNat_ofNat, Nat.mod_eq_of_lt hlt, IntKind.wrap_u16]
  rw [Nat.and_one_is_mod, Nat.testBit_eq_decide_div_mod_eq]
  by_cases h : u / 2 ^ t % 2 = 1
  · simp [h]
  · have h0 : u / 2 ^ t % 2 = 0 := by omega
    simp [h0]

theorem bit_ofI (u t : Nat) (hu : u < 2 ^ 16) : bits BinOp.and IntKind.u16 ((u : Int) / 2 ^ t) 1 = if u.testBit t then 1 else 0 := by
  have e : ((u : Int) / 2 ^ t) = ((u / 2 ^ t : Nat) : Int) := by rw [Int.natCast_ediv, Int.natCast_pow]; rfl
  rw [e]
  exact bit_of u t hu

/-! ### rows of kids -/
def rowL (f : Nat → Nat) : List Value := (List.range 16).map fun j => Value.int .i64 (f j)
def rowA (f : Nat → Nat) : Array Value := (rowL f).toArray
theorem rowA_get (f : Nat → Nat) (j : Nat) (hj : j < 16) : (rowA f)[j]? = some (.int .i64 (f j)) := by
  unfold rowA rowL
  rw [List.getElem?_toArray, List.getElem?_map, List.getElem?_range hj]
  rfl
theorem NodeAt.kidsRange {b : Nat} {x : Node} (h : NodeAt w b x) : w.rangeAt b 0 (rowL x.kids) := by
  intro j v hv
  unfold rowL at hv
  have hj : j < 16 := by
    rcases Nat.lt_or_ge j 16 with h | h
    · exact h
    · rw [List.getElem?_eq_none (by simpa using h)] at hv; cases hv
  rw [List.getElem?_map, List.getElem?_range hj] at hv
  simp only [Option.map_some, Option.some.injEq] at hv
  rw [Nat.zero_add, h.kid j hj, hv]
theorem infoKids16 : (Tryz.prog.info? 112).map (·.size) = some 16 := by kernel_rfl
theorem infoKids (f : Nat → Nat) : (Tryz.prog.info? 112).map (·.size) = some (rowL f).length := by
  have : (rowL f).length = 16 := by unfold rowL; simp
  rw [this, infoKids16]
/-- a load of a row in the midst of a block, behind a guard that says yes -/
theorem wpList_load_g {P : Program} {ops : Array Oper} {rest : List Oper} {op : Oper} {a : Act} {w : World} {Q : Exit → Act → World → Prop} (hw : Region.wanted op (yielded ops a.tmps) = true) (ty : TypeId) (x : Operand) (ho : op.op = .load ty x)
    (b o : Nat) (hx : a.eval x = .pointer (some ⟨b, o, none⟩)) (cs : List Value) (d : TypeDesc) (hc : w.rangeAt b o cs)
    (hu : P.underlying ty = some d) (hd : d.isRow = true) (hi : (P.info? ty).map (·.size) = some cs.length)
    (h : wpList P ops Q rest (a.put op.dst (.agg cs.toArray)) w) : wpList P ops Q (op :: rest) a w :=
  BigFrame.wpList_want hw fun _ hK => wp_load_mid ty x ho b o hx cs d hc hu hd hi (hK _ _ h)
def noKids (f : Nat → Nat) : Bool := (List.range 16).all fun j => f j == 0
theorem infoI : ∃ i, Tryz.prog.info? 3 = some i ∧ Tryz.prog.cellsOf 3 = 1 := by
  have h : (Tryz.prog.info? 3).isSome = true := by kernel_rfl
  obtain ⟨i, hi⟩ := Option.isSome_iff_exists.1 h
  exact ⟨i, hi, by kernel_rfl⟩
theorem eqlKids (f : Nat → Nat) (w : World) : (Op.equalIn 10000 112 (.agg (rowA f)) (.agg (rowA fun _ => 0))).run Tryz.prog w = .ok (noKids f) w := by
  obtain ⟨i, hi, hc⟩ := infoI
  rw [run_equalIn_array w 9999 _ _ Tryz.underlying112 hi, hc]
  have key : ∀ l : List Nat, (∀ j ∈ l, j < 16) → (Op.eqItems 9999 3 1 (rowA f) (rowA fun _ => 0) l).run Tryz.prog w = .ok (l.all fun j => f j == 0) w := by
    intro l
    induction l with
    | nil => intro _; rfl
    | cons j l ih =>
      intro h
      have hj := h j (by simp)
      have p1 : (part 3 (rowA f) (j * 1)).run Tryz.prog w = .ok (.int .i64 (f j)) w := by
        simp [part, isAgg, run_underlying Tryz.underlying3, rowA_get f j hj]
      have p2 : (part 3 (rowA fun _ => 0) (j * 1)).run Tryz.prog w = .ok (.int .i64 0) w := by
        have := rowA_get (fun _ => 0) j hj
        simp [part, isAgg, run_underlying Tryz.underlying3, this]
      have p3 : (Op.equalIn 9999 3 (.int .i64 (f j)) (.int .i64 0)).run Tryz.prog w = .ok ((f j : Int) == 0) w := run_equalIn_int w 9998 3 .i64 .i64 _ _ Tryz.underlying3
      have e : ((f j : Int) == 0) = (f j == 0) := by rw [Bool.eq_iff_iff]; simp
      rw [e] at p3
      simp only [Op.eqItems, Sem.run_bind, p1, p2, p3, Result.andThen_ok, List.all_cons]
      cases hb : (f j == 0)
      · simp
      · simp only [Bool.not_true, Bool.false_eq_true, if_false, Bool.true_and, if_true]
        exact ih fun k hk => h k (by simp [hk])
  exact key _ (fun j hj => List.mem_range.1 hj)
def emptyB (x : Node) : Bool := x.bits == 0 && noKids x.kids
set_option maxRecDepth 100000 in
theorem empty_fn (b : Nat) (x : Node) (w : World) (h : NodeAt w b x) : Calls Tryz.prog 87 #[.pointer (some ⟨b, 0, none⟩)] w fun e w' => e = .returned (.bool (emptyB x)) ∧ w = w' := by
  have c80 := h.bits
  have HK := Lib.hid h.kidsRange
  have HI := Lib.hid (infoKids x.kids)
  have he := eqlKids x.kids w
  rw [show rowA (fun _ => 0) = #[.int .i64 0, .int .i64 0, .int .i64 0, .int .i64 0, .int .i64 0, .int .i64 0, .int .i64 0, .int .i64 0, .int .i64 0, .int .i64 0, .int .i64 0, .int .i64 0, .int .i64 0, .int .i64 0, .int .i64 0, .int .i64 0] from rfl] at he
  have e0 : ((x.bits : Int) == 0) = (x.bits == 0) := by rw [Bool.eq_iff_iff]; simp
  unfold emptyB
  unfold rowA at he
  generalize rowL x.kids = A at *
  generalize noKids x.kids = B at *
  generalize x.bits = u at *
  clear h
  cases hu : (u == 0)
  · rw [hu] at e0
    clear hu
    go_enter Tryz.func87, Tryz.ntmps87
    go_wp2
    go_ret
    exact ⟨rfl, rfl⟩
  · rw [hu] at e0
    clear hu
    go_enter Tryz.func87, Tryz.ntmps87
    go_wp2_with (first
      | (refine wpList_load_g (by rfl) 112 _ (by rfl) b 0 (by rfl) A _ HK.out Tryz.underlying112 (by rfl) HI.out ?_))
    go_ret
    exact ⟨rfl, rfl⟩

/-! ### what changes a node -/
def setE (x : Node) (i : Nat) (e : Ent) : Node := { x with ents := fun j => if j = i then e else x.ents j }
def setLeaf (x : Node) (i : Nat) (e : Ent) : Node := { x with ents := fun j => if j = i then e else x.ents j, bits := x.bits ||| 2 ^ i }
def clearLeaf (x : Node) (i : Nat) : Node := { x with ents := fun j => if j = i then zeroE else x.ents j, bits := clr x.bits i }
def setKid (x : Node) (i k : Nat) : Node := { x with kids := fun j => if j = i then k else x.kids j }
def setBits (x : Node) (u : Nat) : Node := { x with bits := u }
def setRefs (x : Node) (n : Nat) : Node := { x with refs := n }
theorem cellN_ent (x : Node) (i j : Nat) (hi : i < 16) (hj : j < 4) : cellN x (16 + i * 4 + j) = entCell (x.ents i) j := by
  unfold cellN
  rw [if_neg (by omega), if_pos (by omega), show (16 + i * 4 + j - 16) / 4 = i by omega, show (16 + i * 4 + j - 16) % 4 = j by omega]
theorem NodeAt.setE {b : Nat} {x : Node} (h : NodeAt w b x) (i : Nat) (hi : i < 16) (e : Ent) :
    NodeAt ((((w.setCell ⟨b, 16 + i * 4, none⟩ (.int .i64 e.s.e)).setCell ⟨b, 16 + i * 4 + 1, none⟩ (.int .i64 e.s.c)).setCell ⟨b, 16 + i * 4 + 2, none⟩ (.int .i64 e.s.i)).setCell ⟨b, 16 + i * 4 + 3, none⟩ (.int .i64 e.g)) b (setE x i e) := by
  refine World.rowIs.congr ((((World.rowIs.set h (16 + i * 4) _).set (16 + i * 4 + 1) _).set (16 + i * 4 + 2) _).set (16 + i * 4 + 3) _) fun j hj => ?_
  by_cases hr : 16 + i * 4 ≤ j ∧ j < 16 + i * 4 + 4
  · have h4 : j = 16 + i * 4 ∨ j = 16 + i * 4 + 1 ∨ j = 16 + i * 4 + 2 ∨ j = 16 + i * 4 + 3 := by omega
    have hd : (j - 16) / 4 = i := by omega
    have hc : ∀ k, k < 4 → cellN (R.setE x i e) (16 + i * 4 + k) = entCell e k := fun k hk => by
      rw [cellN_ent _ i k hi hk]
      show entCell (if i = i then e else x.ents i) k = _
      rw [if_pos rfl]
    rcases h4 with rfl | rfl | rfl | rfl
    · rw [if_neg (by omega), if_neg (by omega), if_neg (by omega), if_pos rfl, show cellN (R.setE x i e) (16 + i * 4) = entCell e 0 from hc 0 (by omega)]; rfl
    · rw [if_neg (by omega), if_neg (by omega), if_pos rfl, hc 1 (by omega)]; rfl
    · rw [if_neg (by omega), if_pos rfl, hc 2 (by omega)]; rfl
    · rw [if_pos rfl, hc 3 (by omega)]; rfl
  · rw [if_neg (by omega), if_neg (by omega), if_neg (by omega), if_neg (by omega)]
    unfold cellN R.setE
    by_cases h16 : j < 16
    · rw [if_pos h16, if_pos h16]
    · rw [if_neg h16, if_neg h16]
      by_cases h80 : j < 80
      · rw [if_pos h80, if_pos h80]
        simp only
        rw [if_neg (by omega)]
      · rw [if_neg h80, if_neg h80]
theorem NodeAt.setBits {b : Nat} {x : Node} (h : NodeAt w b x) (u : Nat) : NodeAt (w.setCell ⟨b, 80, none⟩ (.int .u16 u)) b (setBits x u) := by
  refine World.rowIs.congr (World.rowIs.set h 80 _) fun j hj => ?_
  unfold cellN R.setBits
  by_cases h80 : j = 80
  · subst h80; rfl
  · rw [if_neg h80]
    by_cases h16 : j < 16
    · rw [if_pos h16, if_pos h16]
    · rw [if_neg h16, if_neg h16]
      by_cases hl : j < 80
      · rw [if_pos hl, if_pos hl]
      · rw [if_neg hl, if_neg hl, if_neg h80, if_neg h80]
theorem NodeAt.setRefs {b : Nat} {x : Node} (h : NodeAt w b x) (u : Nat) : NodeAt (w.setCell ⟨b, 81, none⟩ (.int .i64 u)) b (setRefs x u) := by
  refine World.rowIs.congr (World.rowIs.set h 81 _) fun j hj => ?_
  unfold cellN R.setRefs
  by_cases h81 : j = 81
  · subst h81; rfl
  · rw [if_neg h81]
    by_cases h16 : j < 16
    · rw [if_pos h16, if_pos h16]
    · rw [if_neg h16, if_neg h16]
      by_cases hl : j < 80
      · rw [if_pos hl, if_pos hl]
      · rw [if_neg hl, if_neg hl, if_pos (by omega), if_pos (by omega)]
theorem NodeAt.setKid {b : Nat} {x : Node} (h : NodeAt w b x) (i k : Nat) (hi : i < 16) : NodeAt (w.setCell ⟨b, i, none⟩ (.int .i64 k)) b (setKid x i k) := by
  refine World.rowIs.congr (World.rowIs.set h i _) fun j hj => ?_
  unfold cellN R.setKid
  by_cases e : j = i
  · subst e
    rw [if_pos rfl, if_pos hi]
    simp
  · rw [if_neg e]
    by_cases h16 : j < 16
    · rw [if_pos h16, if_pos h16]; simp only [if_neg e]
    · rw [if_neg h16, if_neg h16]
end Go.Proofs.YtmpbhoijkcanmaaGreat.R

/- Radix: what changes a node. -/
namespace Go.Proofs.YtmpbhoijkcanmaaGreat.R
open Go.ChangeShapes Go.WideShapes Go.ChangeAt Go.RowKit Go.Maps Go.Proofs.YtmpbhoijkcanmaaGreat.G
set_option linter.unusedVariables false
set_option linter.unusedSimpArgs false
set_option linter.unnecessarySimpa false

variable {w w' : World}
/-- a variable that holds an entry -/
structure EntAt (w : World) (b : Nat) (e : Ent) : Prop where
  c0 : w.cell? ⟨b, 0, none⟩ = some (.int .i64 e.s.e)
  c1 : w.cell? ⟨b, 1, none⟩ = some (.int .i64 e.s.c)
  c2 : w.cell? ⟨b, 2, none⟩ = some (.int .i64 e.s.i)
  c3 : w.cell? ⟨b, 3, none⟩ = some (.int .i64 e.g)
theorem EntAt.turned {b : Nat} {e : Ent} (h : EntAt w b e) {S : List Nat} (t : Turned S w w') (h0 : b ∉ S) : EntAt w' b e := ⟨t.cell h.c0 h0, t.cell h.c1 h0, t.cell h.c2 h0, t.cell h.c3 h0⟩
/-- a node is changed -/
def chgPost (b : Nat) (x : Node) (w : World) (e : Ending) (w' : World) : Prop := e = .returned (.tuple #[]) ∧ NodeAt w' b x ∧ Turned [b] w w'
set_option maxRecDepth 100000 in
theorem setc_fn (b be i : Nat) (x : Node) (e : Ent) (hi : i < 16) (hu : x.bits < 2 ^ 16) (w : World) (h : NodeAt w b x) (hb : EntAt w be e) :
    Calls Tryz.prog 56 #[.pointer (some ⟨b, 0, none⟩), .int .i64 (i : Nat), .pointer (some ⟨be, 0, none⟩)] w (chgPost b (setLeaf x i e) w) := by
  obtain ⟨b0, b1, b2, b3⟩ := hb
  have hd : NodeAt w.drew b x := h.turned (Turned.refl [] w).drew (by simp)
  have k0 := hd.ent i 0 hi (by omega)
  have k1 := hd.ent i 1 hi (by omega)
  have k2 := hd.ent i 2 hi (by omega)
  have k3 := hd.ent i 3 hi (by omega)
  have f0 := hd.frozen (16 + i * 4)
  have f1 := hd.frozen (16 + i * 4 + 1)
  have f2 := hd.frozen (16 + i * 4 + 2)
  have f3 := hd.frozen (16 + i * 4 + 3)
  have HN2 := Lib.hid (hd.setE i hi e)
  have HT2 : Hid (Turned [b] w ((((w.drew.setCell ⟨b, 16 + i * 4, none⟩ (.int .i64 e.s.e)).setCell ⟨b, 16 + i * 4 + 1, none⟩ (.int .i64 e.s.c)).setCell ⟨b, 16 + i * 4 + 2, none⟩ (.int .i64 e.s.i)).setCell ⟨b, 16 + i * 4 + 3, none⟩ (.int .i64 e.g))) :=
    (((((Turned.refl [b] w).drew).setCell (p := ⟨b, 16 + i * 4, none⟩) (.inl (by simp)) _).setCell (p := ⟨b, 16 + i * 4 + 1, none⟩) (.inl (by simp)) _).setCell (p := ⟨b, 16 + i * 4 + 2, none⟩) (.inl (by simp)) _).setCell (p := ⟨b, 16 + i * 4 + 3, none⟩) (.inl (by simp)) _
  have HO : Hid (bits BinOp.or IntKind.u16 (x.bits : Int) (IntKind.u16.wrap (2 ^ i)) = ((x.bits ||| 2 ^ i : Nat) : Int)) := or_bit x.bits i hu hi
  have hi0 : (0 : Int) ≤ (i : Int) := by omega
  have hi1 : (i : Int) < 16 := by omega
  obtain ⟨⟨ee, ec, ei⟩, eg⟩ := e
  simp only at b0 b1 b2 b3 HN2 HT2
  simp only [Nat.add_zero] at k0
  clear h hd
  generalize entCell (x.ents i) 0 = v0 at *
  generalize entCell (x.ents i) 1 = v1 at *
  generalize entCell (x.ents i) 2 = v2 at *
  generalize entCell (x.ents i) 3 = v3 at *
  go_enter Tryz.func56, Tryz.ntmps56
  go_wp2
  go_still_tail 6, (by kernel_rfl)
  change wpList _ _ _ _ _ w.drew
  obtain ⟨wd, hwd⟩ : ∃ wd, w.drew = wd := ⟨_, rfl⟩
  rw [hwd] at k0 k1 k2 k3 f0 f1 f2 f3 HN2 HT2
  rw [hwd]
  clear hwd b0 b1 b2 b3
  go_wp2
  clear k0 k1 k2 k3 f0 f1 f2 f3
  generalize (((wd.setCell ⟨b, 16 + i * 4, none⟩ (.int .i64 ee)).setCell ⟨b, 16 + i * 4 + 1, none⟩ (.int .i64 ec)).setCell ⟨b, 16 + i * 4 + 2, none⟩ (.int .i64 ei)).setCell ⟨b, 16 + i * 4 + 3, none⟩ (.int .i64 eg) = w2 at *
  have c1 := HN2.out.bits
  have g1 := HN2.out.frozen 80
  have d1 := (HN2.out.turned (Turned.refl [] w2).drew (by simp)).bits
  have q1 := (HN2.out.turned (Turned.refl [] w2).drew (by simp)).frozen 80
  have HN3 := Lib.hid ((HN2.out.turned (Turned.refl [] w2).drew (by simp)).setBits (x.bits ||| 2 ^ i))
  have HT3 : Hid (Turned [b] w (w2.drew.setCell ⟨b, 80, none⟩ (.int .u16 ((x.bits ||| 2 ^ i : Nat) : Int)))) := (HT2.out.drew).setCell (p := ⟨b, 80, none⟩) (.inl (by simp)) _
  rw [show (setE x i ⟨⟨ee, ec, ei⟩, eg⟩).bits = x.bits from rfl] at c1 d1
  have ho := HO.out
  go_still_tail 9, (by kernel_rfl)
  change wpList _ _ _ _ _ w2.drew
  obtain ⟨wd2, hwd⟩ : ∃ wd, w2.drew = wd := ⟨_, rfl⟩
  rw [hwd] at d1 q1 HN3 HT3
  rw [hwd]
  clear hwd c1 g1
  go_wp2
  go_end0
  exact ⟨rfl, HN3.out, HT3.out⟩

set_option maxRecDepth 100000 in
theorem clearc_fn (b i : Nat) (x : Node) (hi : i < 16) (hu : x.bits < 2 ^ 16) (w : World) (h : NodeAt w b x) :
    Calls Tryz.prog 55 #[.pointer (some ⟨b, 0, none⟩), .int .i64 (i : Nat)] w (chgPost b (clearLeaf x i) w) := by
  have k0 := h.ent i 0 hi (by omega)
  have k1 := h.ent i 1 hi (by omega)
  have k2 := h.ent i 2 hi (by omega)
  have k3 := h.ent i 3 hi (by omega)
  have f0 := h.frozen (16 + i * 4)
  have f1 := h.frozen (16 + i * 4 + 1)
  have f2 := h.frozen (16 + i * 4 + 2)
  have f3 := h.frozen (16 + i * 4 + 3)
  have HN2 := Lib.hid (h.setE i hi zeroE)
  have HT2 : Hid (Turned [b] w ((((w.setCell ⟨b, 16 + i * 4, none⟩ (.int .i64 zeroE.s.e)).setCell ⟨b, 16 + i * 4 + 1, none⟩ (.int .i64 zeroE.s.c)).setCell ⟨b, 16 + i * 4 + 2, none⟩ (.int .i64 zeroE.s.i)).setCell ⟨b, 16 + i * 4 + 3, none⟩ (.int .i64 zeroE.g))) :=
    ((((Turned.refl [b] w).setCell (p := ⟨b, 16 + i * 4, none⟩) (.inl (by simp)) _).setCell (p := ⟨b, 16 + i * 4 + 1, none⟩) (.inl (by simp)) _).setCell (p := ⟨b, 16 + i * 4 + 2, none⟩) (.inl (by simp)) _).setCell (p := ⟨b, 16 + i * 4 + 3, none⟩) (.inl (by simp)) _
  have HO : Hid (bits BinOp.andNot IntKind.u16 (x.bits : Int) (IntKind.u16.wrap (2 ^ i)) = ((clr x.bits i : Nat) : Int)) := andnot_bit x.bits i hu hi
  have hi0 : (0 : Int) ≤ (i : Int) := by omega
  have hi1 : (i : Int) < 16 := by omega
  simp only [zeroE] at HN2 HT2
  simp only [Nat.add_zero] at k0
  clear h
  generalize entCell (x.ents i) 0 = v0 at *
  generalize entCell (x.ents i) 1 = v1 at *
  generalize entCell (x.ents i) 2 = v2 at *
  generalize entCell (x.ents i) 3 = v3 at *
  go_enter Tryz.func55, Tryz.ntmps55
  go_upto_region 1 with fail
  clear k0 k1 k2 k3 f0 f1 f2 f3
  generalize (((w.setCell ⟨b, 16 + i * 4, none⟩ (.int .i64 0)).setCell ⟨b, 16 + i * 4 + 1, none⟩ (.int .i64 0)).setCell ⟨b, 16 + i * 4 + 2, none⟩ (.int .i64 0)).setCell ⟨b, 16 + i * 4 + 3, none⟩ (.int .i64 0) = w2 at *
  have c1 := HN2.out.bits
  have g1 := HN2.out.frozen 80
  have d1 := (HN2.out.turned (Turned.refl [] w2).drew (by simp)).bits
  have q1 := (HN2.out.turned (Turned.refl [] w2).drew (by simp)).frozen 80
  have HN3 := Lib.hid ((HN2.out.turned (Turned.refl [] w2).drew (by simp)).setBits (clr x.bits i))
  have HT3 : Hid (Turned [b] w (w2.drew.setCell ⟨b, 80, none⟩ (.int .u16 ((clr x.bits i : Nat) : Int)))) := (HT2.out.drew).setCell (p := ⟨b, 80, none⟩) (.inl (by simp)) _
  rw [show (setE x i ⟨⟨0, 0, 0⟩, 0⟩).bits = x.bits from rfl] at c1 d1
  have ho := HO.out
  go_still_tail 9, (by kernel_rfl)
  change wpList _ _ _ _ _ w2.drew
  obtain ⟨wd2, hwd⟩ : ∃ wd, w2.drew = wd := ⟨_, rfl⟩
  rw [hwd] at d1 q1 HN3 HT3
  rw [hwd]
  clear hwd c1 g1
  go_wp2
  go_end0
  exact ⟨rfl, HN3.out, HT3.out⟩

set_option maxRecDepth 100000 in
theorem alongb_fn (b bk bi i k : Nat) (x : Node) (hi : i < 16) (w : World) (h : NodeAt w b x) (hk : w.cell? ⟨bk, 0, none⟩ = some (.int .i64 (k : Nat))) (hb : w.cell? ⟨bi, 0, none⟩ = some (.int .i64 (i : Nat))) :
    Calls Tryz.prog 69 #[.pointer (some ⟨b, 0, none⟩), .pointer (some ⟨bk, 0, none⟩), .pointer (some ⟨bi, 0, none⟩)] w (chgPost b (setKid x i k) w) := by
  have hd : NodeAt w.drew b x := h.turned (Turned.refl [] w).drew (by simp)
  have k0 := hd.kid i hi
  have f0 := hd.frozen i
  have HN2 := Lib.hid (hd.setKid i k hi)
  have HT2 : Hid (Turned [b] w (w.drew.setCell ⟨b, i, none⟩ (.int .i64 (k : Nat)))) := ((Turned.refl [b] w).drew).setCell (p := ⟨b, i, none⟩) (.inl (by simp)) _
  have hi0 : (0 : Int) ≤ (i : Int) := by omega
  have hi1 : (i : Int) < 16 := by omega
  clear h hd
  go_enter Tryz.func69, Tryz.ntmps69
  go_wp2
  go_still_tail 6, (by kernel_rfl)
  change wpList _ _ _ _ _ w.drew
  obtain ⟨wd, hwd⟩ : ∃ wd, w.drew = wd := ⟨_, rfl⟩
  rw [hwd] at k0 f0 HN2 HT2
  rw [hwd]
  clear hwd hk hb
  go_wp2
  go_end0
  exact ⟨rfl, HN2.out, HT2.out⟩

/-- what is done to a leaf -/
inductive Chg where
  | set (be : Nat) (e : Ent)
  | clear
def Chg.val : Chg → Value
  | .set be _ => .func (.func 56) #[] #[.pointer (some ⟨be, 0, none⟩)]
  | .clear => .func (.func 55) #[] #[]
def Chg.At (w : World) : Chg → Prop
  | .set be e => EntAt w be e
  | .clear => True
def Chg.app (x : Node) (i : Nat) : Chg → Node
  | .set _ e => setLeaf x i e
  | .clear => clearLeaf x i
def Chg.far (S : List Nat) : Chg → Prop
  | .set be _ => be ∉ S
  | .clear => True
theorem Chg.At.turned {c : Chg} (h : c.At w) {S : List Nat} (t : Turned S w w') (h0 : c.far S) : c.At w' := by
  cases c with
  | set be e => exact EntAt.turned h t h0
  | clear => trivial
set_option maxRecDepth 100000 in
theorem alonga_fn (b bc bi i : Nat) (c : Chg) (x : Node) (hi : i < 16) (hu : x.bits < 2 ^ 16) (w : World) (h : NodeAt w b x) (hc : c.At w) (hk : w.cell? ⟨bc, 0, none⟩ = some c.val) (hb : w.cell? ⟨bi, 0, none⟩ = some (.int .i64 (i : Nat))) :
    Calls Tryz.prog 68 #[.pointer (some ⟨b, 0, none⟩), .pointer (some ⟨bc, 0, none⟩), .pointer (some ⟨bi, 0, none⟩)] w (chgPost b (c.app x i) w) := by
  cases c with
  | set be e =>
    have C := Lib.hid (setc_fn b be i x e hi hu w h hc)
    unfold Chg.val at hk
    clear h hc
    go_enter Tryz.func68, Tryz.ntmps68
    go_wp2_with (go_at_call 56; ((with_reducible refine C.out.mono ?_); rintro e ww ⟨rfl, h1, h2⟩; have H := Lib.hid (And.intro h1 h2); clear h1 h2))
    go_end0
    exact ⟨rfl, H.out.1, H.out.2⟩
  | clear =>
    have C := Lib.hid (clearc_fn b i x hi hu w h)
    unfold Chg.val at hk
    clear h hc
    go_enter Tryz.func68, Tryz.ntmps68
    go_wp2_with (go_at_call 55; ((with_reducible refine C.out.mono ?_); rintro e ww ⟨rfl, h1, h2⟩; have H := Lib.hid (And.intro h1 h2); clear h1 h2))
    go_end0
    exact ⟨rfl, H.out.1, H.out.2⟩
end Go.Proofs.YtmpbhoijkcanmaaGreat.R

/- Maps as lists of entries: an entry that is found, or laid, and then stored ('m[k]++'). -/
namespace Go.Proofs.YtmpbhoijkcanmaaGreat.G
open Go.ChangeMaps (setBlock)
open Go.RowKit Go.Maps Go.WideMaps
set_option linter.unusedVariables false
set_option linter.unusedSimpArgs false
set_option linter.unusedSectionVars false

section
variable {α : Type} [DecidableEq α] {P : Program} {kt : TypeId} {enc : α → Value} {w w' : World} {b : Nat} {l : List (α × Value)}
/-- a key is there, with a value z if it was not -/
def mtouch (l : List (α × Value)) (a : α) (z : Value) : List (α × Value) := if (mget l a).isSome then l else l ++ [(a, z)]
theorem look_touch (l : List (α × Value)) (a : α) (z : Value) : (mget (mtouch l a z) a).getD z = (mget l a).getD z := by
  unfold mtouch
  cases h : mget l a with
  | some v => simp [h]
  | none => simp [look_append, h, look_cons]
theorem put_touch (l : List (α × Value)) (a : α) (z u : Value) (hnd : (l.map (·.1)).Nodup) : mput (mtouch l a z) a u = mput l a u := by
  unfold mtouch
  cases h : mget l a with
  | some v => simp
  | none =>
    unfold mput
    rw [any_iff, any_iff]
    have hn := look_none.1 h
    simp only [Option.isSome_none, Bool.false_eq_true, if_false, h]
    rw [look_append, h]
    simp only [Option.none_or, look_cons, if_true, Option.isSome_some]
    rw [List.map_append]
    congr 1
    · conv => rhs; rw [← List.map_id l]
      apply List.map_congr_left
      intro p hp
      rw [if_neg (hn p hp)]; rfl
    · simp
theorem born_idx {E : Array MapEntry} (hbd : (E.toList.map (·.born)).Nodup) {j : Nat} {e : MapEntry} (he : E[j]? = some e) : E.findIdx? (fun x => (x.born : Int) == (e.born : Int)) = some j := by
  have hj : j < E.size := by
    rcases Nat.lt_or_ge j E.size with q | q
    · exact q
    · simp [Array.getElem?_eq_none q] at he
  rw [Array.findIdx?_eq_some_iff_getElem]
  have hej : E[j] = e := by simpa [hj] using he
  refine ⟨hj, by rw [hej]; simp, fun k hk => ?_⟩
  have hkE : k < E.size := by omega
  simp only [beq_iff_eq]
  intro hbk
  have h1 : (E.toList.map (·.born))[k]'(by simpa using hkE) = (E.toList.map (·.born))[j]'(by simpa using hj) := by
    simp only [List.getElem_map, Array.getElem_toList]
    rw [hej]; omega
  have := (List.getElem_inj hbd).1 h1
  omega
theorem modify_val (E : Array MapEntry) (j : Nat) (v : Value) : (E.modify j fun e => { e with val := v }).toList.map (fun e => (e.key, e.val)) = match E[j]? with | some e => (E.toList.map (fun e => (e.key, e.val))).set j (e.key, v) | none => E.toList.map (fun e => (e.key, e.val)) := by
  cases hj : E[j]? with
  | none =>
    have hge : E.size ≤ j := by
      rcases Nat.lt_or_ge j E.size with q | q
      · simp [q] at hj
      · exact q
    simp only
    apply List.ext_getElem?
    intro i
    rw [List.getElem?_map, List.getElem?_map, Array.getElem?_toList, Array.getElem?_toList, Array.getElem?_modify]
    by_cases h : j = i
    · subst h; simp [hj]
    · rw [if_neg h]
  | some e =>
    simp only
    apply List.ext_getElem?
    intro i
    rw [List.getElem?_map, Array.getElem?_toList, Array.getElem?_modify, List.getElem?_set, List.getElem?_map, List.length_map, Array.length_toList]
    by_cases h : j = i
    · subst h
      have hl : j < E.size := by
        rcases Nat.lt_or_ge j E.size with q | q
        · exact q
        · simp [Array.getElem?_eq_none q] at hj
      rw [if_pos rfl, if_pos rfl, if_pos hl, hj]; rfl
    · rw [if_neg h, if_neg h]; simp
theorem modify_valborn (E : Array MapEntry) (j : Nat) (v : Value) : (E.modify j fun e => { e with val := v }).toList.map (·.born) = E.toList.map (·.born) := by
  apply List.ext_getElem?
  intro i
  rw [List.getElem?_map, Array.getElem?_toList, Array.getElem?_modify, List.getElem?_map, Array.getElem?_toList]
  by_cases h : j = i
  · subst h; simp; rfl
  · rw [if_neg h]
theorem modify_key (E : Array MapEntry) (j : Nat) (key : Value) {e : MapEntry} (he : E[j]? = some e) (hk : e.key = key) : (E.modify j fun e => { e with key }).toList = E.toList := by
  apply List.ext_getElem?
  intro i
  rw [Array.getElem?_toList, Array.getElem?_modify, Array.getElem?_toList]
  by_cases h : j = i
  · subst h; rw [if_pos rfl, he]; subst hk; rfl
  · rw [if_neg h]

/-- 'm[k]' as a place: the entry is found, or laid; then a value is stored into it -/
theorem MapIs.run_entry (h : MapIs P kt enc w b l) (K : Keyed P kt) (hinj : ∀ a c, enc a = enc c → a = c) {t et : TypeId} (ht : P.underlying t = some (.map kt et)) {z : Value} (hz : ∀ w, (zeroValue et).run P w = .ok z w) (a : α) {x : Lit} (ha : keyOf P kt (enc a) = some x) :
    ∃ w' n, (Instr.mapEntry t (.map (some b)) (enc a)).run P w = .ok (.tuple #[(mget l a).getD z, .int .i64 n]) w' ∧ MapIs P kt enc w' b (mtouch l a z) ∧ Turned [b] w w' ∧
      ∀ u, ∃ w2, (Instr.entryStore t (.map (some b)) (.int .i64 n) u).run P w' = .ok () w2 ∧ MapIs P kt enc w2 b (mput l a u) ∧ Turned [b] w' w2 := by
  obtain ⟨E, clock, hb, h2, hnd, hk, hbn, hbd⟩ := h
  have store : ∀ (w' : World) (E' : Array MapEntry) (clock' j : Nat) (e : MapEntry) (l' : List (α × Value)), w'.heap[b]? = some (.map E' clock') → E'.toList.map (fun e => (e.key, e.val)) = l'.map (fun p => (enc p.1, p.2)) → (l'.map (·.1)).Nodup →
      (∀ p ∈ l', ∃ x, keyOf P kt (enc p.1) = some x) → (∀ e ∈ E'.toList, e.born < clock') → (E'.toList.map (·.born)).Nodup → E'[j]? = some e → e.key = enc a → (∃ v, l'[j]? = some (a, v)) →
      ∀ u, ∃ w2, (Instr.entryStore t (.map (some b)) (.int .i64 e.born) u).run P w' = .ok () w2 ∧ MapIs P kt enc w2 b (mput l' a u) ∧ Turned [b] w' w2 := by
    intro w' E' clock' j e l' hb' h2' hnd' hk' hbn' hbd' he hek ⟨v, hlj⟩ u
    refine ⟨setBlock w' b (.map (E'.modify j fun e => { e with val := u }) clock'), ?_, ?_, (Turned.refl _ _).laid (.inl (by simp)) _⟩
    · simp [Instr.entryStore, MapKept.run_getObj_map hb', asInt, asIntOf, born_idx hbd' he, MapKept.run_setObj_map _ hb', Result.andThen, setBlock]
    · refine ⟨_, _, set_at hb', ?_, nodup_put hnd' a u, ?_, ?_, ?_⟩
      · rw [modify_val, he, put_at hnd' hlj u, List.map_set]
        simp only
        rw [h2', hek]
      · intro p hp
        rw [put_at hnd' hlj u] at hp
        rcases List.mem_or_eq_of_mem_set hp with hp | rfl
        · exact hk' p hp
        · exact ⟨x, ha⟩
      · intro y hy
        have : y.born ∈ (E'.modify j fun e => { e with val := u }).toList.map (·.born) := List.mem_map_of_mem hy
        rw [modify_valborn] at this
        obtain ⟨z, hz, hzb⟩ := List.mem_map.1 this
        rw [← hzb]; exact hbn' z hz
      · rw [modify_valborn]; exact hbd'
  rcases find_pos K hinj h2 hnd hk w a ha with ⟨f1, f2⟩ | ⟨j, u, f1, f2, f3⟩
  · have ht' : mtouch l a z = l ++ [(a, z)] := by unfold mtouch; rw [f2]; rfl
    have hp2 : (E.push ⟨enc a, z, clock⟩).toList.map (fun e => (e.key, e.val)) = (l ++ [(a, z)]).map (fun p => (enc p.1, p.2)) := by simp [h2]
    have hnd2 : ((l ++ [(a, z)]).map (·.1)).Nodup := by
      have := nodup_put hnd a z
      rwa [show mput l a z = l ++ [(a, z)] by unfold mput; rw [any_iff, f2]; rfl] at this
    have hk2 : ∀ p ∈ l ++ [(a, z)], ∃ x, keyOf P kt (enc p.1) = some x := by
      intro p hp
      rcases List.mem_append.1 hp with hp | hp
      · exact hk p hp
      · simp only [List.mem_singleton] at hp; subst hp; exact ⟨x, ha⟩
    have hbn2 : ∀ e ∈ (E.push ⟨enc a, z, clock⟩).toList, e.born < clock + 1 := by
      intro e he
      simp only [Array.toList_push, List.mem_append, List.mem_singleton] at he
      rcases he with he | rfl
      · have := hbn e he; omega
      · simp
    have hbd2 : ((E.push ⟨enc a, z, clock⟩).toList.map (·.born)).Nodup := by
      simp only [Array.toList_push, List.map_append, List.map_cons, List.map_nil, List.nodup_append]
      refine ⟨hbd, by simp, fun y hy z hz => ?_⟩
      obtain ⟨e, he, rfl⟩ := List.mem_map.1 hy
      simp only [List.mem_singleton] at hz
      have := hbn e he
      omega
    have hlen : E.size = l.length := by have := congrArg List.length h2; simpa using this
    refine ⟨setBlock w b (.map (E.push ⟨enc a, z, clock⟩) (clock + 1)), clock, ?_, ?_, (Turned.refl _ _).laid (.inl (by simp)) _, ?_⟩
    · simp [Instr.mapEntry, run_underlying ht, MapKept.run_getObj_map hb, K.check w _ ha, f1, f2, hz, MapKept.run_setObj_map _ hb, Result.andThen, setBlock, goInt]
    · rw [ht']; exact ⟨_, _, set_at hb, hp2, hnd2, hk2, hbn2, hbd2⟩
    · intro u
      have := store _ _ _ E.size ⟨enc a, z, clock⟩ _ (set_at hb) hp2 hnd2 hk2 hbn2 hbd2 (by simp) rfl ⟨z, by rw [hlen]; simp⟩ u
      rw [← ht', put_touch l a z u hnd] at this
      exact this
  · have hj : j < l.length := by rcases Nat.lt_or_ge j l.length with q | q; exact q; simp [List.getElem?_eq_none q] at f2
    have hlen : E.toList.length = l.length := by have := congrArg List.length h2; simpa using this
    have hej : ∃ e, E[j]? = some e ∧ e.key = enc a ∧ e.val = u := by
      have hjE : j < E.size := by rw [Array.length_toList] at hlen; omega
      refine ⟨E[j], by simp [hjE], ?_⟩
      have := congrArg (·[j]?) h2
      simp only [List.getElem?_map, f2, Array.getElem?_toList] at this
      simp [hjE] at this
      exact this
    obtain ⟨e, he, hek, hev⟩ := hej
    have ht' : mtouch l a z = l := by unfold mtouch; rw [f3]; rfl
    have hl2 := modify_key E j (enc a) he hek
    have he2 : (E.modify j fun e => { e with key := enc a })[j]? = some e := by
      have := congrArg (·[j]?) hl2
      simp only [Array.getElem?_toList] at this
      rw [this, he]
    refine ⟨setBlock w b (.map (E.modify j fun e => { e with key := enc a }) clock), e.born, ?_, ?_, (Turned.refl _ _).laid (.inl (by simp)) _, ?_⟩
    · simp [Instr.mapEntry, run_underlying ht, MapKept.run_getObj_map hb, K.check w _ ha, f1, f3, he, hek, K.stays w ha, MapKept.run_setObj_map _ hb, Result.andThen, setBlock, goInt]
    · rw [ht']; exact ⟨_, _, set_at hb, by rw [hl2]; exact h2, hnd, hk, by rw [hl2]; exact hbn, by rw [hl2]; exact hbd⟩
    · intro v
      have := store _ _ _ j e l (set_at hb) (by rw [hl2]; exact h2) hnd hk (by rw [hl2]; exact hbn) (by rw [hl2]; exact hbd) he2 hek ⟨u, f2⟩ v
      exact this
end
end Go.Proofs.YtmpbhoijkcanmaaGreat.G

/- Radix: a node is added: what becomes of a forest; laws for whole nodes. -/
namespace Go.Proofs.YtmpbhoijkcanmaaGreat.R
open Go.ChangeShapes Go.WideShapes Go.ChangeAt Go.RowKit Go.Maps Go.Proofs.YtmpbhoijkcanmaaGreat.G
set_option linter.unusedVariables false
set_option linter.unusedSimpArgs false
set_option linter.unnecessarySimpa false

/-! ### laws -/
section
variable {P : Program} {ops : Array Oper} {rest : List Oper} {op : Oper} {a : Act} {w w' : World} {Q : Exit → Act → World → Prop}
theorem wpList_build_g (hg : op.guard = none) (t : TypeId) (ho : op.op = .build t #[]) (Z : Array Value) (hr : (Instr.build t #[]).run P w = .ok (.agg Z) w) (h : wpList P ops Q rest (a.put op.dst (.agg Z)) w) : wpList P ops Q (op :: rest) a w := by
  refine wpList_plain hg fun K' hK' => ?_
  unfold Oper.wp execOp
  simp [ho, hr, Result.andThen]
  exact hK' _ _ h
theorem wpList_box_g (hg : op.guard = none) (t : TypeId) (x : Operand) (ho : op.op = .box t x) (Z : Array Value) (hx : a.eval x = .agg Z) (b : Nat) (hr : (Instr.box t (.agg Z)).run P w = .ok (.pointer (some ⟨b, 0, none⟩)) w') (h : wpList P ops Q rest (a.put op.dst (.pointer (some ⟨b, 0, none⟩))) w') : wpList P ops Q (op :: rest) a w := by
  refine wpList_plain hg fun K' hK' => ?_
  unfold Oper.wp execOp
  simp [ho, hx, hr, Result.andThen]
  exact hK' _ _ h
theorem wpList_index_g (hg : op.guard = none) (t : TypeId) (x i : Operand) (ho : op.op = .index t x i) (u v n : Value) (hx : a.eval x = v) (hi : a.eval i = n) (hr : (Instr.index t v n).run P w = .ok u w) (h : wpList P ops Q rest (a.put op.dst u) w) : wpList P ops Q (op :: rest) a w := by
  refine wpList_plain hg fun K' hK' => ?_
  unfold Oper.wp execOp
  simp [ho, hx, hi, hr, Result.andThen]
  exact hK' _ _ h
end

variable {w w' : World} {p : Pf} {F : Fo}
/-! ### whole nodes -/
def cellsN (x : Node) : List Value := (List.range 82).map (cellN x)
theorem cellsN_len (x : Node) : (cellsN x).length = 82 := by simp [cellsN]
theorem cellsN_get (x : Node) (j : Nat) (hj : j < 82) : (cellsN x)[j]? = some (cellN x j) := by
  unfold cellsN; rw [List.getElem?_map, List.getElem?_range hj]; rfl
theorem info82 : (Tryz.prog.info? 116).map (·.size) = some 82 := by kernel_rfl
theorem infoN (x : Node) : (Tryz.prog.info? 116).map (·.size) = some (cellsN x).length := by rw [cellsN_len, info82]
theorem NodeAt.range {b : Nat} {x : Node} (h : NodeAt w b x) : w.rangeAt b 0 (cellsN x) := by
  intro j v hv
  have hj : j < 82 := by
    rcases Nat.lt_or_ge j 82 with h | h
    · exact h
    · rw [List.getElem?_eq_none (by rw [cellsN_len]; exact h)] at hv; cases hv
  rw [cellsN_get x j hj] at hv
  simp only [Option.some.injEq] at hv
  rw [Nat.zero_add, World.rowIs.cell h hj, hv]
theorem NodeAt.there {b : Nat} {x : Node} (h : NodeAt w b x) (y : Node) : w.there b 0 (cellsN y).toArray.size := by
  intro j hj
  rw [List.size_toArray, cellsN_len] at hj
  exact ⟨by rw [Nat.zero_add, World.rowIs.cell h hj]; rfl, h.frozen _⟩
theorem cellN_one (x : Node) (j : Nat) : (cellN x j).oneCell' = true := by
  unfold cellN entCell
  repeat' split
  all_goals rfl
theorem cellsN_one (x : Node) : (cellsN x).toArray.all (·.oneCell') = true := by
  refine all_oneCell_toArray fun v hv => ?_
  obtain ⟨j, _, rfl⟩ := List.mem_map.1 hv
  exact cellN_one x j
theorem rowIs_setCells {t : TypeId} {n b : Nat} : ∀ (vs : List Value) (o : Nat) (w : World) (f : Nat → Value), w.rowIs b t n f → (w.setCells b o vs).rowIs b t n (fun j => if o ≤ j ∧ j < o + vs.length then vs.getD (j - o) undef else f j)
  | [], o, w, f, h => World.rowIs.congr h fun j _ => by rw [if_neg (by simp only [List.length_nil]; omega)]
  | v :: vs, o, w, f, h => by
    rw [World.setCells]
    refine World.rowIs.congr (rowIs_setCells vs (o + 1) _ _ (World.rowIs.set h o v)) fun j _ => ?_
    by_cases h1 : o + 1 ≤ j ∧ j < o + 1 + vs.length
    · rw [if_pos h1, if_pos (by simp; omega)]
      rw [show j - o = (j - (o + 1)) + 1 by omega]
      rfl
    · rw [if_neg h1]
      by_cases h2 : j = o
      · subst h2
        rw [if_pos rfl, if_pos (by simp)]
        simp
      · rw [if_neg h2, if_neg (by simp; omega)]
theorem NodeAt.put {b : Nat} {x : Node} (h : NodeAt w b x) (y : Node) : NodeAt (w.setCells b 0 (cellsN y)) b y := by
  refine World.rowIs.congr (rowIs_setCells (cellsN y) 0 w _ h) fun j hj => ?_
  rw [if_pos (by rw [cellsN_len]; omega), List.getD_eq_getElem?_getD, Nat.sub_zero, cellsN_get y j hj]
  rfl
theorem turned_setCells {b : Nat} : ∀ (vs : List Value) (o : Nat) (w : World), Turned [b] w (w.setCells b o vs)
  | [], o, w => Turned.refl _ _
  | v :: vs, o, w => by
    rw [World.setCells]
    exact ((Turned.refl [b] w).setCell (p := ⟨b, o, none⟩) (.inl (by simp)) v).trans (turned_setCells vs (o + 1) _)
theorem buildN (w : World) : (Instr.build 116 #[]).run Tryz.prog w = .ok (.agg (cellsN zeroN).toArray) w := by kernel_rfl
theorem boxN (x : Node) (w : World) : (Instr.box 116 (.agg (cellsN x).toArray)).run Tryz.prog w = .ok (.pointer (some ⟨w.heap.size, 0, none⟩)) (w.alloc (.cells (cellsN x).toArray 116)) := by
  simp [Instr.box, newVar, newRow, Value.cells, Result.andThen]
theorem NodeAt.new (x : Node) (w : World) : NodeAt (w.alloc (.cells (cellsN x).toArray 116)) w.heap.size x := by
  have := World.rowIs_alloc w (cellsN x).toArray 116 (cellN x) (fun i hi => by
    rw [List.size_toArray, cellsN_len] at hi
    rw [List.getElem?_toArray, cellsN_get x i hi])
  have e : (cellsN x).toArray.size = 82 := by rw [List.size_toArray, cellsN_len]
  rw [e] at this
  exact this

/-! ### a forest that changes -/
def FoOwn (p : Pf) (F : Fo) (w w' : World) : Prop := ∃ S, Turned S w w' ∧ ∀ b ∈ S, p.own F b
theorem FoOwn.of (t : Turned [] w w') : FoOwn p F w w' := ⟨[], t, by simp⟩
theorem FoOwn.step {w2 w3 : World} (h : FoOwn p F w w2) {S : List Nat} (t : Turned S w2 w3) (hS : ∀ b ∈ S, w.heap.size ≤ b ∨ p.own F b) : FoOwn p F w w3 := by
  obtain ⟨T, h1, h2⟩ := h
  refine ⟨T ++ S.filter (fun b => decide (b < w.heap.size)), ?_, fun b hb => ?_⟩
  · refine ⟨t.os.trans h1.os, t.tape.trans h1.tape, t.output.trans h1.output, Nat.le_trans h1.size t.size, fun i hi hn => ?_⟩
    rw [List.mem_append, not_or, List.mem_filter] at hn
    have h3 : i ∉ S := fun hm => hn.2 ⟨hm, by simpa using hi⟩
    exact (t.block i (Nat.lt_of_lt_of_le hi h1.size) h3).trans (h1.block i hi hn.1)
  · rw [List.mem_append, List.mem_filter] at hb
    rcases hb with hb | ⟨hb, hl⟩
    · exact h2 b hb
    · rcases hS b hb with h | h
      · simp at hl; omega
      · exact h
theorem FoOwn.cell {a : Addr} {v : Value} (h : FoOwn p F w w') (hc : w.cell? a = some v) (ha : ¬ p.own F a.block) : w'.cell? a = some v := by
  obtain ⟨S, t, hS⟩ := h
  exact t.cell hc (fun hm => ha (hS _ hm))
theorem FoOwn.size (h : FoOwn p F w w') : w.heap.size ≤ w'.heap.size := let ⟨_, t, _⟩ := h; t.size

def upN (f : Nat → Node) (k : Nat) (x : Node) : Nat → Node := fun i => if i = k then x else f i
theorem upN_same (f : Nat → Node) (k : Nat) (x : Node) : upN f k x k = x := if_pos rfl
theorem upN_ne {f : Nat → Node} {k i : Nat} {x : Node} (h : i ≠ k) : upN f k x i = f i := if_neg h
def setNd (F : Fo) (k : Nat) (x : Node) : Fo := { F with nd := upN F.nd k x }
theorem FoAt.setNd {w2 : World} (h : FoAt w p F) (k : Nat) (hk : k ∈ F.ids) (x : Node) (hx : NodeAt w2 (p.blk k) x) (t : Turned [p.blk k] w w2) : FoAt w2 p (setNd F k x) := by
  have hf := h.far k hk
  refine ⟨t.cell h.c0 (by simpa using hf.1.symm), t.cell h.c1 (by simpa using hf.1.symm), t.cell h.c2 (by simpa using hf.1.symm), t.cell h.c3 (by simpa using hf.1.symm), fun j => (t.frozen (a := ⟨p.f, j, none⟩) (h.lt (.inl rfl)) (by simpa using hf.1.symm)).trans (h.fz j),
    h.nodes.turned t (by simpa using hf.2.1.symm), h.held.turned t (by simpa using hf.2.2.1.symm), h.sl.turned t (by simpa using hf.2.2.2.symm), fun i hi => ?_, h.nh, h.ns, h.inj, h.far, h.dis⟩
  show NodeAt w2 (p.blk i) (upN F.nd k x i)
  by_cases e : i = k
  · subst e; rw [upN_same]; exact hx
  · rw [upN_ne e]; exact (h.nd i hi).turned t (by simpa using h.inj i k hi hk e)
/-- a node is referred to once more -/
def refInc (F : Fo) (k : Nat) : Fo := if k = 0 then F else setNd F k (setRefs (F.nd k) ((F.nd k).refs + 1))
def refIncs (F : Fo) (f : Nat → Nat) : Nat → Fo
  | 0 => F
  | j + 1 => refInc (refIncs F f j) (f j)
theorem refInc_ids (F : Fo) (k : Nat) : (refInc F k).ids = F.ids := by unfold refInc; split <;> rfl
theorem refIncs_ids (F : Fo) (f : Nat → Nat) : ∀ j, (refIncs F f j).ids = F.ids
  | 0 => rfl
  | j + 1 => by rw [refIncs, refInc_ids, refIncs_ids F f j]
theorem FoAt.refInc (h : FoAt w p F) (k : Nat) (hk : k ∈ F.ids) (h0 : k ≠ 0) : FoAt (w.setCell ⟨p.blk k, 81, none⟩ (.int .i64 ((F.nd k).refs + 1 : Nat))) p (refInc F k) := by
  unfold R.refInc
  rw [if_neg h0]
  exact h.setNd k hk _ ((h.nd k hk).setRefs _) ((Turned.refl [p.blk k] w).setCell (p := ⟨p.blk k, 81, none⟩) (.inl (by simp)) _)
/-- a slot is in one node more -/
def slInc (F : Fo) (s : Slot) : Fo := { F with sl := mput F.sl s (.int .i64 (cnt F.sl s + 1 : Nat)) }
def slIncs (F : Fo) (x : Node) : Nat → Fo
  | 0 => F
  | j + 1 => if x.bits.testBit j then slInc (slIncs F x j) (x.ents j).s else slIncs F x j
theorem slIncs_ids (F : Fo) (x : Node) : ∀ j, (slIncs F x j).ids = F.ids
  | 0 => rfl
  | j + 1 => by
    rw [slIncs]
    split
    · exact slIncs_ids F x j
    · exact slIncs_ids F x j
theorem FoAt.setSl {l : List (Slot × Value)} (h : FoAt w p F) (hm : MapIs Tryz.prog 45 encS w' p.s l) (hn : NumL l) (t : Turned [p.s] w w') : FoAt w' p { F with sl := l } := by
  have hd := h.dis
  exact ⟨t.cell h.c0 (by simpa using hd.1.2.2), t.cell h.c1 (by simpa using hd.1.2.2), t.cell h.c2 (by simpa using hd.1.2.2), t.cell h.c3 (by simpa using hd.1.2.2), fun j => (t.frozen (a := ⟨p.f, j, none⟩) (h.lt (.inl rfl)) (by simpa using hd.1.2.2)).trans (h.fz j),
    h.nodes.turned t (by simpa using hd.2.1.2), h.held.turned t (by simpa using hd.2.2), hm, fun i hi => (h.nd i hi).turned t (by simpa using (h.far i hi).2.2.2), h.nh, hn, h.inj, h.far, h.dis⟩
theorem FoAt.setHeld {l : List (Int × Value)} (h : FoAt w p F) (hm : MapIs Tryz.prog 3 encI w' p.h l) (hn : NumL l) (t : Turned [p.h] w w') : FoAt w' p { F with held := l } := by
  have hd := h.dis
  exact ⟨t.cell h.c0 (by simpa using hd.1.2.1), t.cell h.c1 (by simpa using hd.1.2.1), t.cell h.c2 (by simpa using hd.1.2.1), t.cell h.c3 (by simpa using hd.1.2.1), fun j => (t.frozen (a := ⟨p.f, j, none⟩) (h.lt (.inl rfl)) (by simpa using hd.1.2.1)).trans (h.fz j),
    h.nodes.turned t (by simpa using hd.2.1.1), hm, h.sl.turned t (by simpa using hd.2.2.symm), fun i hi => (h.nd i hi).turned t (by simpa using (h.far i hi).2.2.1), hn, h.ns, h.inj, h.far, h.dis⟩
theorem FoAt.setLast (h : FoAt w p F) (n : Nat) : FoAt (w.setCell ⟨p.f, 3, none⟩ (.int .i64 n)) p { F with last := n } := by
  have t : Turned [p.f] w (w.setCell ⟨p.f, 3, none⟩ (.int .i64 n)) := (Turned.refl [p.f] w).setCell (.inl (by simp)) _
  have hd := h.dis
  have ho : ∀ j, j ≠ 3 → (w.setCell ⟨p.f, 3, none⟩ (.int .i64 n)).cell? ⟨p.f, j, none⟩ = w.cell? ⟨p.f, j, none⟩ := fun j hj => World.cell?_setCell_other _ _ _ _ (by simpa using hj.symm)
  refine ⟨(ho 0 (by omega)).trans h.c0, (ho 1 (by omega)).trans h.c1, (ho 2 (by omega)).trans h.c2, World.cell?_setCell_same _ _ _ h.c3, fun j => ?_,
    h.nodes.turned t (by simpa using hd.1.1.symm), h.held.turned t (by simpa using hd.1.2.1.symm), h.sl.turned t (by simpa using hd.1.2.2.symm), fun i hi => (h.nd i hi).turned t (by simpa using (h.far i hi).1), h.nh, h.ns, h.inj, h.far, h.dis⟩
  rw [World.frozen?_setCell]; exact h.fz j
/-- a node comes in -/
def addId (F : Fo) (x : Node) (lev : Nat) : Fo := { F with ids := F.ids ++ [F.last + 1], nd := upN F.nd (F.last + 1) x, last := F.last + 1, lev := fun i => if i = F.last + 1 then lev else F.lev i }
def addP (p : Pf) (n b : Nat) : Pf := { p with blk := fun i => if i = n then b else p.blk i }
theorem nodesL_add (p : Pf) (F : Fo) (x : Node) (lev b : Nat) (hn : F.last + 1 ∉ F.ids) : mput (nodesL p F) ((F.last + 1 : Nat) : Int) (ptrV b) = nodesL (addP p (F.last + 1) b) (addId F x lev) := by
  unfold mput
  rw [any_iff, find_nodes, if_neg hn]
  simp only [Option.isSome_none, Bool.false_eq_true, if_false]
  unfold nodesL addId addP
  simp only [List.map_append, List.map_cons, List.map_nil, if_true]
  congr 1
  apply List.map_congr_left
  intro i hi
  have hne : i ≠ F.last + 1 := fun e => hn (by rw [← e]; exact hi)
  rw [if_neg hne]
theorem FoAt.addId {w2 : World} (h : FoAt w p { F with last := F.last + 1 }) (x : Node) (lev b : Nat) (hn : F.last + 1 ∉ F.ids) (hx : NodeAt w b x) (hb : ¬ p.own F b)
    (hm : MapIs Tryz.prog 3 encI w2 p.m (mput (nodesL p F) ((F.last + 1 : Nat) : Int) (ptrV b))) (t : Turned [p.m] w w2) : FoAt w2 (addP p (F.last + 1) b) (addId F x lev) := by
  have hd := h.dis
  have hbo : b ≠ p.f ∧ b ≠ p.m ∧ b ≠ p.h ∧ b ≠ p.s ∧ ∀ i, i ∈ F.ids → b ≠ p.blk i := ⟨fun e => hb (.inl e), fun e => hb (.inr (.inl e)), fun e => hb (.inr (.inr (.inl e))), fun e => hb (.inr (.inr (.inr (.inl e)))), fun i hi e => hb (.inr (.inr (.inr (.inr ⟨i, hi, e⟩))))⟩
  rw [nodesL_add p F x lev b hn] at hm
  have mem : ∀ i, i ∈ (R.addId F x lev).ids → i = F.last + 1 ∨ (i ≠ F.last + 1 ∧ i ∈ F.ids) := fun i hi => by
    rcases List.mem_append.1 hi with hi | hi
    · exact .inr ⟨fun e => hn (e ▸ hi), hi⟩
    · exact .inl (by simpa using hi)
  have bn : (addP p (F.last + 1) b).blk (F.last + 1) = b := if_pos rfl
  have bo : ∀ i, i ≠ F.last + 1 → (addP p (F.last + 1) b).blk i = p.blk i := fun i hi => if_neg hi
  refine ⟨t.cell h.c0 (show p.f ∉ [p.m] by simpa using hd.1.1), t.cell h.c1 (show p.f ∉ [p.m] by simpa using hd.1.1), t.cell h.c2 (show p.f ∉ [p.m] by simpa using hd.1.1), t.cell h.c3 (show p.f ∉ [p.m] by simpa using hd.1.1), fun j => (t.frozen (a := ⟨p.f, j, none⟩) (h.lt (.inl rfl)) (show p.f ∉ [p.m] by simpa using hd.1.1)).trans (h.fz j),
    hm, h.held.turned t (by simpa using hd.2.1.1.symm), h.sl.turned t (by simpa using hd.2.1.2.symm), fun i hi => ?_, h.nh, h.ns, fun i j hi hj hij => ?_, fun i hi => ?_, h.dis⟩
  · show NodeAt w2 _ (upN F.nd (F.last + 1) x i)
    rcases mem i hi with rfl | ⟨hne, hi⟩
    · rw [bn, upN_same]; exact hx.turned t (by simpa using hbo.2.1)
    · rw [bo i hne, upN_ne hne]; exact (h.nd i hi).turned t (by simpa using (h.far i hi).2.1)
  · rcases mem i hi with rfl | ⟨hne, hi⟩
    · rcases mem j hj with rfl | ⟨hne2, hj⟩
      · exact absurd rfl hij
      · rw [bn, bo j hne2]; exact hbo.2.2.2.2 j hj
    · rcases mem j hj with rfl | ⟨hne2, hj⟩
      · rw [bn, bo i hne]; exact (hbo.2.2.2.2 i hi).symm
      · rw [bo i hne, bo j hne2]; exact h.inj i j hi hj hij
  · rcases mem i hi with rfl | ⟨hne, hi⟩
    · rw [bn]; exact ⟨hbo.1, hbo.2.1, hbo.2.2.1, hbo.2.2.2.1⟩
    · rw [bo i hne]; exact h.far i hi
def addN (F : Fo) (x : Node) (lev : Nat) : Fo := slIncs (refIncs (addId F x lev) x.kids 16) x 16
end Go.Proofs.YtmpbhoijkcanmaaGreat.R
