/- A latch is one holder's at most: the walk. -/
import Derived.Test.YtmgbpndbnfemeaaM1
import Derived.Deep.DeepCutAuto
import Derived.Deep.CutBlock
namespace Go.Proofs.Ytmgbpndbnfemeaa.L
open Go.ChangeShapes Go.WideShapes Go.ChangeAt Go.RowKit Go.Maps Go.Proofs.Ytmgbpndbnfemeaa.G
set_option linter.unusedVariables false
set_option linter.unusedSimpArgs false

/-- a number under a small mask -/
theorem and_small (x : Int) (m : Nat) (hm : m < 4611686018427387904) : ∃ p : Nat, p ≤ m ∧ bits BinOp.and IntKind.i64 x (m : Int) = (p : Int) := by
  have h : (BitVec.ofInt 64 x &&& BitVec.ofInt 64 (m : Int)).toNat ≤ m := by
    rw [BitVec.toNat_and, BitVec.ofInt_natCast, BitVec.toNat_ofNat]
    exact Nat.le_trans Nat.and_le_right (Nat.mod_le _ _)
  refine ⟨(BitVec.ofInt 64 x &&& BitVec.ofInt 64 (m : Int)).toNat, h, ?_⟩
  show IntKind.i64.wrap ((BitVec.ofInt 64 x &&& BitVec.ofInt 64 (m : Int)).toNat : Int) = _
  rw [IntKind.wrap_i64]
  omega

/-- the frame of the loop -/
structure OneIn (w wr : World) (bl bm B : Nat) (l : Holds) (H : Nat → Int) : Prop where
  latch : LatchAt wr bl bm 8 l
  row : wr.rowIs B 40 8 (fun j => .int .i64 (H j))
  nbl : B ≠ bl
  nbm : B ≠ bm
  hB : w.heap.size ≤ B
  hbl : w.heap.size ≤ bl
  hbm : w.heap.size ≤ bm
  below : Below w.heap.size w wr

theorem Below.of_turned {a b c : World} {S : List Nat} (h : Below a.heap.size a b) (k : Turned S b c) (hs : ∀ i ∈ S, a.heap.size ≤ i) : Below a.heap.size a c := Turned.below_of h k hs

theorem OneIn.turned {w wr w' : World} {bl bm B : Nat} {l l' : Holds} {H : Nat → Int} (h : OneIn w wr bl bm B l H) (hl : LatchAt w' bl bm 8 l') (t : Turned [bm] wr w') : OneIn w w' bl bm B l' H :=
  ⟨hl, h.row.of_block (t.block B h.row.lt (by simpa using h.nbm)), h.nbl, h.nbm, h.hB, h.hbl, h.hbm, Turned.below_of h.below t (by intro i hi; simp only [List.mem_singleton] at hi; subst hi; exact h.hbm)⟩
theorem OneIn.still {w wr w' : World} {bl bm B : Nat} {l : Holds} {H : Nat → Int} (h : OneIn w wr bl bm B l H) (b : Below wr.heap.size wr w') : OneIn w w' bl bm B l H :=
  h.turned (h.latch.turned (Turned.of_below b) (by simp) (by simp)) (Turned.of_below b).nil_mono
theorem OneIn.drew {w wr : World} {bl bm B : Nat} {l : Holds} {H : Nat → Int} (h : OneIn w wr bl bm B l H) (n : Nat) : OneIn w (wr.drewN n) bl bm B l H :=
  h.turned (h.latch.turned ((Turned.refl [] wr).drewN n) (by simp) (by simp)) ((Turned.refl _ wr).drewN n)
theorem OneIn.set {w wr : World} {bl bm B : Nat} {l : Holds} {H : Nat → Int} (h : OneIn w wr bl bm B l H) (p : Nat) (x : Int) : OneIn w (wr.setCell ⟨B, p, none⟩ (.int .i64 x)) bl bm B l (fun i => if i = p then x else H i) := by
  have t : Turned [B] wr (wr.setCell ⟨B, p, none⟩ (.int .i64 x)) := (Turned.refl [B] wr).setCell (.inl (by simp)) _
  refine ⟨h.latch.turned t (by simpa using h.nbl.symm) (by simpa using h.nbm.symm), (h.row.set p _).congr fun i _ => ?_, h.nbl, h.nbm, h.hB, h.hbl, h.hbm, Turned.below_of h.below t (by intro i hi; simp only [List.mem_singleton] at hi; subst hi; exact h.hB)⟩
  by_cases e : i = p <;> simp [e]
theorem OneIn.acts {w wr : World} {bl bm B : Nat} {l : Holds} {H : Nat → Int} (h : OneIn w wr bl bm B l H) {a : Option Addr} {len : Nat} {acts : List (Bool × Int × Int)} (ha : ActsAt w a len acts) : ActsAt wr a len acts :=
  ha.turned (Turned.of_below h.below) (fun _ _ => by simp)

/-- how many are held, by the first so many -/
def cnt (l : Holds) (n : Nat) : Nat := ((List.range n).map fun j : Nat => (heldL l (j : Int)).length).sum
theorem cnt_succ (l : Holds) (n : Nat) : cnt l (n + 1) = cnt l n + (heldL l (n : Int)).length := by unfold cnt; rw [List.range_succ, List.map_append, List.sum_append]; simp
theorem held_le (l : Holds) (n : Nat) : (heldL l (n : Int)).length ≤ l.length := by
  rw [← length_keysL l]
  exact List.length_filter_le _ _
theorem cnt_le (l : Holds) (n : Nat) : cnt l n ≤ n * l.length := by
  induction n with
  | zero => exact Nat.zero_le _
  | succ n ih => rw [cnt_succ, Nat.succ_mul]; have := held_le l n; omega
theorem cnt_four (l : Holds) : cnt l 4 = (heldL l 0).length + (heldL l 1).length + (heldL l 2).length + (heldL l 3).length := by
  rw [cnt_succ, cnt_succ, cnt_succ, cnt_succ]; simp [cnt]

theorem OneIn.dropY {w wr : World} {bl bm B : Nat} {l : Holds} {H : Nat → Int} (h : OneIn w wr bl bm B l H) (s : Same8 l H) (p q : Nat) (hp : p ≤ 7) (hq : q ≤ 3) (hy : H p = q + 1) :
    Calls Try.prog 9 #[.pointer (some ⟨bl, 0, none⟩), .int .i64 p, .int .i64 q] wr fun e w' => e = .returned (.int .i64 0) ∧ OneIn w w' bl bm B (mdel l p) H := by
  obtain ⟨_, e1, e2⟩ := (s.drop p (by omega) q (by omega)).resolve_right (fun c => c.1 hy)
  exact (drop' bl bm 8 p q l wr h.latch s.nums (by unfold I64; omega) _ _ e1 e2).mono fun e w' ⟨a, b, c⟩ => ⟨a, h.turned b c⟩
theorem OneIn.dropN {w wr : World} {bl bm B : Nat} {l : Holds} {H : Nat → Int} (h : OneIn w wr bl bm B l H) (s : Same8 l H) (p q : Nat) (hp : p ≤ 7) (hq : q ≤ 3) (hn : H p ≠ q + 1) :
    Calls Try.prog 9 #[.pointer (some ⟨bl, 0, none⟩), .int .i64 p, .int .i64 q] wr fun e w' => e = .returned (.int .i64 3) ∧ OneIn w w' bl bm B l H := by
  obtain ⟨_, e1, e2⟩ := (s.drop p (by omega) q (by omega)).resolve_left (fun c => hn c.1)
  exact (drop' bl bm 8 p q l wr h.latch s.nums (by unfold I64; omega) _ _ e1 e2).mono fun e w' ⟨a, b, c⟩ => ⟨a, h.turned b c⟩
theorem OneIn.take0 {w wr : World} {bl bm B : Nat} {l : Holds} {H : Nat → Int} (h : OneIn w wr bl bm B l H) (s : Same8 l H) (p q : Nat) (hp : p ≤ 7) (hq : q ≤ 3) (hy : H p = 0) :
    Calls Try.prog 11 #[.pointer (some ⟨bl, 0, none⟩), .int .i64 p, .int .i64 q] wr fun e w' => e = .returned (.int .i64 0) ∧ OneIn w w' bl bm B (mput l p (iv q)) H := by
  rcases s.take p (by omega) q (by omega) (by omega) with ⟨_, e1, e2⟩ | ⟨c, _⟩ | ⟨c, _⟩
  · exact (take' bl bm 8 p q l wr h.latch s.nums (by unfold I64; omega) _ _ e1 e2).mono fun e w' ⟨a, b, c⟩ => ⟨a, h.turned b c⟩
  · exfalso; omega
  · exact absurd hy c
theorem OneIn.take9 {w wr : World} {bl bm B : Nat} {l : Holds} {H : Nat → Int} (h : OneIn w wr bl bm B l H) (s : Same8 l H) (p q : Nat) (hp : p ≤ 7) (hq : q ≤ 3) (hy : H p = q + 1) :
    Calls Try.prog 11 #[.pointer (some ⟨bl, 0, none⟩), .int .i64 p, .int .i64 q] wr fun e w' => e = .returned (.int .i64 9) ∧ OneIn w w' bl bm B l H := by
  rcases s.take p (by omega) q (by omega) (by omega) with ⟨c, _⟩ | ⟨_, e1, e2⟩ | ⟨_, c, _⟩
  · exfalso; omega
  · exact (take' bl bm 8 p q l wr h.latch s.nums (by unfold I64; omega) _ _ e1 e2).mono fun e w' ⟨a, b, c⟩ => ⟨a, h.turned b c⟩
  · exact absurd hy c
theorem OneIn.take8 {w wr : World} {bl bm B : Nat} {l : Holds} {H : Nat → Int} (h : OneIn w wr bl bm B l H) (s : Same8 l H) (p q : Nat) (hp : p ≤ 7) (hq : q ≤ 3) (h0 : H p ≠ 0) (h1 : H p ≠ q + 1) :
    Calls Try.prog 11 #[.pointer (some ⟨bl, 0, none⟩), .int .i64 p, .int .i64 q] wr fun e w' => e = .returned (.int .i64 8) ∧ OneIn w w' bl bm B l H := by
  rcases s.take p (by omega) q (by omega) (by omega) with ⟨c, _⟩ | ⟨c, _⟩ | ⟨_, _, e1, e2⟩
  · exact absurd c h0
  · exact absurd c h1
  · exact (take' bl bm 8 p q l wr h.latch s.nums (by unfold I64; omega) _ _ e1 e2).mono fun e w' ⟨a, b, c⟩ => ⟨a, h.turned b c⟩

set_option maxRecDepth 100000 in
set_option maxHeartbeats 8000000 in
theorem one_law (a : Option Addr) (len cap : Nat) (acts : List (Bool × Int × Int)) (w : World) (h : ActsAt w a len acts) :
    Calls Try.prog 4 #[.slice a len cap] w fun e w' => e = .returned (.bool true) ∧ Below w.heap.size w w' := by
  have cN := new 8
  unfold newPost at cN
  rw [show clamp 8 = 8 by decide] at cN
  have CN := Lib.hid cN
  clear cN
  have CW := Lib.hid works
  have HA := Lib.hid h
  clear h
  go_enter Try.func4, Try.ntmps4
  by_cases hbig : 200 < len
  · go_wp2_with (go_at_call 6; ((with_reducible refine (CW.out _).mono ?_); rintro e ww ⟨rfl, hb⟩))
    go_ret
    exact ⟨rfl, hb⟩
  go_wp2_with (first | (go_at_call 7; ((with_reducible refine (CN.out _).mono ?_); rintro e w1 ⟨bl, bm, rfl, hL, h1, h2, hT⟩; have HL1 : Hid (LatchAt w1 bl bm 8 []) := hL; have HT1 := Lib.hid hT; have HB1 := Lib.hid (And.intro h1 h2); clear hL hT h1 h2)))
  have HI : Hid (OneIn w (w1.alloc (.cells #[.int .i64 0, .int .i64 0, .int .i64 0, .int .i64 0, .int .i64 0, .int .i64 0, .int .i64 0, .int .i64 0] 40)) bl bm w1.heap.size [] (fun _ => 0)) := by
    have l1 := lt_of_cell HL1.out.pages
    have l2 := HL1.out.map.lt
    simp only at l1
    refine ⟨HL1.out.turned ((Turned.refl [] w1).alloc _) (by simp) (by simp), ?_, by omega, by omega, HT1.out.size, HB1.out.1, HB1.out.2, (HT1.out.below.alloc HT1.out.size _)⟩
    refine World.rowIs_alloc _ _ _ _ ?_
    intro i hi
    simp only [List.size_toArray, List.length_cons, List.length_nil] at hi
    have : i = 0 ∨ i = 1 ∨ i = 2 ∨ i = 3 ∨ i = 4 ∨ i = 5 ∨ i = 6 ∨ i = 7 := by omega
    rcases this with rfl | rfl | rfl | rfl | rfl | rfl | rfl | rfl <;> rfl
  have HW1 := Lib.hid (HT1.out.size)
  clear HL1 HT1 HB1
  generalize hB : w1.heap.size = B at *
  generalize hw2 : w1.alloc (.cells #[.int .i64 0, .int .i64 0, .int .i64 0, .int .i64 0, .int .i64 0, .int .i64 0, .int .i64 0, .int .i64 0] 40) = w2 at *
  clear hB hw2 w1
  go_loopw [5] (fun i wr => ∃ (k : Nat) (l : Holds) (H : Nat → Int), k ≤ len ∧ i = .int .i64 k ∧ OneIn w wr bl bm B l H ∧ Same8 l H) (fun i _ => len - (intOf i).toNat)
  case atStart => exact ⟨0, [], _, Nat.zero_le _, rfl, HI.out, same8_nil⟩
  case round =>
    obtain ⟨k, l, H, hk, rfl, hin, hs⟩ := hrel
    have HIn := Lib.hid hin
    have HS := Lib.hid hs
    clear hin hs
    by_cases hlt : k < len
    · have hact := (HIn.out.acts HA.out)
      have hak : k < acts.length := by rw [hact.1]; exact hlt
      obtain ⟨b, off, rfl, hc⟩ := hact.2.2.resolve_left (by omega)
      obtain ⟨c0, c1, c2⟩ := hc k hak
      obtain ⟨p64, w64⟩ := hact.2.1 _ (List.getElem_mem hak)
      clear hc hact
      generalize acts[k] = act at *
      obtain ⟨dr, pg, wh⟩ := act
      simp only at c0 c1 c2 p64 w64
      have P64 := Lib.hid (And.intro p64 w64)
      clear p64 w64
      go_wp2
      go_quiet (fail)
      obtain ⟨p, hp8, ep⟩ := and_small pg 7 (by decide)
      obtain ⟨q, hq4, eq⟩ := and_small wh 3 (by decide)
      rw [show ((7 : Nat) : Int) = 7 from rfl] at ep
      rw [show ((3 : Nat) : Int) = 3 from rfl] at eq
      rw [ep, eq]
      have HIq : Hid (OneIn w (wr.drewN nq) bl bm B l H) := HIn.out.drew nq
      have hc0 : (wr.drewN nq).cell? ⟨b, off + k * 3, none⟩ = some (.bool dr) := by simpa using c0
      clear HIn c0 c1 c2 ep eq P64
      generalize wr.drewN nq = wq at *
      go_upto_if 42 with fail
      go_cut [8, 9] (fun _ _ wc => ∃ l H, OneIn w wc bl bm B l H ∧ Same8 l H)
      case first =>
        have hlt : p < 8 := by omega
        have hgn : Hid (∀ (w3 : World) (l' : Holds), OneIn w w3 bl bm B l' H → w3.cell? ⟨B, p, none⟩ = some (.int .i64 (H p)) ∧ w3.frozen? ⟨B, p, none⟩ = false) := fun w3 l' h => ⟨h.row.cell hlt, h.row.frozen p⟩
        cases dr
        · by_cases h0 : H p = 0
          · have cD := HIq.out.take0 HS.out p q hp8 hq4 h0
            have CD := Lib.hid cD
            have HY := Lib.hid h0
            have hz : ¬ ((0 : Int) = q + 1) := by omega
            clear cD h0
            go_wp2_with (go_at_call 11; ((with_reducible refine CD.out.mono ?_); rintro e w3 ⟨rfl, hd⟩; have HD := Lib.hid hd; obtain ⟨hcp, hcf⟩ := hgn.out _ _ hd; clear hd; rw [HY.out] at hcp))
            go_meet
            exact ⟨_, _, HD.out.set p _, HS.out.put p hlt q (by omega) (by omega)⟩
          · by_cases h1 : H p = q + 1
            · have cD := HIq.out.take9 HS.out p q hp8 hq4 h1
              have CD := Lib.hid cD
              have HY := Lib.hid h1
              have hz : ¬ ((q : Int) + 1 = 0) := by omega
              clear cD h0 h1
              go_wp2_with (go_at_call 11; ((with_reducible refine CD.out.mono ?_); rintro e w3 ⟨rfl, hd⟩; have HD := Lib.hid hd; obtain ⟨hcp, hcf⟩ := hgn.out _ _ hd; clear hd; rw [HY.out] at hcp))
              go_meet
              exact ⟨_, _, HD.out, HS.out⟩
            · have cD := HIq.out.take8 HS.out p q hp8 hq4 h0 h1
              have CD := Lib.hid cD
              obtain ⟨v, hv⟩ : ∃ v, H p = v := ⟨_, rfl⟩
              have HY := Lib.hid hv
              rw [hv] at h0 h1
              have b0 : (v == 0) = false := by simpa using h0
              have b1 : (v == (q : Int) + 1) = false := by simpa using h1
              clear cD hv h0 h1
              go_wp2_with (go_at_call 11; ((with_reducible refine CD.out.mono ?_); rintro e w3 ⟨rfl, hd⟩; have HD := Lib.hid hd; obtain ⟨hcp, hcf⟩ := hgn.out _ _ hd; clear hd; rw [HY.out] at hcp))
              go_meet
              exact ⟨_, _, HD.out, HS.out⟩
        · by_cases hy : H p = q + 1
          · have cD := HIq.out.dropY HS.out p q hp8 hq4 hy
            have CD := Lib.hid cD
            have HY := Lib.hid hy
            clear cD hy
            go_wp2_with (go_at_call 9; ((with_reducible refine CD.out.mono ?_); rintro e w3 ⟨rfl, hd⟩; have HD := Lib.hid hd; obtain ⟨hcp, hcf⟩ := hgn.out _ _ hd; clear hd; rw [HY.out] at hcp))
            go_meet
            exact ⟨_, _, HD.out.set p _, HS.out.del p hlt⟩
          · have cD := HIq.out.dropN HS.out p q hp8 hq4 hy
            have CD := Lib.hid cD
            obtain ⟨v, hv⟩ : ∃ v, H p = v := ⟨_, rfl⟩
            have HY := Lib.hid hv
            rw [hv] at hy
            have b1 : (v == (q : Int) + 1) = false := by simpa using hy
            clear cD hv hy
            go_wp2_with (go_at_call 9; ((with_reducible refine CD.out.mono ?_); rintro e w3 ⟨rfl, hd⟩; have HD := Lib.hid hd; obtain ⟨hcp, hcf⟩ := hgn.out _ _ hd; clear hd; rw [HY.out] at hcp))
            go_meet
            exact ⟨_, _, HD.out, HS.out⟩
      case rest =>
        obtain ⟨l, H, hin, hs⟩ := hcut
        have HIn := Lib.hid hin
        have HS := Lib.hid hs
        have hlen8 : l.length ≤ 8 := by
          rw [← hs.many hin.latch.map.nodup]
          exact Nat.le_trans (List.length_filter_le _ _) (by simp)
        have HSum := Lib.hid (hs.sum hin.latch.map.nodup)
        have HMany := Lib.hid (hs.many hin.latch.map.nodup)
        have HL8 := Lib.hid hlen8
        clear hin hs hlen8 HIq hc0
        go_wp2
        go_loopw [10, 11] (fun n j wr => ∃ jj : Nat, jj ≤ 4 ∧ j = .int .i64 jj ∧ n = .int .i64 (cnt l jj : Nat) ∧ OneIn w wr bl bm B l H) (fun _ j _ => 4 - (intOf j).toNat)
        case atStart => exact ⟨0, by omega, rfl, rfl, HIn.out⟩
        case round =>
          obtain ⟨jj, hjj, rfl, rfl, hin2⟩ := hrel
          have HIn2 := Lib.hid hin2
          clear hin2
          by_cases hj4 : jj < 4
          · have cH := held bl bm 8 jj l wr HIn2.out.latch HS.out.nums (by have := HL8.out; omega) HS.out.i64
            unfold heldPost at cH
            have hheld := HS.out.held jj
            have hcs := cnt_succ l jj
            have hcb := cnt_le l jj
            have hhl := held_le l jj
            generalize heldL l jj = hx at *
            have CH := Lib.hid cH
            have HHeld := Lib.hid hheld
            have HCs := Lib.hid hcs
            have hcb2 : cnt l jj ≤ 32 ∧ hx.length ≤ 8 := by have := HL8.out; have : jj * l.length ≤ 4 * l.length := Nat.mul_le_mul_right _ (by omega); omega
            obtain ⟨hcb3, hxl⟩ := hcb2
            clear cH hheld hcs hcb hhl
            have Hst : Hid (∀ w', Below wr.heap.size wr w' → OneIn w w' bl bm B l H) := fun w' h => HIn2.out.still h
            go_wp2_with (go_at_call 15; ((with_reducible refine CH.out.mono ?_); rintro e w3 ⟨v, rfl, hrow, hb⟩; obtain ⟨sa, cap2, rfl, hsl, hsb⟩ := SlAt.of_owns hrow; have HSl := Lib.hid hsl; have HI3 := Lib.hid (Hst.out _ hb); clear hrow hsl hb hsb HIn2))
            obtain ⟨n, hn⟩ : ∃ n, hx.length = n := ⟨_, rfl⟩
            have HN := Lib.hid hn
            have HSl2 := HSl.out
            rw [hn] at HSl2
            have HSl3 := Lib.hid HSl2
            rw [hn] at hxl
            rw [hn]
            clear HSl HSl2 hn
            go_loopw [13] (fun i wr => ∃ ii : Nat, ii ≤ n ∧ i = .int .i64 ii ∧ wr = w3) (fun i _ => n - (intOf i).toNat)
            case atStart => exact ⟨0, Nat.zero_le _, rfl, rfl⟩
            case round =>
              obtain ⟨ii, hii, rfl, rfl⟩ := hrel
              by_cases hin : ii < n
              · have hil : ii < hx.length := by rw [HN.out]; exact hin
                obtain ⟨b2, off2, rfl, hc⟩ := HSl3.out.cells (by omega)
                have hci := hc ii hin
                rw [List.getElem?_map, List.getElem?_eq_getElem hil] at hci
                simp only [Option.map_some, iv] at hci
                obtain ⟨x0, x7, hxH⟩ := HHeld.out _ (List.getElem_mem hil)
                obtain ⟨y, hy⟩ : ∃ y : Nat, hx[ii] = (y : Int) := ⟨hx[ii].toNat, by omega⟩
                rw [hy] at hci x0 x7 hxH
                have hy7 : y ≤ 7 := by omega
                have hrc := HI3.out.row.cell (i := y) (by omega)
                rw [show H y = (jj : Int) + 1 by simpa using hxH] at hrc
                clear hc hy x0 x7 hxH hil
                go_wp2
                go_roundw
                case rel => exact ⟨ii + 1, by omega, by go_num, trivial⟩
                case measure => simp [intOf]; omega
              · have hie : ii = n := by omega
                subst hie
                clear hin
                go_wp2
                go_roundw
                case rel =>
                  refine ⟨jj + 1, by omega, by go_num, ?_, HI3.out⟩
                  rw [HCs.out, HN.out]; push_cast; rfl
                case measure => simp [intOf]; omega
          · have hje : jj = 4 := by omega
            subst hje
            have hc4 : cnt l 4 = many H 8 := by rw [cnt_four, HSum.out, HMany.out]
            rw [hc4]
            have hm8 : many H 8 ≤ 8 := by rw [HMany.out]; exact HL8.out
            clear hc4
            go_wp2
            go_loopw [10, 14] (fun n j wr' => ∃ jj : Nat, jj ≤ 8 ∧ j = .int .i64 jj ∧ n = .int .i64 ((many H 8 : Int) - (many H jj : Int)) ∧ wr' = wr) (fun _ j _ => 8 - (intOf j).toNat)
            case atStart => exact ⟨0, by omega, rfl, by simp [many], rfl⟩
            case round =>
              obtain ⟨jj, hj8, rfl, rfl, rfl⟩ := hrel
              by_cases hj : jj < 8
              · have hrc := HIn2.out.row.cell (i := jj) hj
                have hms := many_succ H jj
                have hml : many H jj ≤ 8 := Nat.le_trans (List.length_filter_le _ _) (by simp; omega)
                obtain ⟨v, hv⟩ : ∃ v, H jj = v := ⟨_, rfl⟩
                rw [hv] at hrc hms
                by_cases h0 : 0 < v
                · rw [if_pos h0] at hms
                  have HMS := Lib.hid hms
                  clear hms hv
                  go_wp2
                  go_roundw
                  case rel => exact ⟨jj + 1, by omega, by go_num, by rw [HMS.out]; go_num, trivial⟩
                  case measure => simp [intOf]; omega
                · rw [if_neg h0] at hms
                  have HMS := Lib.hid hms
                  clear hms hv
                  go_wp2
                  go_roundw
                  case rel => exact ⟨jj + 1, by omega, by go_num, by rw [HMS.out]; rfl, trivial⟩
                  case measure => simp [intOf]; omega
              · have hje : jj = 8 := by omega
                subst hje
                go_wp2

                go_roundw
                case rel => exact ⟨k + 1, l, H, by omega, by go_num, HIn2.out, HS.out⟩
                case measure => simp [intOf]; omega
    · have hke : k = len := by omega
      subst hke
      clear hlt
      go_wp2_with (go_at_call 6; ((with_reducible refine (CW.out _).mono ?_); rintro e ww ⟨rfl, hb⟩))
      go_ret
      exact ⟨rfl, below_next HIn.out.below hb⟩

end Go.Proofs.Ytmgbpndbnfemeaa.L
