/- The pages that somebody holds. -/
import Derived.Test.YtmgbpndbnfemeaaL3
namespace Go.Proofs.Ytmgbpndbnfemeaa.L
open Go.ChangeShapes Go.WideShapes Go.ChangeAt Go.RowKit Go.Maps Go.Sort Go.Shelf Go.Proofs.Ytmgbpndbnfemeaa.G
set_option linter.unusedVariables false
set_option linter.unusedSimpArgs false

theorem info3 : (Try.prog.info? 3).map (fun i => (i.zero, i.size, i.bytes)) = some (some (.int .i64 0), 1, 8) := by kernel_rfl

/-- are a page's latch and a number one holder's -/
def isOf (l : Holds) (who page : Int) : Bool := match mget l page with | some (.int .i64 k) => k == who | _ => false
def keysL (l : Holds) : List Int := (l.map (·.1)).mergeSort (fun x y => decide (x ≤ y))
def heldL (l : Holds) (who : Int) : List Int := (keysL l).filter (isOf l who)

theorem length_keysL (l : Holds) : (keysL l).length = l.length := by unfold keysL; rw [List.length_mergeSort, List.length_map]
theorem mem_keysL {l : Holds} {x : Int} : x ∈ keysL l ↔ (mget l x).isSome = true := by unfold keysL; rw [List.mem_mergeSort]; exact mem_keys

theorem filter_snoc (p : Int → Bool) (xs : List Int) (k : Nat) (h : k < xs.length) : (xs.take (k + 1)).filter p = (xs.take k).filter p ++ if p xs[k] then [xs[k]] else [] := by
  rw [List.take_succ_eq_append_getElem h, List.filter_append]
  congr 1
  by_cases hp : p xs[k] = true <;> simp [List.filter_cons, hp]

theorem own_above {w : World} {base : Nat} {e : TypeId} {size : Nat} {v : Value} {n : Nat} {xs : List Value} (h : w.ownsRow base e size v n xs) : ∀ k, v.ownBlock = some k → base ≤ k := by
  obtain ⟨_, h2⟩ := h
  rcases h2 with ⟨rfl, _⟩ | ⟨g, cap, cur, rfl, hg, _⟩
  · intro k hk; cases hk
  · intro k hk
    simp only [Value.ownBlock, Option.some.injEq] at hk
    omega

def heldPost (l : Holds) (who : Int) (w : World) (e : Ending) (w' : World) : Prop := ∃ v, e = .returned v ∧ w'.ownsRow w.heap.size 3 1 v (heldL l who).length ((heldL l who).map iv) ∧ Below w.heap.size w w'

set_option maxHeartbeats 1000000 in
theorem held (bl bm : Nat) (np wh : Int) (l : Holds) (w : World) (h : LatchAt w bl bm np l) (hl : Nums l) (hlen : l.length ≤ 100000) (hp : ∀ p ∈ l, I64 p.1) :
    Calls Try.prog 15 #[.pointer (some ⟨bl, 0, none⟩), .int .i64 wh] w (heldPost l wh w) := by
  obtain ⟨h0, h1, hm, hne⟩ := h
  have hkc := keys_call (some bm) w
  have hsc := sorted_call hm hlen
  have bl_lt : bl < w.heap.size := lt_of_cell h0
  obtain ⟨i0, hi, hz0, hz1, hz2⟩ := info_parts info3
  have hlk := length_keysL l
  have hmem : Hid (∀ x ∈ keysL l, I64 x ∧ ∃ k, mget l x = some (iv k)) := by
    intro x hx
    have := mem_keysL.1 hx
    rcases look_num hl x with e | ⟨k, e⟩
    · rw [e] at this; cases this
    · have hk := mem_of_look e
      exact ⟨hp _ hk, k, e⟩
  have HH : Hid (heldL l wh = (keysL l).filter (isOf l wh)) := rfl
  have HKL : Hid (keysL l = (l.map (·.1)).mergeSort (fun x y => decide (x ≤ y))) := rfl
  rw [← HKL.out] at hsc
  have HP := Lib.hid hp
  have HK := Lib.hid hkc
  have HS := Lib.hid hsc
  have HM := Lib.hid hm
  clear hp hkc hsc hm
  unfold heldPost
  generalize heldL l wh = R at *
  generalize keysL l = ks at *
  go_enter Try.func15, Try.ntmps15
  go_wp2_with (first | (go_at_call 21; ((with_reducible refine HK.out.mono ?_); rintro e ww ⟨rfl, rfl⟩)) | (go_at_call 20; ((with_reducible refine HS.out.mono ?_); rintro e ww ⟨v, rfl, hrow, hb⟩; obtain ⟨sa, cap, rfl, hsl, hsb⟩ := SlAt.of_owns hrow; have HRow := Lib.hid hrow; have HSl := Lib.hid hsl; have HB := Lib.hid hb; have HSb := Lib.hid hsb; clear hrow hsl hb hsb)))
  have HW : LatchAt ww bl bm np l := (LatchAt.turned ⟨h0, h1, HM.out, hne⟩ (Turned.of_below HB.out) (by simp) (by simp))
  have bl2 : bl < ww.heap.size := Nat.lt_of_lt_of_le bl_lt HB.out.size
  have HWW := Lib.hid HW
  have Hnl := Lib.hid hl
  obtain ⟨n, hn⟩ : ∃ n, l.length = n := ⟨_, rfl⟩
  rw [hn] at hlk hlen
  rw [hn]
  have HN := Lib.hid hn
  have Hlk := Lib.hid hlk
  clear hlk h0 h1 hne HW hl hn
  go_loopw [4, 16] (fun v i wr => ∃ k : Nat, k ≤ n ∧ i = .int .i64 k ∧ wr.ownsRow ww.heap.size 3 1 v ((ks.take k).filter (isOf l wh)).length (((ks.take k).filter (isOf l wh)).map iv) ∧ Below ww.heap.size ww wr) (fun _ i _ => n - (intOf i).toNat)
  case atStart => exact ⟨0, Nat.zero_le _, rfl, ⟨by simp, .inl ⟨rfl, by simp⟩⟩, Below.refl _ _⟩
  case round =>
    obtain ⟨k, hk, rfl, hown, hbw⟩ := hrel
    have HO := Lib.hid hown
    have HBW := Lib.hid hbw
    clear hown hbw
    by_cases hlt : k < n
    · have hkx : k < ks.length := by rw [Hlk.out]; exact hlt
      have hT := Turned.of_below HBW.out
      obtain ⟨b, off, rfl, hc⟩ := (HSl.out.turned hT (fun _ _ => by simp)).cells (by rw [HN.out]; omega)
      have hck := hc k (by rw [HN.out]; omega)
      rw [List.getElem?_map, List.getElem?_eq_getElem hkx] at hck
      simp only [Option.map_some] at hck
      obtain ⟨hx64, q, hq⟩ := hmem.out _ (List.getElem_mem hkx)
      have hsn := filter_snoc (isOf l wh) ks k hkx
      obtain ⟨c0, c1, cm, cne⟩ := HWW.out.turned hT (by simp) (by simp)
      have hio : isOf l wh ks[k] = (q == wh) := by unfold isOf; rw [hq]; rfl
      have Hio := Lib.hid hio
      have Hsn := Lib.hid hsn
      have Hcm := Lib.hid cm
      clear hT hc hio hsn cm
      generalize ks[k] = x at *
      have hfl : ((ks.take k).filter (isOf l wh)).length ≤ k := Nat.le_trans (List.length_filter_le _ _) (List.length_take_le _ _)
      have Hfl := Lib.hid hfl
      clear hfl
      simp only [iv] at hck
      by_cases hqw : q = wh
      · have hqb : (q == wh) = true := by simp [hqw]
        have e2 : (ks.take (k + 1)).filter (isOf l wh) = (ks.take k).filter (isOf l wh) ++ [x] := by rw [Hsn.out, Hio.out, hqb]; rfl
        have E2 := Lib.hid e2
        have Hq := Lib.hid hq
        clear e2 hqw hq
        go_wp2_with (first | (at_lookup; refine wp_look _ rfl _ _ 43 false rfl keyed3 iv_inj Try.underlying43 (zero3 _) bm l rfl Hcm.out x rfl (key3 hx64) ?_; simp only [Hq.out, iv, Bool.false_eq_true, if_false, Option.getD]) | (at_builtin; refine wpList_append_own _ rfl _ _ 23 rfl ww.heap.size 3 i0 (.int .i64 0) 1 8 Try.underlying23 hi hz0 hz1 hz2 rfl (by decide) _ _ _ rfl (HO.out.alloc _) ⟨wr.heap.size, 0, none⟩ 1 1 [.int .i64 x] rfl rfl ?c1 ?c2 ?c3 ?c4 ?c5 ?_))
        case c1 => exact fun j u hu => cell_new1 wr _ 3 j u hu
        case c2 => intro u hu; simp at hu; subst hu; rfl
        case c3 => have := Hfl.out; unfold maxLen; omega
        case c4 => have := Hfl.out; omega
        case c5 => have := HBW.out.size; simp; omega
        intro v' w1 hown' hgrow hnil
        have HO' := Lib.hid hown'
        have HG := Lib.hid hgrow
        clear hown' hgrow hnil
        go_wp2
        go_roundw
        case rel =>
          refine ⟨k + 1, by omega, by go_num, ?_, (HBW.out.alloc HBW.out.size _).grown HG.out (by have := HBW.out.size; simp; omega) (own_above HO.out)⟩
          rw [E2.out]
          simpa [iv] using HO'.out
        case measure => simp [intOf]; omega
      · have hqb : (q == wh) = false := by simpa using hqw
        have e2 : (ks.take (k + 1)).filter (isOf l wh) = (ks.take k).filter (isOf l wh) := by rw [Hsn.out, Hio.out, hqb]; simp
        have E2 := Lib.hid e2
        have Hq := Lib.hid hq
        clear e2 hqw hq
        go_wp2_with (first | (at_lookup; refine wp_look _ rfl _ _ 43 false rfl keyed3 iv_inj Try.underlying43 (zero3 _) bm l rfl Hcm.out x rfl (key3 hx64) ?_; simp only [Hq.out, iv, Bool.false_eq_true, if_false, Option.getD]))
        go_roundw
        case rel => exact ⟨k + 1, by omega, by go_num, by rw [E2.out]; exact HO.out, HBW.out⟩
        case measure => simp [intOf]; omega
    · have hke : k = n := by omega
      subst hke
      clear hlt
      go_wp2
      go_ret
      have e := List.take_of_length_le (Nat.le_of_eq Hlk.out)
      refine ⟨_, rfl, ?_, HB.out.trans (HBW.out.mono HB.out.size)⟩
      rw [HH.out]
      have := HO.out
      rw [e] at this
      exact ownsRow_base_a this HB.out.size


theorem held_nil (wh : Int) (w : World) : Calls Try.prog 15 #[.pointer none, .int .i64 wh] w fun e w' => e = .returned (.slice none 0 0) ∧ w = w' := by
  go_enter Try.func15, Try.ntmps15
  go_wp2
  go_ret
  exact ⟨rfl, rfl⟩

end Go.Proofs.Ytmgbpndbnfemeaa.L
