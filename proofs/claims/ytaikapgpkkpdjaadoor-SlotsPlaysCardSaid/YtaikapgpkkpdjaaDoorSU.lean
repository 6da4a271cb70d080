/- Slots: each call's contract, by the plain laws. -/
import Derived.Test.YtaikapgpkkpdjaaDoorST
namespace Go.Proofs.YtaikapgpkkpdjaaDoor.L
open Go.ChangeShapes Go.WideShapes Go.ChangeAt Go.RowKit Go.Maps Go.Proofs.YtaikapgpkkpdjaaDoor.G Go.Sort Go.Shelf Go.Lib
set_option linter.unusedVariables false
set_option linter.unusedSimpArgs false

/-- slots in memory, kept well -/
structure St (w : World) (bs be bm n : Nat) (pg : Int) (ex : Exts) (l : States) : Prop where
  at_ : SlotsAt w bs be bm n pg ex l
  inv : SInv n ex l
  pg : isPage pg = true
theorem St.turned {w w' : World} {bs be bm n : Nat} {pg : Int} {ex : Exts} {l : States} (h : St w bs be bm n pg ex l) {S : List Nat} (t : Turned S w w') (h0 : 0 ∉ S) (h1 : bs ∉ S) (h2 : be ∉ S) (h3 : bm ∉ S) : St w' bs be bm n pg ex l := ⟨h.at_.turned t h0 h1 h2 h3, h.inv, h.pg⟩
theorem St.calm {w w' : World} {bs be bm n : Nat} {pg : Int} {ex : Exts} {l : States} (h : St w bs be bm n pg ex l) (t : Turned [] w w') : St w' bs be bm n pg ex l := ⟨h.at_.calm t, h.inv, h.pg⟩
theorem St.lt {w : World} {bs be bm n : Nat} {pg : Int} {ex : Exts} {l : States} (h : St w bs be bm n pg ex l) : bs < w.heap.size ∧ be < w.heap.size ∧ bm < w.heap.size := ⟨lt_of_cell h.at_.states, h.at_.rows.row.lt, h.at_.map.lt⟩
theorem St.few {w : World} {bs be bm n : Nat} {pg : Int} {ex : Exts} {l : States} (h : St w bs be bm n pg ex l) : l.length ≤ 1048576 := by
  have := h.inv.few
  have := h.at_.rows.few
  omega
theorem St.stated {w : World} {bs be bm n : Nat} {pg : Int} {ex : Exts} {l : States} (h : St w bs be bm n pg ex l) : Stated l := h.inv.stated h.at_.rows.few

theorem firstI_of (n : Nat) (p : Nat → Bool) : (∃ k : Nat, (List.range n).find? p = some k ∧ firstI n p = k) ∨ ((List.range n).find? p = none ∧ firstI n p = -1) := by
  unfold firstI
  cases e : (List.range n).find? p with
  | some k => exact .inl ⟨k, rfl, rfl⟩
  | none => exact .inr ⟨rfl, rfl⟩

def takePost (bs be bm n : Nat) (pg : Int) (R : Res) (w : World) (e : Ending) (w' : World) : Prop :=
  e = .returned (.tuple #[encS R.x, .int .i64 R.err]) ∧ St w' bs be bm n pg R.ex R.l ∧ Turned [be, bm] w w'
theorem take_any (bs be bm n : Nat) (pg : Int) (ex : Exts) (l : States) (c : Int) (w : World) (h : St w bs be bm n pg ex l) :
    Calls Tryd.prog 22 #[.pointer (some ⟨bs, 0, none⟩), .int .i64 c] w (takePost bs be bm n pg (takeR n ex l c) w) := by
  have hI := take_inv h.inv c
  unfold takePost
  by_cases hc : c < 0 ∨ 5 < c
  · have e : takeR n ex l c = ⟨zeroS, 2, ex, l⟩ := by unfold takeR; rw [if_pos hc]
    rw [e]
    exact (take_bad bs be bm n pg ex l c (by omega) w h.at_).mono fun e w' ⟨h1, h2⟩ => ⟨h1, h.calm (Turned.of_below h2), (Turned.of_below h2).nil_mono⟩
  · have hc' : 0 ≤ c ∧ c ≤ 5 := by omega
    rcases firstI_of n (fun i => openX c (ex i)) with ⟨k, e1, e2⟩ | ⟨e1, e2⟩
    · have ea : takeAt n ex c = some k := by unfold takeAt; rw [e1]; rfl
      have e : takeR n ex l c = ⟨⟨k, c, freeI (ex k).2⟩, 0, upd ex k (c + 1, (ex k).2 ||| 2 ^ freeI (ex k).2), mput l ⟨k, c, freeI (ex k).2⟩ (encT false 0)⟩ := by unfold takeR; rw [if_neg hc, ea]
      rw [e] at hI ⊢
      obtain ⟨hk, h64, _⟩ := takeAt_some h.inv hc' ea
      exact (take_ok bs be bm n pg ex l c hc' w h.at_ k hk _ rfl _ rfl h64 (.inl e2)).mono fun e w' ⟨h1, h2, h3⟩ => ⟨h1, ⟨h2, hI, h.pg⟩, h3⟩
    · rcases firstI_of n (fun i => ((ex i).1 == 0)) with ⟨k, e3, e4⟩ | ⟨e3, e4⟩
      · have ea : takeAt n ex c = some k := by unfold takeAt; rw [e1, e3]; rfl
        have e : takeR n ex l c = ⟨⟨k, c, freeI (ex k).2⟩, 0, upd ex k (c + 1, (ex k).2 ||| 2 ^ freeI (ex k).2), mput l ⟨k, c, freeI (ex k).2⟩ (encT false 0)⟩ := by unfold takeR; rw [if_neg hc, ea]
        rw [e] at hI ⊢
        obtain ⟨hk, h64, _⟩ := takeAt_some h.inv hc' ea
        exact (take_ok bs be bm n pg ex l c hc' w h.at_ k hk _ rfl _ rfl h64 (.inr ⟨e2, e4⟩)).mono fun e w' ⟨h1, h2, h3⟩ => ⟨h1, ⟨h2, hI, h.pg⟩, h3⟩
      · have ea : takeAt n ex c = none := by unfold takeAt; rw [e1, e3]; rfl
        have e : takeR n ex l c = ⟨zeroS, 4, ex, l⟩ := by unfold takeR; rw [if_neg hc, ea]
        rw [e]
        exact (take_full bs be bm n pg ex l c hc' w h.at_ e2 e4).mono fun e w' ⟨h1, h2⟩ => ⟨h1, h.calm (Turned.of_below h2), (Turned.of_below h2).nil_mono⟩

def dropPost (bs be bm n : Nat) (pg : Int) (ex : Exts) (R : Int × States) (w : World) (e : Ending) (w' : World) : Prop :=
  e = .returned (.int .i64 R.1) ∧ St w' bs be bm n pg ex R.2 ∧ Turned [bm] w w'
theorem drop_any (bs be bm n : Nat) (pg : Int) (ex : Exts) (l : States) (x : Slot) (ep : Nat) (hx : I64 x.e ∧ I64 x.c ∧ I64 x.i) (w : World) (h : St w bs be bm n pg ex l) :
    Calls Tryd.prog 24 #[.pointer (some ⟨bs, 0, none⟩), encS x, .int .u64 ep] w (dropPost bs be bm n pg ex (dropR l x ep) w) := by
  have hI := drop_inv h.inv x ep
  unfold dropPost
  cases e : mget l x with
  | none =>
    have e' : dropR l x ep = (3, l) := by unfold dropR; rw [e]
    rw [e']
    exact (drop_no bs be bm n pg ex l x ep hx w h.at_ false 0 false (by rw [e]; rfl) (by rw [e]; rfl) (.inl rfl)).mono fun e w' ⟨h1, h2⟩ => ⟨h1, h.calm (Turned.of_below h2), (Turned.of_below h2).nil_mono⟩
  | some v =>
    obtain ⟨_, b, k, rfl⟩ := h.inv.key e
    cases b with
    | true =>
      have e' : dropR l x ep = (3, l) := by unfold dropR; rw [e]; rfl
      rw [e']
      exact (drop_no bs be bm n pg ex l x ep hx w h.at_ true k true (by rw [e]; rfl) (by rw [e]; rfl) (.inr rfl)).mono fun e w' ⟨h1, h2⟩ => ⟨h1, h.calm (Turned.of_below h2), (Turned.of_below h2).nil_mono⟩
    | false =>
      have e' : dropR l x ep = (0, mput l x (encT true ep)) := by unfold dropR; rw [e]; rfl
      rw [e'] at hI ⊢
      exact (drop_ok bs be bm n pg ex l x ep hx w h.at_ k e).mono fun e w' ⟨h1, h2, h3⟩ => ⟨h1, ⟨h2, hI, h.pg⟩, h3⟩

/-- a row of slots is answered -/
def rowPost (ys : List Slot) (w : World) (e : Ending) (w' : World) : Prop := ∃ v, e = .returned v ∧ w'.ownsRow w.heap.size 24 3 v ys.length (flat ys) ∧ Below w.heap.size w w'
theorem live_any (bs be bm n : Nat) (pg : Int) (ex : Exts) (l : States) (w : World) (h : St w bs be bm n pg ex l) :
    Calls Tryd.prog 18 #[.pointer (some ⟨bs, 0, none⟩)] w (rowPost (canon liveV n ex l) w) :=
  (live_fn bs be bm n pg ex l w h.at_ h.stated h.few).mono fun e w' ⟨v, ys, h1, h2, h3, h4, h5⟩ => ⟨v, h1, by rw [← those_eq h.inv h2 h3]; exact h4, h5⟩
theorem waiting_any (bs be bm n : Nat) (pg : Int) (ex : Exts) (l : States) (w : World) (h : St w bs be bm n pg ex l) :
    Calls Tryd.prog 20 #[.pointer (some ⟨bs, 0, none⟩)] w (rowPost (canon waitV n ex l) w) :=
  (waiting_fn bs be bm n pg ex l w h.at_ h.stated h.few).mono fun e w' ⟨v, ys, h1, h2, h3, h4, h5⟩ => ⟨v, h1, by rw [← those_eq h.inv h2 h3]; exact h4, h5⟩

def duePost' (bs be bm n : Nat) (pg : Int) (ex : Exts) (l : States) (ys : List Slot) (w : World) (e : Ending) (w' : World) : Prop :=
  ∃ v, e = .returned v ∧ w'.ownsRow w.heap.size 24 3 v ys.length (flat ys) ∧ St w' bs be bm n pg (exD ex ys) (lD l ys) ∧ Turned [be, bm] w w'
theorem due_any (bs be bm n : Nat) (pg : Int) (ex : Exts) (l : States) (ep : Nat) (w : World) (h : St w bs be bm n pg ex l) :
    Calls Tryd.prog 23 #[.pointer (some ⟨bs, 0, none⟩), .int .u64 ep] w (duePost' bs be bm n pg ex l (canon (dueV ep) n ex l) w) := by
  refine (due_fn bs be bm n pg ex l ep w h.at_ h.stated h.few (fun p hp => ?_)).mono fun e w' ⟨v, ys, h1, h2, h3, h4, h5, h6⟩ => ?_
  · have hk := (h.inv.keys p hp).1
    have hs := slotsC_le p.1.c
    unfold KeyOk at hk
    omega
  · have ey := those_eq h.inv h2 h3
    rw [ey] at h4 h5 h2
    refine ⟨v, h1, h4, ⟨h5, (due_inv _ h.inv (lt_nodup (canon_lt _ _ _ _)) fun x hx => ?_).1, h.pg⟩, h6⟩
    obtain ⟨i, hi, k, hk, hm, rfl⟩ := mem_canon.1 hx
    cases e : mget l ⟨i, (ex i).1 - 1, k⟩ with
    | none => rw [e] at hm; cases hm
    | some v => rfl
theorem new_any (sz pg : Int) (n : Nat) (hp : isPage pg = true) (h0 : 0 ≤ sz) (h1 : sz ≤ 16777216) (hn : sz / (4 * pg) = n) (w : World) (hT : Tab w) :
    Calls Tryd.prog 9 #[.int .i64 sz, .int .i64 pg] w fun e w' => ∃ bs be bm, e = .returned (.tuple #[.pointer (some ⟨bs, 0, none⟩), .int .i64 0]) ∧ St w' bs be bm n pg (fun _ => (0, 0)) [] ∧ (w.heap.size ≤ bs ∧ w.heap.size ≤ be ∧ w.heap.size ≤ bm) ∧ Turned [] w w' :=
  (new_ok sz pg n hp h0 h1 hn w hT).mono fun e w' ⟨bs, be, bm, e1, e2, e3, e4, e5, e6⟩ => ⟨bs, be, bm, e1, ⟨e2, SInv.nil n, hp⟩, ⟨e3, e4, e5⟩, e6⟩
end Go.Proofs.YtaikapgpkkpdjaaDoor.L
