/- Maps as lists of entries: an entry that is found, or laid, and then stored ('m[k]++'). -/
import Derived.Test.YtmpbhoijkcanmaaGMap
namespace Go.Proofs.Ytmpbhoijkcanmaa.G
open Go.ChangeMaps (setBlock)
open Go.RowKit Go.Maps Go.WideMaps
set_option linter.unusedVariables false
set_option linter.unusedSimpArgs false
set_option linter.unusedSectionVars false

section
variable {α : Type} [DecidableEq α] {P : Program} {kt : TypeId} {enc : α → Value} {w w' : World} {b : Nat} {l : List (α × Value)}
/-- a key is there, with a value z if it was not -/
def mtouch (l : List (α × Value)) (a : α) (z : Value) : List (α × Value) := if (mget l a).isSome then l else l ++ [(a, z)]
theorem look_touch (l : List (α × Value)) (a : α) (z : Value) : (mget (mtouch l a z) a).getD z = (mget l a).getD z := by
  unfold mtouch
  cases h : mget l a with
  | some v => simp [h]
  | none => simp [look_append, h, look_cons]
theorem put_touch (l : List (α × Value)) (a : α) (z u : Value) (hnd : (l.map (·.1)).Nodup) : mput (mtouch l a z) a u = mput l a u := by
  unfold mtouch
  cases h : mget l a with
  | some v => simp
  | none =>
    unfold mput
    rw [any_iff, any_iff]
    have hn := look_none.1 h
    simp only [Option.isSome_none, Bool.false_eq_true, if_false, h]
    rw [look_append, h]
    simp only [Option.none_or, look_cons, if_true, Option.isSome_some]
    rw [List.map_append]
    congr 1
    · conv => rhs; rw [← List.map_id l]
      apply List.map_congr_left
      intro p hp
      rw [if_neg (hn p hp)]; rfl
    · simp
theorem born_idx {E : Array MapEntry} (hbd : (E.toList.map (·.born)).Nodup) {j : Nat} {e : MapEntry} (he : E[j]? = some e) : E.findIdx? (fun x => (x.born : Int) == (e.born : Int)) = some j := by
  have hj : j < E.size := by
    rcases Nat.lt_or_ge j E.size with q | q
    · exact q
    · simp [Array.getElem?_eq_none q] at he
  rw [Array.findIdx?_eq_some_iff_getElem]
  have hej : E[j] = e := by simpa [hj] using he
  refine ⟨hj, by rw [hej]; simp, fun k hk => ?_⟩
  have hkE : k < E.size := by omega
  simp only [beq_iff_eq]
  intro hbk
  have h1 : (E.toList.map (·.born))[k]'(by simpa using hkE) = (E.toList.map (·.born))[j]'(by simpa using hj) := by
    simp only [List.getElem_map, Array.getElem_toList]
    rw [hej]; omega
  have := (List.getElem_inj hbd).1 h1
  omega
theorem modify_val (E : Array MapEntry) (j : Nat) (v : Value) : (E.modify j fun e => { e with val := v }).toList.map (fun e => (e.key, e.val)) = match E[j]? with | some e => (E.toList.map (fun e => (e.key, e.val))).set j (e.key, v) | none => E.toList.map (fun e => (e.key, e.val)) := by
  cases hj : E[j]? with
  | none =>
    have hge : E.size ≤ j := by
      rcases Nat.lt_or_ge j E.size with q | q
      · simp [q] at hj
      · exact q
    simp only
    apply List.ext_getElem?
    intro i
    rw [List.getElem?_map, List.getElem?_map, Array.getElem?_toList, Array.getElem?_toList, Array.getElem?_modify]
    by_cases h : j = i
    · subst h; simp [hj]
    · rw [if_neg h]
  | some e =>
    simp only
    apply List.ext_getElem?
    intro i
    rw [List.getElem?_map, Array.getElem?_toList, Array.getElem?_modify, List.getElem?_set, List.getElem?_map, List.length_map, Array.length_toList]
    by_cases h : j = i
    · subst h
      have hl : j < E.size := by
        rcases Nat.lt_or_ge j E.size with q | q
        · exact q
        · simp [Array.getElem?_eq_none q] at hj
      rw [if_pos rfl, if_pos rfl, if_pos hl, hj]; rfl
    · rw [if_neg h, if_neg h]; simp
theorem modify_valborn (E : Array MapEntry) (j : Nat) (v : Value) : (E.modify j fun e => { e with val := v }).toList.map (·.born) = E.toList.map (·.born) := by
  apply List.ext_getElem?
  intro i
  rw [List.getElem?_map, Array.getElem?_toList, Array.getElem?_modify, List.getElem?_map, Array.getElem?_toList]
  by_cases h : j = i
  · subst h; simp; rfl
  · rw [if_neg h]
theorem modify_key (E : Array MapEntry) (j : Nat) (key : Value) {e : MapEntry} (he : E[j]? = some e) (hk : e.key = key) : (E.modify j fun e => { e with key }).toList = E.toList := by
  apply List.ext_getElem?
  intro i
  rw [Array.getElem?_toList, Array.getElem?_modify, Array.getElem?_toList]
  by_cases h : j = i
  · subst h; rw [if_pos rfl, he]; subst hk; rfl
  · rw [if_neg h]

/-- 'm[k]' as a place: the entry is found, or laid; then a value is stored into it -/
theorem MapIs.run_entry (h : MapIs P kt enc w b l) (K : Keyed P kt) (hinj : ∀ a c, enc a = enc c → a = c) {t et : TypeId} (ht : P.underlying t = some (.map kt et)) {z : Value} (hz : ∀ w, (zeroValue et).run P w = .ok z w) (a : α) {x : Lit} (ha : keyOf P kt (enc a) = some x) :
    ∃ w' n, (Instr.mapEntry t (.map (some b)) (enc a)).run P w = .ok (.tuple #[(mget l a).getD z, .int .i64 n]) w' ∧ MapIs P kt enc w' b (mtouch l a z) ∧ Turned [b] w w' ∧
      ∀ u, ∃ w2, (Instr.entryStore t (.map (some b)) (.int .i64 n) u).run P w' = .ok () w2 ∧ MapIs P kt enc w2 b (mput l a u) ∧ Turned [b] w' w2 := by
  obtain ⟨E, clock, hb, h2, hnd, hk, hbn, hbd⟩ := h
  have store : ∀ (w' : World) (E' : Array MapEntry) (clock' j : Nat) (e : MapEntry) (l' : List (α × Value)), w'.heap[b]? = some (.map E' clock') → E'.toList.map (fun e => (e.key, e.val)) = l'.map (fun p => (enc p.1, p.2)) → (l'.map (·.1)).Nodup →
      (∀ p ∈ l', ∃ x, keyOf P kt (enc p.1) = some x) → (∀ e ∈ E'.toList, e.born < clock') → (E'.toList.map (·.born)).Nodup → E'[j]? = some e → e.key = enc a → (∃ v, l'[j]? = some (a, v)) →
      ∀ u, ∃ w2, (Instr.entryStore t (.map (some b)) (.int .i64 e.born) u).run P w' = .ok () w2 ∧ MapIs P kt enc w2 b (mput l' a u) ∧ Turned [b] w' w2 := by
    intro w' E' clock' j e l' hb' h2' hnd' hk' hbn' hbd' he hek ⟨v, hlj⟩ u
    refine ⟨setBlock w' b (.map (E'.modify j fun e => { e with val := u }) clock'), ?_, ?_, (Turned.refl _ _).laid (.inl (by simp)) _⟩
    · simp [Instr.entryStore, MapKept.run_getObj_map hb', asInt, asIntOf, born_idx hbd' he, MapKept.run_setObj_map _ hb', Result.andThen, setBlock]
    · refine ⟨_, _, set_at hb', ?_, nodup_put hnd' a u, ?_, ?_, ?_⟩
      · rw [modify_val, he, put_at hnd' hlj u, List.map_set]
        simp only
        rw [h2', hek]
      · intro p hp
        rw [put_at hnd' hlj u] at hp
        rcases List.mem_or_eq_of_mem_set hp with hp | rfl
        · exact hk' p hp
        · exact ⟨x, ha⟩
      · intro y hy
        have : y.born ∈ (E'.modify j fun e => { e with val := u }).toList.map (·.born) := List.mem_map_of_mem hy
        rw [modify_valborn] at this
        obtain ⟨z, hz, hzb⟩ := List.mem_map.1 this
        rw [← hzb]; exact hbn' z hz
      · rw [modify_valborn]; exact hbd'
  rcases find_pos K hinj h2 hnd hk w a ha with ⟨f1, f2⟩ | ⟨j, u, f1, f2, f3⟩
  · have ht' : mtouch l a z = l ++ [(a, z)] := by unfold mtouch; rw [f2]; rfl
    have hp2 : (E.push ⟨enc a, z, clock⟩).toList.map (fun e => (e.key, e.val)) = (l ++ [(a, z)]).map (fun p => (enc p.1, p.2)) := by simp [h2]
    have hnd2 : ((l ++ [(a, z)]).map (·.1)).Nodup := by
      have := nodup_put hnd a z
      rwa [show mput l a z = l ++ [(a, z)] by unfold mput; rw [any_iff, f2]; rfl] at this
    have hk2 : ∀ p ∈ l ++ [(a, z)], ∃ x, keyOf P kt (enc p.1) = some x := by
      intro p hp
      rcases List.mem_append.1 hp with hp | hp
      · exact hk p hp
      · simp only [List.mem_singleton] at hp; subst hp; exact ⟨x, ha⟩
    have hbn2 : ∀ e ∈ (E.push ⟨enc a, z, clock⟩).toList, e.born < clock + 1 := by
      intro e he
      simp only [Array.toList_push, List.mem_append, List.mem_singleton] at he
      rcases he with he | rfl
      · have := hbn e he; omega
      · simp
    have hbd2 : ((E.push ⟨enc a, z, clock⟩).toList.map (·.born)).Nodup := by
      simp only [Array.toList_push, List.map_append, List.map_cons, List.map_nil, List.nodup_append]
      refine ⟨hbd, by simp, fun y hy z hz => ?_⟩
      obtain ⟨e, he, rfl⟩ := List.mem_map.1 hy
      simp only [List.mem_singleton] at hz
      have := hbn e he
      omega
    have hlen : E.size = l.length := by have := congrArg List.length h2; simpa using this
    refine ⟨setBlock w b (.map (E.push ⟨enc a, z, clock⟩) (clock + 1)), clock, ?_, ?_, (Turned.refl _ _).laid (.inl (by simp)) _, ?_⟩
    · simp [Instr.mapEntry, run_underlying ht, MapKept.run_getObj_map hb, K.check w _ ha, f1, f2, hz, MapKept.run_setObj_map _ hb, Result.andThen, setBlock, goInt]
    · rw [ht']; exact ⟨_, _, set_at hb, hp2, hnd2, hk2, hbn2, hbd2⟩
    · intro u
      have := store _ _ _ E.size ⟨enc a, z, clock⟩ _ (set_at hb) hp2 hnd2 hk2 hbn2 hbd2 (by simp) rfl ⟨z, by rw [hlen]; simp⟩ u
      rw [← ht', put_touch l a z u hnd] at this
      exact this
  · have hj : j < l.length := by rcases Nat.lt_or_ge j l.length with q | q; exact q; simp [List.getElem?_eq_none q] at f2
    have hlen : E.toList.length = l.length := by have := congrArg List.length h2; simpa using this
    have hej : ∃ e, E[j]? = some e ∧ e.key = enc a ∧ e.val = u := by
      have hjE : j < E.size := by rw [Array.length_toList] at hlen; omega
      refine ⟨E[j], by simp [hjE], ?_⟩
      have := congrArg (·[j]?) h2
      simp only [List.getElem?_map, f2, Array.getElem?_toList] at this
      simp [hjE] at this
      exact this
    obtain ⟨e, he, hek, hev⟩ := hej
    have ht' : mtouch l a z = l := by unfold mtouch; rw [f3]; rfl
    have hl2 := modify_key E j (enc a) he hek
    have he2 : (E.modify j fun e => { e with key := enc a })[j]? = some e := by
      have := congrArg (·[j]?) hl2
      simp only [Array.getElem?_toList] at this
      rw [this, he]
    refine ⟨setBlock w b (.map (E.modify j fun e => { e with key := enc a }) clock), e.born, ?_, ?_, (Turned.refl _ _).laid (.inl (by simp)) _, ?_⟩
    · simp [Instr.mapEntry, run_underlying ht, MapKept.run_getObj_map hb, K.check w _ ha, f1, f3, he, hek, K.stays w ha, MapKept.run_setObj_map _ hb, Result.andThen, setBlock, goInt]
    · rw [ht']; exact ⟨_, _, set_at hb, by rw [hl2]; exact h2, hnd, hk, by rw [hl2]; exact hbn, by rw [hl2]; exact hbd⟩
    · intro v
      have := store _ _ _ j e l (set_at hb) (by rw [hl2]; exact h2) hnd hk (by rw [hl2]; exact hbn) (by rw [hl2]; exact hbd) he2 hek ⟨u, f2⟩ v
      exact this
end
end Go.Proofs.Ytmpbhoijkcanmaa.G
