/- The map of the flaws: what lookup, update and delete do to it. No function is walked here. -/
import Derived.Test.YtcgapfmdpchemaaList
import Derived.MapKept
namespace Go.Proofs.Ytcgapfmdpchemaa
open Go.RowKit Go.MapKept
theorem iv_inj {a b : Nat} (h : iv a = iv b) : a = b := by
  simp [iv] at h; omega
theorem keys_are {es : List MapEntry} {f : Nat → Option (Nat × UInt8)} (h : FlawsIn es f) : ∀ x ∈ es, IsKey (.int .i64) x.key := fun x hx => by
  obtain ⟨k, _, _, hk, _⟩ := h.1 x hx
  rw [hk]
  exact rfl
/-- what is found at a key -/
theorem flaw_found {es : List MapEntry} {f : Nat → Option (Nat × UInt8)} (h : FlawsIn es f) (k : Nat) :
    (f k = none ∧ Instr.findNow (.int .i64) (iv k) es 0 = some none ∧ ∀ e ∈ es, e.key ≠ iv k) ∨
    (∃ j at_ fl e, f k = some (at_, fl) ∧ es[j]? = some e ∧ e.key = iv k ∧ e.val = .agg #[iv at_, bv fl] ∧ Instr.findNow (.int .i64) (iv k) es 0 = some (some (j, e.val))) := by
  rcases findNow_spec (d := .int .i64) (k := iv k) rfl es 0 (keys_are h) with ⟨h1, h2⟩ | ⟨j, e, h1, h2, h3⟩
  · refine .inl ⟨?_, h1, h2⟩
    cases hf : f k with
    | none => rfl
    | some x =>
      obtain ⟨e, he, hk⟩ := h.2.1 k x.1 x.2 (by rw [hf])
      exact absurd hk (h2 e he)
  · obtain ⟨q, at_, fl, hk, hv, hf⟩ := h.1 e (List.mem_of_getElem? h2)
    obtain rfl : q = k := iv_inj (hk.symm.trans h3)
    refine .inr ⟨j, at_, fl, e, hf, h2, h3, hv, by rw [h1, Nat.zero_add]⟩
theorem key_apart {es : List MapEntry} {f : Nat → Option (Nat × UInt8)} (h : FlawsIn es f) {i j : Nat} {x y : MapEntry} (hi : es[i]? = some x) (hj : es[j]? = some y) (hk : x.key = y.key) : i = j := by
  obtain ⟨hi', rfl⟩ := List.getElem?_eq_some_iff.1 hi
  obtain ⟨hj', rfl⟩ := List.getElem?_eq_some_iff.1 hj
  have hp := List.pairwise_iff_getElem.1 h.2.2
  rcases Nat.lt_trichotomy i j with hlt | rfl | hlt
  · exact absurd hk (hp i j hi' hj' hlt)
  · rfl
  · exact absurd hk.symm (hp j i hj' hi' hlt)
/-- one key taken out -/
theorem flaws_erase {es : List MapEntry} {f : Nat → Option (Nat × UInt8)} (h : FlawsIn es f) {k j : Nat} {e : MapEntry} (he : es[j]? = some e) (hk : e.key = iv k) : FlawsIn (es.eraseIdx j) (fun q => if q = k then none else f q) := by
  have hmem : ∀ x ∈ es.eraseIdx j, x ∈ es := fun x hx => List.mem_of_mem_eraseIdx hx
  refine ⟨fun x hx => ?_, fun q at_ fl hq => ?_, h.2.2.sublist (List.eraseIdx_sublist _ _)⟩
  · obtain ⟨q, at_, fl, h1, h2, h3⟩ := h.1 x (hmem x hx)
    refine ⟨q, at_, fl, h1, h2, ?_⟩
    have : q ≠ k := by
      rintro rfl
      obtain ⟨i, hij, hi⟩ := List.mem_eraseIdx_iff_getElem?.1 hx
      exact hij (key_apart h hi he (h1.trans hk.symm))
    simp only [this, if_false, h3]
  · by_cases hqk : q = k
    · simp [hqk] at hq
    · simp only [hqk, if_false] at hq
      obtain ⟨x, hx, hxk⟩ := h.2.1 q at_ fl hq
      obtain ⟨i, hi⟩ := List.getElem?_of_mem hx
      refine ⟨x, List.mem_eraseIdx_iff_getElem?.2 ⟨i, ?_, hi⟩, hxk⟩
      rintro rfl
      rw [he] at hi
      cases hi
      exact hqk (iv_inj (hxk.symm.trans hk))
theorem flaws_none {es : List MapEntry} {f : Nat → Option (Nat × UInt8)} (h : FlawsIn es f) {k : Nat} (hk : f k = none) : FlawsIn es (fun q => if q = k then none else f q) := by
  have : (fun q => if q = k then none else f q) = f := by
    funext q
    by_cases hq : q = k
    · simp [hq, hk]
    · simp [hq]
  rw [this]; exact h
theorem flaws_push {es : List MapEntry} {f : Nat → Option (Nat × UInt8)} (h : FlawsIn es f) {k at_ : Nat} {fl : UInt8} (hn : ∀ e ∈ es, e.key ≠ iv k) (b : Nat) : FlawsIn (es ++ [{ key := iv k, val := .agg #[iv at_, bv fl], born := b }]) (fun q => if q = k then some (at_, fl) else f q) := by
  refine ⟨fun x hx => ?_, fun q a l hq => ?_, ?_⟩
  · rcases List.mem_append.1 hx with hx' | hx'
    · obtain ⟨q, a, l, h1, h2, h3⟩ := h.1 x hx'
      refine ⟨q, a, l, h1, h2, ?_⟩
      have : q ≠ k := by rintro rfl; exact hn x hx' h1
      simp only [this, if_false, h3]
    · obtain rfl := List.mem_singleton.1 hx'
      exact ⟨k, at_, fl, rfl, rfl, by simp⟩
  · by_cases hqk : q = k
    · exact ⟨_, List.mem_append_right _ (List.mem_singleton_self _), by rw [hqk]⟩
    · simp only [hqk, if_false] at hq
      obtain ⟨x, hx, hxk⟩ := h.2.1 q a l hq
      exact ⟨x, List.mem_append_left _ hx, hxk⟩
  · rw [List.pairwise_append]
    refine ⟨h.2.2, List.pairwise_singleton _ _, fun x hx y hy => ?_⟩
    obtain rfl := List.mem_singleton.1 hy
    exact hn x hx
theorem flaws_set {es : List MapEntry} {f : Nat → Option (Nat × UInt8)} (h : FlawsIn es f) {k j at_ : Nat} {fl : UInt8} {e : MapEntry} (he : es[j]? = some e) (hk : e.key = iv k) : FlawsIn (es.set j { e with key := iv k, val := .agg #[iv at_, bv fl] }) (fun q => if q = k then some (at_, fl) else f q) := by
  obtain ⟨hj, rfl⟩ := List.getElem?_eq_some_iff.1 he
  have hkey : ∀ i, (hi : i < es.length) → ((es.set j { es[j] with key := iv k, val := .agg #[iv at_, bv fl] })[i]'(by simpa using hi)).key = es[i].key := fun i hi => by
    rw [List.getElem_set]
    split
    · rename_i hji; subst hji; exact hk.symm
    · rfl
  refine ⟨fun x hx => ?_, fun q a l hq => ?_, ?_⟩
  · obtain ⟨i, hi, rfl⟩ := List.mem_iff_getElem.1 hx
    have hi' : i < es.length := by rwa [List.length_set] at hi
    rw [List.getElem_set]
    split
    · exact ⟨k, at_, fl, rfl, rfl, by simp⟩
    · rename_i hji
      obtain ⟨q, a, l, h1, h2, h3⟩ := h.1 es[i] (List.getElem_mem hi')
      refine ⟨q, a, l, h1, h2, ?_⟩
      have : q ≠ k := by
        intro hqk
        exact hji (key_apart h he (List.getElem?_eq_getElem hi') (hk.trans (by rw [h1, hqk])))
      simp only [this, if_false, h3]
  · by_cases hqk : q = k
    · refine ⟨_, List.mem_iff_getElem.2 ⟨j, by simpa using hj, rfl⟩, ?_⟩
      rw [hkey j hj, hk, hqk]
    · simp only [hqk, if_false] at hq
      obtain ⟨x, hx, hxk⟩ := h.2.1 q a l hq
      obtain ⟨i, hi, rfl⟩ := List.mem_iff_getElem.1 hx
      exact ⟨_, List.mem_iff_getElem.2 ⟨i, by simpa using hi, rfl⟩, by rw [hkey i hi, hxk]⟩
  · rw [List.pairwise_iff_getElem]
    intro i i' hi hi' hlt
    rw [List.length_set] at hi hi'
    rw [hkey i hi, hkey i' hi']
    exact List.pairwise_iff_getElem.1 h.2.2 i i' hi hi' hlt
/-- a map's entries turned -/
theorem DiskAt.setMap {w w' : World} {bd bp bm : Nat} {C : Cn} (h : DiskAt w bd bp bm C) {es : Array MapEntry} {ck : Nat} {f : Nat → Option (Nat × UInt8)} (hm : w'.heap[bm]? = some (.map es ck)) (hf : FlawsIn es.toList f) (hO : Only bm w w') : DiskAt w' bd bp bm { C with flaws := f } :=
  ⟨(hO.block _ h.ne.2.1).trans h.d, (hO.block _ h.ne.2.2).trans h.p, ⟨es, ck, hm, hf⟩, h.len, h.two, h.small⟩
theorem only_set {w : World} {b : Nat} {o o' : Obj} (hb : w.heap[b]? = some o) : Only b w { w with heap := w.heap.setIfInBounds b o' } ∧ ({ w with heap := w.heap.setIfInBounds b o' } : World).heap[b]? = some o' :=
  ⟨⟨rfl, rfl, rfl, by simp, fun k hk => (heap_set (o' := o') hb).2 k hk⟩, (heap_set hb).1⟩
def healF (f : Nat → Option (Nat × UInt8)) (k : Nat) : Nat → Option (Nat × UInt8) := fun q => if q = k then none else f q
def hurtF (f : Nat → Option (Nat × UInt8)) (k at_ : Nat) (fl : UInt8) : Nat → Option (Nat × UInt8) := fun q => if q = k then some (at_, fl) else f q
theorem key3 (k : Nat) : IsKey (.int .i64) (iv k) := rfl
theorem run_heal {w : World} {bd bp bm : Nat} {C : Cn} (h : DiskAt w bd bp bm C) (k : Nat) (ty : TypeId) : ∃ w', (Builtin.delete_ #[68, 3] ty #[.map (some bm), iv k]).run Try.prog w = .ok (.tuple #[]) w' ∧ DiskAt w' bd bp bm { C with flaws := healF C.flaws k } ∧ Only bm w w' := by
  obtain ⟨es, ck, hm, hf⟩ := h.m
  rcases flaw_found hf k with ⟨h1, h2, h3⟩ | ⟨j, at_, fl, e, h1, h2, h3, h4, h5⟩
  · obtain ⟨hO, hb⟩ := only_set (o' := .map es ck) hm
    refine ⟨_, ?_, h.setMap hb (flaws_none hf h1) hO, hO⟩
    simp [Builtin.delete_, run_underlying Try.underlying68, MapKept.run_getObj_map hm, run_checkKey Try.underlying3 (key3 k), run_findKey Try.underlying3 h2, run_setObj_map _ hm]
  · obtain ⟨hO, hb⟩ := only_set (o' := .map (es.eraseIdxIfInBounds j) ck) hm
    refine ⟨_, ?_, h.setMap hb (by rw [Array.toList_eraseIdxIfInBounds]; exact flaws_erase hf h2 h3) hO, hO⟩
    simp [Builtin.delete_, run_underlying Try.underlying68, MapKept.run_getObj_map hm, run_checkKey Try.underlying3 (key3 k), run_findKey Try.underlying3 h5, run_setObj_map _ hm]
theorem run_hurt {w : World} {bd bp bm : Nat} {C : Cn} (h : DiskAt w bd bp bm C) (k at_ : Nat) (fl : UInt8) : ∃ w', (Instr.mapUpdate 68 (.map (some bm)) (iv k) (.agg #[iv at_, bv fl])).run Try.prog w = .ok () w' ∧ DiskAt w' bd bp bm { C with flaws := hurtF C.flaws k at_ fl } ∧ Only bm w w' := by
  obtain ⟨es, ck, hm, hf⟩ := h.m
  rcases flaw_found hf k with ⟨h1, h2, h3⟩ | ⟨j, at2, fl2, e, h1, h2, h3, h4, h5⟩
  · obtain ⟨hO, hb⟩ := only_set (o' := .map (es.push { key := iv k, val := .agg #[iv at_, bv fl], born := ck }) (ck + 1)) hm
    refine ⟨_, ?_, h.setMap hb (by rw [Array.toList_push]; exact flaws_push hf h3 ck) hO, hO⟩
    simp [Instr.mapUpdate, run_underlying Try.underlying68, MapKept.run_getObj_map hm, run_checkKey Try.underlying3 (key3 k), run_findKey Try.underlying3 h2, run_setObj_map _ hm]
  · obtain ⟨hO, hb⟩ := only_set (o' := .map (es.modify j fun e => { e with key := iv k, val := .agg #[iv at_, bv fl] }) ck) hm
    have h2a : es[j]? = some e := by simpa using h2
    refine ⟨_, ?_, h.setMap hb ?_ hO, hO⟩
    · simp [Instr.mapUpdate, run_underlying Try.underlying68, MapKept.run_getObj_map hm, run_checkKey Try.underlying3 (key3 k), run_findKey Try.underlying3 h5, run_setObj_map _ hm, h2a, h3, run_keyThatStays (key3 k)]
    · have := flaws_set hf h2 h3 (at_ := at_) (fl := fl)
      rw [Array.toList_modify]
      have e1 : es.toList.modify j (fun e => { e with key := iv k, val := .agg #[iv at_, bv fl] }) = es.toList.set j { e with key := iv k, val := .agg #[iv at_, bv fl] } := by
        apply List.ext_getElem?
        intro i
        rw [List.getElem?_modify, List.getElem?_set]
        by_cases hij : j = i
        · subst hij
          rw [h2]
          have hj' := (List.getElem?_eq_some_iff.1 h2).1
          rw [Array.length_toList] at hj'
          simp [hj']
        · simp [hij]
      rw [e1]; exact this
theorem zero108 (w : World) : (zeroValue 108).run Try.prog w = .ok (.agg #[iv 0, bv 0]) w := by kernel_rfl
theorem run_flaw {w : World} {bd bp bm : Nat} {C : Cn} (h : DiskAt w bd bp bm C) (k : Nat) : (Instr.lookup 68 (.map (some bm)) (iv k) true).run Try.prog w = .ok (.tuple #[.agg #[iv ((C.flaws k).getD (0, 0)).1, bv ((C.flaws k).getD (0, 0)).2], .bool (C.flaws k).isSome]) w := by
  obtain ⟨es, ck, hm, hf⟩ := h.m
  rcases flaw_found hf k with ⟨h1, h2, h3⟩ | ⟨j, at2, fl2, e, h1, h2, h3, h4, h5⟩
  · simp [Instr.lookup, run_underlying Try.underlying68, MapKept.run_getObj_map hm, run_checkKey Try.underlying3 (key3 k), run_findKey Try.underlying3 h2, h1]
    exact ⟨rfl, rfl⟩
  · simp [Instr.lookup, run_underlying Try.underlying68, MapKept.run_getObj_map hm, run_checkKey Try.underlying3 (key3 k), run_findKey Try.underlying3 h5, h1, h4]
end Go.Proofs.Ytcgapfmdpchemaa
