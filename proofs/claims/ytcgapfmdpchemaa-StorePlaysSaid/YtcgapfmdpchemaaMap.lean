/- The map of the flaws: what lookup, update and delete do to it. No function is walked here. -/
import Derived.Test.YtcgapfmdpchemaaList
import Derived.MapKept
namespace Go.Proofs.Ytcgapfmdpchemaa
open Go.RowKit Go.MapKept
theorem iv_inj {a b : Nat} (h : iv a = iv b) : a = b := by
  simp [iv] at h; omega
theorem keys_are {es : List MapEntry} {f : Nat → Option (Nat × UInt8)} (h : FlawsIn es f) : ∀ x ∈ es, IsKey (.int .i64) x.key := fun x hx => by
  obtain ⟨k, _, _, hk, _⟩ := h.1 x hx
  rw [hk]
  exact rfl
/-- what is found at a key -/
theorem flaw_found {es : List MapEntry} {f : Nat → Option (Nat × UInt8)} (h : FlawsIn es f) (k : Nat) :
    (f k = none ∧ Instr.findNow (.int .i64) (iv k) es 0 = some none ∧ ∀ e ∈ es, e.key ≠ iv k) ∨
    (∃ j at_ fl e, f k = some (at_, fl) ∧ es[j]? = some e ∧ e.key = iv k ∧ e.val = .agg #[iv at_, bv fl] ∧ Instr.findNow (.int .i64) (iv k) es 0 = some (some (j, e.val))) := by
  rcases findNow_spec (d := .int .i64) (k := iv k) rfl es 0 (keys_are h) with ⟨h1, h2⟩ | ⟨j, e, h1, h2, h3⟩
  · refine .inl ⟨?_, h1, h2⟩
    cases hf : f k with
    | none => rfl
    | some x =>
      obtain ⟨e, he, hk⟩ := h.2.1 k x.1 x.2 (by rw [hf])
      exact absurd hk (h2 e he)
  · obtain ⟨q, at_, fl, hk, hv, hf⟩ := h.1 e (List.mem_of_getElem? h2)
    obtain rfl : q = k := iv_inj (hk.symm.trans h3)
    refine .inr ⟨j, at_, fl, e, hf, h2, h3, hv, by rw [h1, Nat.zero_add]⟩
theorem key_apart {es : List MapEntry} {f : Nat → Option (Nat × UInt8)} (h : FlawsIn es f) {i j : Nat} {x y : MapEntry} (hi : es[i]? = some x) (hj : es[j]? = some y) (hk : x.key = y.key) : i = j := by
  obtain ⟨hi', rfl⟩ := List.getElem?_eq_some_iff.1 hi
  obtain ⟨hj', rfl⟩ := List.getElem?_eq_some_iff.1 hj
  have hp := List.pairwise_iff_getElem.1 h.2.2
  rcases Nat.lt_trichotomy i j with hlt | rfl | hlt
  · exact absurd hk (hp i j hi' hj' hlt)
  · rfl
  · exact absurd hk.symm (hp j i hj' hi' hlt)
/-- one key taken out -/
theorem flaws_erase {es : List MapEntry} {f : Nat → Option (Nat × UInt8)} (h : FlawsIn es f) {k j : Nat} {e : MapEntry} (he : es[j]? = some e) (hk : e.key = iv k) : FlawsIn (es.eraseIdx j) (fun q => if q = k then none else f q) := by
  have hmem : ∀ x ∈ es.eraseIdx j, x ∈ es := fun x hx => List.mem_of_mem_eraseIdx hx
  refine ⟨fun x hx => ?_, fun q at_ fl hq => ?_, h.2.2.sublist (List.eraseIdx_sublist _ _)⟩
  · obtain ⟨q, at_, fl, h1, h2, h3⟩ := h.1 x (hmem x hx)
    refine ⟨q, at_, fl, h1, h2, ?_⟩
    have : q ≠ k := by
      rintro rfl
      obtain ⟨i, hij, hi⟩ := List.mem_eraseIdx_iff_getElem?.1 hx
      exact hij (key_apart h hi he (h1.trans hk.symm))
    simp only [this, if_false, h3]
  · by_cases hqk : q = k
    · simp [hqk] at hq
    · simp only [hqk, if_false] at hq
      obtain ⟨x, hx, hxk⟩ := h.2.1 q at_ fl hq
      obtain ⟨i, hi⟩ := List.getElem?_of_mem hx
      refine ⟨x, List.mem_eraseIdx_iff_getElem?.2 ⟨i, ?_, hi⟩, hxk⟩
      rintro rfl
      rw [he] at hi
      cases hi
      exact hqk (iv_inj (hxk.symm.trans hk))
theorem flaws_none {es : List MapEntry} {f : Nat → Option (Nat × UInt8)} (h : FlawsIn es f) {k : Nat} (hk : f k = none) : FlawsIn es (fun q => if q = k then none else f q) := by
  have : (fun q => if q = k then none else f q) = f := by
    funext q
    by_cases hq : q = k
    · simp [hq, hk]
    · simp [hq]
  rw [this]; exact h
theorem flaws_push {es : List MapEntry} {f : Nat → Option (Nat × UInt8)} (h : FlawsIn es f) {k at_ : Nat} {fl : UInt8} (hn : ∀ e ∈ es, e.key ≠ iv k) (b : Nat) : FlawsIn (es ++ [{ key := iv k, val := .agg #[iv at_, bv fl], born := b }]) (fun q => if q = k then some (at_, fl) else f q) := by
  refine ⟨fun x hx => ?_, fun q a l hq => ?_, ?_⟩
  · rcases List.mem_append.1 hx with hx' | hx'
    · obtain ⟨q, a, l, h1, h2, h3⟩ := h.1 x hx'
      refine ⟨q, a, l, h1, h2, ?_⟩
      have : q ≠ k := by rintro rfl; exact hn x hx' h1
      simp only [this, if_false, h3]
    · obtain rfl := List.mem_singleton.1 hx'
      exact ⟨k, at_, fl, rfl, rfl, by simp⟩
  · by_cases hqk : q = k
    · exact ⟨_, List.mem_append_right _ (List.mem_singleton_self _), by rw [hqk]⟩
    · simp only [hqk, if_false] at hq
      obtain ⟨x, hx, hxk⟩ := h.2.1 q a l hq
      exact ⟨x, List.mem_append_left _ hx, hxk⟩
  · rw [List.pairwise_append]
    refine ⟨h.2.2, List.pairwise_singleton _ _, fun x hx y hy => ?_⟩
    obtain rfl := List.mem_singleton.1 hy
    exact hn x hx
theorem flaws_set {es : List MapEntry} {f : Nat → Option (Nat × UInt8)} (h : FlawsIn es f) {k j at_ : Nat} {fl : UInt8} {e : MapEntry} (he : es[j]? = some e) (hk : e.key = iv k) : FlawsIn (es.set j { e with key := iv k, val := .agg #[iv at_, bv fl] }) (fun q => if q = k then some (at_, fl) else f q) := by
  obtain ⟨hj, rfl⟩ := List.getElem?_eq_some_iff.1 he
  have hkey : ∀ i, (hi : i < es.length) → ((es.set j { es[j] with key := iv k, val := .agg #[iv at_, bv fl] })[i]'(by simpa using hi)).key = es[i].key := fun i hi => by
    rw [List.getElem_set]
    split
    · rename_i hji; subst hji; exact hk.symm
    · rfl
  refine ⟨fun x hx => ?_, fun q a l hq => ?_, ?_⟩
  · obtain ⟨i, hi, rfl⟩ := List.mem_iff_getElem.1 hx
    have hi' : i < es.length := by rwa [List.length_set] at hi
    rw [List.getElem_set]
    split
    · exact ⟨k, at_, fl, rfl, rfl, by simp⟩
    · rename_i hji
      obtain ⟨q, a, l, h1, h2, h3⟩ := h.1 es[i] (List.getElem_mem hi')
      refine ⟨q, a, l, h1, h2, ?_⟩
      have : q ≠ k := by
        intro hqk
        exact hji (key_apart h he (List.getElem?_eq_getElem hi') (hk.trans (by rw [h1, hqk])))
      simp only [this, if_false, h3]
  · by_cases hqk : q = k
    · refine ⟨_, List.mem_iff_getElem.2 ⟨j, by simpa using hj, rfl⟩, ?_⟩
      rw [hkey j hj, hk, hqk]
    · simp only [hqk, if_false] at hq
      obtain ⟨x, hx, hxk⟩ := h.2.1 q a l hq
      obtain ⟨i, hi, rfl⟩ := List.mem_iff_getElem.1 hx
      exact ⟨_, List.mem_iff_getElem.2 ⟨i, by simpa using hi, rfl⟩, by rw [hkey i hi, hxk]⟩
  · rw [List.pairwise_iff_getElem]
    intro i i' hi hi' hlt
    rw [List.length_set] at hi hi'
    rw [hkey i hi, hkey i' hi']
    exact List.pairwise_iff_getElem.1 h.2.2 i i' hi hi' hlt
/-- a map's entries turned -/
theorem DiskAt.setMap {w w' : World} {bd bp bm : Nat} {C : Cn} (h : DiskAt w bd bp bm C) {es : Array MapEntry} {ck : Nat} {f : Nat → Option (Nat × UInt8)} (hm : w'.heap[bm]? = some (.map es ck)) (hf : FlawsIn es.toList f) (hO : Only bm w w') : DiskAt w' bd bp bm { C with flaws := f } :=
  ⟨(hO.block _ h.ne.2.1).trans h.d, (hO.block _ h.ne.2.2).trans h.p, ⟨es, ck, hm, hf⟩, h.len, h.two, h.small⟩
theorem only_set {w : World} {b : Nat} {o o' : Obj} (hb : w.heap[b]? = some o) : Only b w { w with heap := w.heap.setIfInBounds b o' } ∧ ({ w with heap := w.heap.setIfInBounds b o' } : World).heap[b]? = some o' :=
  ⟨⟨rfl, rfl, rfl, by simp, fun k hk => (heap_set (o' := o') hb).2 k hk⟩, (heap_set hb).1⟩
def healF (f : Nat → Option (Nat × UInt8)) (k : Nat) : Nat → Option (Nat × UInt8) := fun q => if q = k then none else f q
def hurtF (f : Nat → Option (Nat × UInt8)) (k at_ : Nat) (fl : UInt8) : Nat → Option (Nat × UInt8) := fun q => if q = k then some (at_, fl) else f q
theorem key3 (k : Nat) : IsKey (.int .i64) (iv k) := rfl
theorem run_heal {w : World} {bd bp bm : Nat} {C : Cn} (h : DiskAt w bd bp bm C) (k : Nat) (ty : TypeId) : ∃ w', (Builtin.delete_ #[68, 3] ty #[.map (some bm), iv k]).run Try.prog w = .ok (.tuple #[]) w' ∧ DiskAt w' bd bp bm { C with flaws := healF C.flaws k } ∧ Only bm w w' := by
  obtain ⟨es, ck, hm, hf⟩ := h.m
  rcases flaw_found hf k with ⟨h1, h2, h3⟩ | ⟨j, at_, fl, e, h1, h2, h3, h4, h5⟩
  · obtain ⟨hO, hb⟩ := only_set (o' := .map es ck) hm
    refine ⟨_, ?_, h.setMap hb (flaws_none hf h1) hO, hO⟩
    simp [Builtin.delete_, run_underlying Try.underlying68, MapKept.run_getObj_map hm, run_checkKey Try.underlying3 (key3 k), run_findKey Try.underlying3 h2, run_setObj_map _ hm]
  · obtain ⟨hO, hb⟩ := only_set (o' := .map (es.eraseIdxIfInBounds j) ck) hm
    refine ⟨_, ?_, h.setMap hb (by rw [Array.toList_eraseIdxIfInBounds]; exact flaws_erase hf h2 h3) hO, hO⟩
    simp [Builtin.delete_, run_underlying Try.underlying68, MapKept.run_getObj_map hm, run_checkKey Try.underlying3 (key3 k), run_findKey Try.underlying3 h5, run_setObj_map _ hm]
theorem run_hurt {w : World} {bd bp bm : Nat} {C : Cn} (h : DiskAt w bd bp bm C) (k at_ : Nat) (fl : UInt8) : ∃ w', (Instr.mapUpdate 68 (.map (some bm)) (iv k) (.agg #[iv at_, bv fl])).run Try.prog w = .ok () w' ∧ DiskAt w' bd bp bm { C with flaws := hurtF C.flaws k at_ fl } ∧ Only bm w w' := by
  obtain ⟨es, ck, hm, hf⟩ := h.m
  rcases flaw_found hf k with ⟨h1, h2, h3⟩ | ⟨j, at2, fl2, e, h1, h2, h3, h4, h5⟩
  · obtain ⟨hO, hb⟩ := only_set (o' := .map (es.push { key := iv k, val := .agg #[iv at_, bv fl], born := ck }) (ck + 1)) hm
    refine ⟨_, ?_, h.setMap hb (by rw [Array.toList_push]; exact flaws_push hf h3 ck) hO, hO⟩
    simp [Instr.mapUpdate, run_underlying Try.underlying68, MapKept.run_getObj_map hm, run_checkKey Try.underlying3 (key3 k), run_findKey Try.underlying3 h2, run_setObj_map _ hm]
  · obtain ⟨hO, hb⟩ := only_set (o' := .map (es.modify j fun e => { e with key := iv k, val := .agg #[iv at_, bv fl] }) ck) hm
    have h2a : es[j]? = some e := by simpa using h2
    refine ⟨_, ?_, h.setMap hb ?_ hO, hO⟩
    · simp [Instr.mapUpdate, run_underlying Try.underlying68, MapKept.run_getObj_map hm, run_checkKey Try.underlying3 (key3 k), run_findKey Try.underlying3 h5, run_setObj_map _ hm, h2a, h3, run_keyThatStays (key3 k)]
    · have := flaws_set hf h2 h3 (at_ := at_) (fl := fl)
      rw [Array.toList_modify]
      have e1 : es.toList.modify j (fun e => { e with key := iv k, val := .agg #[iv at_, bv fl] }) = es.toList.set j { e with key := iv k, val := .agg #[iv at_, bv fl] } := by
        apply List.ext_getElem?
        intro i
        rw [List.getElem?_modify, List.getElem?_set]
        by_cases hij : j = i
        · subst hij
          rw [h2]
          have hj' := (List.getElem?_eq_some_iff.1 h2).1
          rw [Array.length_toList] at hj'
          simp [hj']
        · simp [hij]
      rw [e1]; exact this
theorem zero108 (w : World) : (zeroValue 108).run Try.prog w = .ok (.agg #[iv 0, bv 0]) w := by kernel_rfl
theorem run_flaw {w : World} {bd bp bm : Nat} {C : Cn} (h : DiskAt w bd bp bm C) (k : Nat) : (Instr.lookup 68 (.map (some bm)) (iv k) true).run Try.prog w = .ok (.tuple #[.agg #[iv ((C.flaws k).getD (0, 0)).1, bv ((C.flaws k).getD (0, 0)).2], .bool (C.flaws k).isSome]) w := by
  obtain ⟨es, ck, hm, hf⟩ := h.m
  rcases flaw_found hf k with ⟨h1, h2, h3⟩ | ⟨j, at2, fl2, e, h1, h2, h3, h4, h5⟩
  · simp [Instr.lookup, run_underlying Try.underlying68, MapKept.run_getObj_map hm, run_checkKey Try.underlying3 (key3 k), run_findKey Try.underlying3 h2, h1]
    exact ⟨rfl, rfl⟩
  · simp [Instr.lookup, run_underlying Try.underlying68, MapKept.run_getObj_map hm, run_checkKey Try.underlying3 (key3 k), run_findKey Try.underlying3 h5, h1, h4]
end Go.Proofs.Ytcgapfmdpchemaa
/- The walks of write, Open, Damage. -/
namespace Go.Proofs.Ytcgapfmdpchemaa
open Go.RowKit
set_option maxHeartbeats 400000 in
/-- Pick: some number below b -/
theorem pick_any (b : Nat) (hb : 0 < b) (hb2 : b < 100000) (x : Int) (w : World) : Calls Try.prog 20 #[.int .i64 x, .int .i64 b] w fun e w' => (∃ r : Nat, r < b ∧ e = .returned (iv r)) ∧ w = w' := by
  go_enter Try.func20, Try.ntmps20
  go_wp2
  go_ret
  refine ⟨⟨((wrap64 (x.tmod b + b)).tmod b).toNat, ?_, ?_⟩, rfl⟩
  all_goals
    have h1 := Int.tmod_lt_of_pos x (show (0 : Int) < (b : Int) by omega)
    have h2 : -(b : Int) < x.tmod b := by
      have h3 := Int.tmod_lt_of_pos (-x) (show (0 : Int) < (b : Int) by omega)
      rw [Int.neg_tmod] at h3
      omega
    have e1 : wrap64 (x.tmod b + b) = x.tmod b + b := by unfold wrap64; omega
    have h4 : 0 ≤ (x.tmod b + b).tmod b := Int.tmod_nonneg _ (by omega)
    have h5 := Int.tmod_lt_of_pos (x.tmod b + b) (show (0 : Int) < (b : Int) by omega)
    rw [e1]
  · omega
  · show Ending.returned (.int .i64 _) = .returned (iv _)
    unfold iv
    rw [Int.toNat_of_nonneg h4, ← e1]
set_option maxHeartbeats 400000 in
theorem open_nil (w : World) : Calls Try.prog 10 #[.pointer none] w fun e w' => e = .returned (.tuple #[.pointer none, .int .i64 1]) ∧ w = w' := by
  go_enter Try.func10, Try.ntmps10
  go_wp2_with fail
  refine (none_nil w).mono ?_
  rintro e w' ⟨rfl, rfl⟩
  go_wp2
  go_ret2
  exact ⟨rfl, rfl⟩
set_option maxHeartbeats 400000 in
theorem open_zero {bd : Nat} (w : World) (h : w.cell? ⟨bd, 0, none⟩ = some (.slice none 0 0)) : Calls Try.prog 10 #[.pointer (some ⟨bd, 0, none⟩)] w fun e w' => e = .returned (.tuple #[.pointer none, .int .i64 1]) ∧ w = w' := by
  go_enter Try.func10, Try.ntmps10
  go_wp2_with fail
  refine (none_zero w h).mono ?_
  rintro e w' ⟨rfl, rfl⟩
  go_wp2
  go_ret2
  exact ⟨rfl, rfl⟩
set_option maxRecDepth 1000000 in
set_option maxHeartbeats 1000000 in
theorem open_any {bd bp bm : Nat} {C : Cn} {size : Nat} {index : List Nat} {es : List DE} (w : World) (h : DiskAt w bd bp bm C) (hd : Dir C size index es) :
    Calls Try.prog 10 #[.pointer (some ⟨bd, 0, none⟩)] w fun e w' => Below w.heap.size w w' ∧
      ((stateB C index 0 = 0 ∧ ∃ bs, e = .returned (.tuple #[.pointer (some ⟨bs, 0, none⟩), .int .i64 0]) ∧ StoreAt w' bs bd) ∨
       (stateB C index 0 ≠ 0 ∧ e = .returned (.tuple #[.pointer none, iv (stateB C index 0)]))) := by
  go_enter Try.func10, Try.ntmps10
  go_wp2_with fail
  refine (none_no w h).mono ?_
  rintro e w' ⟨rfl, rfl⟩
  go_wp2_with fail
  have hs : StoreAt (w.alloc (.cells #[.pointer (some ⟨bd, 0, none⟩)] 73)) w.heap.size bd := cell_one_new _ _ _ 0 _ rfl
  have b0 : Below w.heap.size w (w.alloc (.cells #[.pointer (some ⟨bd, 0, none⟩)] 73)) := (Below.refl _ w).alloc (Nat.le_refl _) _
  refine (begin_any _ hs (h.below b0 (Nat.le_refl _)) hd 0 (by decide)).mono ?_
  rintro e w1 ⟨b1, v, ix, rfl, hb⟩
  have d1 := b0.trans (b1.mono (by simp))
  clear hb
  by_cases hst : stateB C index 0 = 0
  · have HST := Lib.hid hst
    rw [hst]
    have hs1 := hs.below b1 (Nat.le_refl _)
    clear hst
    go_wp2
    go_ret2
    exact ⟨d1, .inl ⟨HST.out, _, rfl, hs1⟩⟩
  · have hst0 : ¬ ((stateB C index 0 : Nat) : Int) = 0 := by omega
    have HST := Lib.hid hst
    clear hst
    go_wp2
    go_ret2
    exact ⟨d1, .inr ⟨HST.out, rfl⟩⟩
section
variable {ops : Array Oper} {rest : List Oper} {o : Oper} {a : Act} {w : World} {Q : Exit → Act → World → Prop}
theorem del_flaw {bd bp bm : Nat} {C : Cn} (h : DiskAt w bd bp bm C) (k : Nat) (hgd : o.guard = none) (m x : Operand) (ho : o.op = .call { callee := .builtin .delete, args := #[m, x], argTypes := #[68, 3] }) (hm : a.eval m = .map (some bm)) (hx : a.eval x = .int .i64 k)
    (hk : ∀ w', DiskAt w' bd bp bm { C with flaws := healF C.flaws k } → Only bm w w' → wpList Try.prog ops Q rest (a.put o.dst (.tuple #[])) w') : wpList Try.prog ops Q (o :: rest) a w :=
  wpList_plain hgd fun K hK => by
    obtain ⟨w', hr, h1, h2⟩ := run_heal h k o.type
    unfold Oper.wp execOp
    have hr' : (Builtin.delete_ #[68, 3] o.type #[.map (some bm), .int .i64 k]).run Try.prog w = .ok (.tuple #[]) w' := hr
    simp only [ho, resolve, invoke, builtin, Sem.run_bind, Sem.run_pure, Result.andThen_ok, List.map_toArray, List.map_cons, List.map_nil, hm, hx, hr']
    exact hK _ _ (hk w' h1 h2)
end
theorem Only3.ofOnly {a b c g : Nat} {w w' : World} (h : Only g w w') (hg : g = a ∨ g = b ∨ g = c) : Only3 a b c w w' :=
  ⟨h.os, h.tape, h.output, by rw [h.size]; exact Nat.le_refl _, fun k _ h1 h2 h3 => h.block k (by rcases hg with rfl | rfl | rfl <;> assumption)⟩
/-- a byte of the disk turned -/
theorem DiskAt.setByte {w : World} {bd bp bm : Nat} {C : Cn} (h : DiskAt w bd bp bm C) (j : Nat) (b : UInt8) : DiskAt (w.setCell ⟨bp, j, none⟩ (bv b)) bd bp bm { C with bytes := C.bytes.set j b } := by
  obtain ⟨h1, h2, h3⟩ := h.ne
  refine ⟨?_, ?_, ?_, by simpa using h.len, h.two, h.small⟩
  · rw [heap_setCell_other w _ _ _ (by exact h1)]; exact h.d
  · rw [heap_setCell_same w bp j _ 81 _ h.p]
    simp [bvs, List.map_set]
  · obtain ⟨es, ck, hm, r⟩ := h.m
    exact ⟨es, ck, by rw [heap_setCell_other w _ _ _ (by exact h3.symm)]; exact hm, r⟩
/-- the disk behind k bytes of a page that is written -/
def Cn.wr (C : Cn) (q : Nat) (P : List UInt8) (k : Nat) : Cn :=
  { C with bytes := spl C.bytes (q * 256) (P.take k), fuse := if C.fuse < 0 then C.fuse else C.fuse - k, flaws := if k = 0 then C.flaws else healF C.flaws q }
theorem spl_nil (L : List UInt8) (off : Nat) : spl L off [] = L := by simp [spl]
theorem spl_set (L P : List UInt8) (off k : Nat) (hk : k < P.length) (hL : off + k < L.length) : (spl L off (P.take k)).set (off + k) P[k] = spl L off (P.take (k + 1)) := by
  have h1 : (P.take k).length = k := by rw [List.length_take]; omega
  have h2 : (L.take off).length = off := by rw [List.length_take]; omega
  have h4 : P.take (k + 1) = P.take k ++ [P[k]] := List.take_succ_eq_append_getElem hk
  rw [h4]
  unfold spl
  rw [List.length_append, h1, List.length_singleton]
  have h3 : L.drop (off + k) = L[off + k] :: L.drop (off + (k + 1)) := by rw [← Nat.add_assoc]; exact List.drop_eq_getElem_cons hL
  rw [h3, List.set_append_right _ _ (by rw [List.length_append, h1, h2]; exact Nat.le_refl _), List.length_append, h1, h2, Nat.sub_self, List.set_cons_zero]
  simp only [List.append_assoc, List.singleton_append]
theorem notAgg5 (w : World) : (isAgg 5).run Try.prog w = .ok false w := by
  unfold isAgg
  rw [Sem.run_bind, run_underlying Try.underlying5 w]
  rfl
theorem run_index81 (P : List UInt8) (k : Nat) (hk : k < P.length) (h256 : k < 256) (w : World) : (Instr.index 81 (pg P) (.int .i64 k)).run Try.prog w = .ok (bv P[k]) w := by
  have hz := run_size size5 w
  have h1 : (k : Int) < 256 := by omega
  have h2 : (0 : Int) ≤ (k : Int) := by omega
  have h3 : ¬ 256 ≤ k := by omega
  simp [Instr.index, asIntOf, run_underlying Try.underlying81, pg, hz, part, bvs, hk, h2, h3]
theorem Cn.wr_byte (C : Cn) (q : Nat) (P : List UInt8) (k : Nat) (hk : k < P.length) (hL : q * 256 + k < C.bytes.length) :
    ({ ({ C.wr q P k with fuse := (C.wr q P (k + 1)).fuse, flaws := (C.wr q P (k + 1)).flaws } : Cn) with bytes := (C.wr q P k).bytes.set (q * 256 + k) P[k] } : Cn) = C.wr q P (k + 1) := by
  simp only [Cn.wr, spl_set _ _ _ _ hk hL]
set_option maxRecDepth 1000000 in
set_option maxHeartbeats 1000000 in
theorem write_any {bd bp bm : Nat} {C : Cn} (w : World) (h : DiskAt w bd bp bm C) (hfb : C.fuse ≤ 9223372036854775807) (q : Nat) (hq : q < C.n) (P : List UInt8) (hP : P.length = 256) :
    Calls Try.prog 42 #[.pointer (some ⟨bd, 0, none⟩), .int .i64 q, pg P] w fun e w' => Only3 bd bp bm w w' ∧
      (((C.fuse < 0 ∨ 256 ≤ C.fuse) ∧ DiskAt w' bd bp bm (C.wr q P 256) ∧ ∃ v, e = .returned v) ∨
       (0 ≤ C.fuse ∧ C.fuse < 256 ∧ DiskAt w' bd bp bm { C.wr q P C.fuse.toNat with down := true } ∧ e = .panicked [{ v := .iface 101 (.agg #[]), recovered := false }])) := by
  have HP := Lib.hid hP; clear hP
  go_enter Try.func42, Try.ntmps42
  have tok : True := trivial
  have hg := heap_alloc_new w (.cells (bvs P).toArray 81)
  have h0 : DiskAt (w.alloc (.cells (bvs P).toArray 81)) bd bp bm C := h.below ((Below.refl _ w).alloc (Nat.le_refl _) _) (Nat.le_refl _)
  have o0 : Only3 bd bp bm w (w.alloc (.cells (bvs P).toArray 81)) := .of_below ((Below.refl _ w).alloc (Nat.le_refl _) _)
  have HG := Lib.hid hg; clear hg
  go_wp2_with (first | (have _t := tok; refine bx81 rfl _ rfl rfl ?_; clear tok) | (refine ld81v rfl _ rfl rfl HG.out HP.out ?_))
  generalize w.alloc (.cells (bvs P).toArray 81) = w0 at *
  clear HG
  go_loopw [9] (fun i wr => ∃ k : Nat, k ≤ 256 ∧ i = .int .i64 k ∧ (C.fuse < 0 ∨ k ≤ C.fuse) ∧ DiskAt wr bd bp bm (C.wr q P k) ∧ Only3 bd bp bm w wr) (fun i _ => 256 - (intOf i).toNat)
  case atStart => exact ⟨0, by omega, rfl, by omega, by have e1 : C.wr q P 0 = C := by { simp [Cn.wr, spl_nil] }; rw [e1]; exact h0, o0⟩
  case round =>
    obtain ⟨k, hk, rfl, hf, hd, ho⟩ := hrel
    have c0 : wr.cell? ⟨bd, 0, none⟩ = some (.slice (some ⟨bp, 0, none⟩) C.n C.n) := hd.c0
    have c1 := hd.c1
    have c2 := hd.c2
    have c3 := hd.c3
    have f1 := hd.fz 1
    have f2 := hd.fz 2
    have hqi : (q : Int) < (C.n : Int) := by omega
    have hlen := h.len
    have hLB : q * 256 + k < C.bytes.length ∨ k = 256 := by omega
    have HLEN := Lib.hid hlen; clear hlen
    by_cases hlt : k < 256
    · have hkP : k < P.length := by rw [HP.out]; exact hlt
      have hix := fun W => run_index81 P k hkP hlt W
      have fin : ∀ W, DiskAt W bd bp bm { C.wr q P k with fuse := (C.wr q P (k + 1)).fuse, flaws := (C.wr q P (k + 1)).flaws } → Only3 bd bp bm w W →
          DiskAt (W.setCell ⟨bp, q * 256 + k, none⟩ (bv P[k])) bd bp bm (C.wr q P (k + 1)) ∧ Only3 bd bp bm w (W.setCell ⟨bp, q * 256 + k, none⟩ (bv P[k])) := fun W hW hO => by
        have h1 := hW.setByte (q * 256 + k) P[k]
        rw [Cn.wr_byte C q P k hkP (by omega)] at h1
        exact ⟨h1, hO.setCell _ _ (.inr (.inl rfl))⟩
      have hbyte : ∀ W, DiskAt W bd bp bm { C.wr q P k with fuse := (C.wr q P (k + 1)).fuse, flaws := (C.wr q P (k + 1)).flaws } → ∃ u, W.cell? ⟨bp, q * 256 + k, none⟩ = some u ∧ W.frozen? ⟨bp, q * 256 + k, none⟩ = false ∧ W.cell? ⟨bd, 0, none⟩ = some (.slice (some ⟨bp, 0, none⟩) C.n C.n) := fun W hW => by
        have hl : q * 256 + k < (C.wr q P k).bytes.length := by have := hd.len; rw [this]; show _ < 256 * C.n; omega
        refine ⟨bv (C.wr q P k).bytes[q * 256 + k], ?_, frozen_of_row _ _ _ _ _ hW.p, hW.c0⟩
        rw [cell_of_row _ _ _ _ _ _ hW.p]
        simp [bvs, hl]
      have FIN := Lib.hid fin; have HBYTE := Lib.hid hbyte; clear fin hbyte
      generalize hV : P[k] = v at *
      unfold bv at hix FIN
      clear hV
      by_cases hC : C.fuse = k
      · have hF : (C.wr q P k).fuse = 0 := by
          unfold Cn.wr
          have : ¬ C.fuse < 0 := by omega
          simp only [this, if_false]; omega
        rw [hF] at c1
        have HC := Lib.hid hC; clear hC
        have HF := Lib.hid hF; clear hF
        clear hf
        go_wp2_with fail
        refine ⟨rfl, ho.setCell ⟨bd, 2, none⟩ _ (.inl rfl), .inr ⟨by have := HC.out; omega, by have := HC.out; omega, ?_, rfl⟩⟩
        have e1 : C.fuse.toNat = k := by have := HC.out; omega
        rw [e1]
        exact hd.setDown true
      · have HC := Lib.hid hC; clear hC
        by_cases hneg : C.fuse < 0
        · have hF : (C.wr q P k).fuse = C.fuse := by unfold Cn.wr; simp [hneg]
          have hF1 : (C.wr q P (k + 1)).fuse = (C.wr q P k).fuse := by unfold Cn.wr; simp [hneg]
          rw [hF] at c1
          have hz : ¬ C.fuse = 0 := by omega
          have hp : ¬ 0 < C.fuse := by omega
          have HN := Lib.hid hneg
          generalize hfu : C.fuse = F at *
          have HF := Lib.hid hfu
          have HF1 := Lib.hid hF1
          clear hfu hF hF1 hneg hf
          by_cases hk0 : k = 0
          · subst hk0
            have hix0 : ∀ W : World, (Instr.index 81 (pg P) (.int .i64 0)).run Try.prog W = .ok (.int .u8 v.toNat) W := hix
            clear hix
            go_wp2_with (refine del_flaw hd q rfl _ _ rfl rfl rfl ?_)
            intro w1 h1 hO1
            have e1 : ({ C.wr q P 0 with fuse := (C.wr q P (0 + 1)).fuse, flaws := (C.wr q P (0 + 1)).flaws } : Cn) = { C.wr q P 0 with flaws := healF (C.wr q P 0).flaws q } := by rw [HF1.out]; rfl
            have h1' : DiskAt w1 bd bp bm { C.wr q P 0 with fuse := (C.wr q P (0 + 1)).fuse, flaws := (C.wr q P (0 + 1)).flaws } := by rw [e1]; exact h1
            obtain ⟨u, cu, fu, c0'⟩ := HBYTE.out w1 h1'
            rw [Nat.add_zero] at cu fu
            have hfin := FIN.out w1 h1' (ho.trans (Only3.ofOnly hO1 (.inr (.inr rfl))))
            rw [Nat.add_zero] at hfin
            have HFIN := Lib.hid hfin; have H1 := Lib.hid h1
            clear hfin h1 h1' e1 c0 c1 c2 c3 f1 f2
            go_wp2
            go_roundw
            case rel => exact ⟨1, by omega, rfl, .inl HN.out, HFIN.out.1, HFIN.out.2⟩
            case measure => simp [intOf]
          · have hk0i : ¬ (k : Int) = 0 := by omega
            have e1 : ({ C.wr q P k with fuse := (C.wr q P (k + 1)).fuse, flaws := (C.wr q P (k + 1)).flaws } : Cn) = C.wr q P k := by
              rw [HF1.out]
              simp [Cn.wr, hk0]
            have h1' : DiskAt wr bd bp bm { C.wr q P k with fuse := (C.wr q P (k + 1)).fuse, flaws := (C.wr q P (k + 1)).flaws } := by rw [e1]; exact hd
            obtain ⟨u, cu, fu, c0'⟩ := HBYTE.out wr h1'
            have hfin := FIN.out wr h1' ho
            have HFIN := Lib.hid hfin
            clear hfin h1' e1
            go_wp2
            go_roundw
            case rel => exact ⟨k + 1, by omega, by go_num, .inl HN.out, HFIN.out.1, HFIN.out.2⟩
            case measure => simp [intOf]; omega
        · obtain ⟨f, hfe⟩ : ∃ f : Nat, C.fuse = k + 1 + f := ⟨(C.fuse - k - 1).toNat, by have := HC.out; omega⟩
          have hF : (C.wr q P k).fuse = (f : Int) + 1 := by unfold Cn.wr; simp only [hneg, if_false]; omega
          have hF1 : (C.wr q P (k + 1)).fuse = (f : Int) := by unfold Cn.wr; simp only [hneg, if_false]; omega
          rw [hF] at c1
          have hz : ¬ (f : Int) + 1 = 0 := by omega
          have hp : (0 : Int) < (f : Int) + 1 := by omega
          have hw1 : wrap64 (f : Int) = f := by unfold wrap64; omega
          have hw2 : IntKind.i64.wrap (f : Int) = f := IntWalk.i64_in _ (by omega)
          have hdB := hd.setFuse f
          have hoB := ho.setCell ⟨bd, 1, none⟩ (.int .i64 f) (.inl rfl)
          have HFE := Lib.hid hfe
          have HF1 := Lib.hid hF1; have HN := Lib.hid hneg
          clear hfe hF hF1 hneg hf hfb
          by_cases hk0 : k = 0
          · subst hk0
            have hix0 : ∀ W : World, (Instr.index 81 (pg P) (.int .i64 0)).run Try.prog W = .ok (.int .u8 v.toNat) W := hix
            clear hix
            go_wp2_with (refine del_flaw hdB q rfl _ _ rfl rfl rfl ?_)
            intro w1 h1 hO1
            have e1 : ({ C.wr q P 0 with fuse := (C.wr q P (0 + 1)).fuse, flaws := (C.wr q P (0 + 1)).flaws } : Cn) = { ({ C.wr q P 0 with fuse := (f : Int) } : Cn) with flaws := healF (C.wr q P 0).flaws q } := by rw [HF1.out]; rfl
            have h1' : DiskAt w1 bd bp bm { C.wr q P 0 with fuse := (C.wr q P (0 + 1)).fuse, flaws := (C.wr q P (0 + 1)).flaws } := by rw [e1]; exact h1
            obtain ⟨u, cu, fu, c0'⟩ := HBYTE.out w1 h1'
            rw [Nat.add_zero] at cu fu
            have hfin := FIN.out w1 h1' (hoB.trans (Only3.ofOnly hO1 (.inr (.inr rfl))))
            rw [Nat.add_zero] at hfin
            have HFIN := Lib.hid hfin; have H1 := Lib.hid h1
            clear hfin h1 h1' e1 c0 c1 c2 c3 f1 f2
            go_wp2
            go_roundw
            case rel => exact ⟨1, by omega, rfl, .inr (by have := HFE.out; omega), HFIN.out.1, HFIN.out.2⟩
            case measure => simp [intOf]
          · have hk0i : ¬ (k : Int) = 0 := by omega
            have e1 : ({ C.wr q P k with fuse := (C.wr q P (k + 1)).fuse, flaws := (C.wr q P (k + 1)).flaws } : Cn) = { C.wr q P k with fuse := (f : Int) } := by
              rw [HF1.out]
              simp [Cn.wr, hk0]
            have h1' : DiskAt (wr.setCell ⟨bd, 1, none⟩ (.int .i64 f)) bd bp bm { C.wr q P k with fuse := (C.wr q P (k + 1)).fuse, flaws := (C.wr q P (k + 1)).flaws } := by rw [e1]; exact hdB
            obtain ⟨u, cu, fu, c0'⟩ := HBYTE.out _ h1'
            have hfin := FIN.out _ h1' hoB
            have HFIN := Lib.hid hfin
            clear hfin h1' e1
            go_wp2
            go_roundw
            case rel => exact ⟨k + 1, by omega, by go_num, .inr (by have := HFE.out; omega), HFIN.out.1, HFIN.out.2⟩
            case measure => simp [intOf]; omega
    · obtain rfl : k = 256 := by omega
      have HF := Lib.hid hf
      clear c0 c1 c2 c3 f1 f2 hf
      go_wp2
      go_end0
      exact ⟨ho, .inl ⟨HF.out, hd, _, rfl⟩⟩
end Go.Proofs.Ytcgapfmdpchemaa
/- The walks of NewDisk and Damage. -/
namespace Go.Proofs.Ytcgapfmdpchemaa
open Go.RowKit
def newC (n : Nat) : Cn := { n := n, bytes := spl (List.replicate (256 * n) 0) 0 (headB 1 0 []), fuse := -1, down := false, flaws := fun _ => none }
theorem info81 : (Try.prog.info? 81).map (fun i => (i.zero, i.size, i.bytes)) = some (some (pg zp), 256, 256) := by kernel_rfl
theorem headB_length (c z : Nat) (l : List Nat) (hl : l.length ≤ 100 := by decide) : (headB c z l).length = 256 := by
  unfold headB
  rw [spl_length, spl_length, zp_length]
  · rw [zp_length]; simp only [List.length_append, les_length]; simp; omega
  · rw [spl_length, zp_length]
    · simp [le_length]
    · rw [zp_length]; simp only [List.length_append, les_length]; simp; omega
section
variable {ops : Array Oper} {rest : List Oper} {o : Oper} {a : Act} {w : World} {Q : Exit → Act → World → Prop}
theorem made_page (n : Nat) : madeCells (pg zp).cells (n * 256) = (bvs (List.replicate (256 * n) 0)).toArray := by
  have hz : (pg zp).cells.size = 256 := by show (bvs zp).toArray.size = 256; rw [List.size_toArray, bvs_length, zp_length]
  apply Array.ext
  · simp [size_madeCells, bvs, Nat.mul_comm]
  · intro i h1 h2
    have hm : i % 256 < 256 := Nat.mod_lt _ (by decide)
    simp only [madeCells, Array.getElem_map, Array.getElem_range, hz]
    have : (pg zp).cells[i % 256]? = some (bv 0) := by
      show (bvs zp).toArray[i % 256]? = _
      rw [List.getElem?_toArray, bvs, List.getElem?_map, zp, List.getElem?_replicate, if_pos hm]
      rfl
    rw [getElem!_def, this]
    simp [bvs]
/-- make([]page, n) -/
theorem mk67 (hgd : o.guard = none) (x y : Operand) (ho : o.op = .makeSlice 67 x y) (n : Nat) (hn : n ≤ 100000) (hx : a.eval x = .int .i64 n) (hy : a.eval y = .int .i64 n)
    (h : ∀ w', w'.heap[w.heap.size]? = some (.cells (bvs (List.replicate (256 * n) 0)).toArray 81 (0, 0)) → w'.heap.size = w.heap.size + 1 → Below w.heap.size w w' → wpList Try.prog ops Q rest (a.put o.dst (.slice (some ⟨w.heap.size, 0, none⟩) n n)) w') : wpList Try.prog ops Q (o :: rest) a w :=
  wpList_plain hgd fun K hK => by
    obtain ⟨i0, hi, hz0, hz1, hz2⟩ := info_parts info81
    have hr := run_make (P := Try.prog) w 67 81 i0 (pg zp) Try.underlying67 hi hz0 .i64 .i64 (n : Int) (n : Int) (by omega) (by omega) (by rw [hz2]; omega) (by omega)
    rw [hz1, Int.toNat_natCast, made_page] at hr
    unfold Oper.wp execOp
    simp only [ho, hx, hy, Sem.run_bind, hr, Result.andThen_ok, Sem.run_pure]
    exact hK _ _ (h _ (heap_alloc_new w _) (by simp) ((Below.refl _ w).alloc (Nat.le_refl _) _))
/-- a page stored into a row of bytes -/
theorem op_st81 {K : Act → World → Prop} (x y : Operand) (ho : o.op = .store 81 x y) {g off : Nat} (hx : a.eval x = .pointer (some ⟨g, off, none⟩))
    {P : List UInt8} (hy : a.eval y = pg P) (hP : P.length = 256) {L : List UInt8} {t : TypeId} (hg : w.heap[g]? = some (.cells (bvs L).toArray t (0, 0))) (hle : off + 256 ≤ L.length)
    (h : ∀ w', w'.heap[g]? = some (.cells (bvs (spl L off P)).toArray t (0, 0)) → Only g w w' → K (a.put o.dst undef) w') : o.wp Try.prog a w K Q := by
  have hs := run_storeCells_at Try.prog g off t (bvs P) 0 (bvs L).toArray w hg (by simp [bvs]; omega) (oneCell_bvs P)
  rw [Nat.add_zero] at hs
  have e1 : (bvs L).toArray.toList.take off ++ bvs P ++ (bvs L).toArray.toList.drop (off + (bvs P).length) = bvs (spl L off P) := by simp [bvs, spl]
  rw [e1] at hs
  have hz := run_size size81 w
  have hsz : (bvs P).toArray.size = 256 := by simp [bvs, hP]
  unfold Oper.wp execOp
  simp only [ho, hx, hy, Instr.storeAt, Instr.sureAddr, Sem.run_bind, Sem.run_pure, Result.andThen_ok, storeVar, pg, Value.cells, hz, hsz, ne_eq, not_true, if_false, hs, Oper.upon]
  exact h _ (setRow_heap w g _ _ t _ hg) (Only.setRow w g _)
end
set_option maxHeartbeats 400000 in
theorem newDisk_bad (w : World) (n : Int) (h : n < 4 ∨ 4096 < n) : Calls Try.prog 9 #[.int .i64 n] w fun e w' => e = .returned (.tuple #[.pointer none, .int .i64 2]) ∧ w = w' := by
  by_cases h4 : n < 4
  · go_enter Try.func9, Try.ntmps9
    go_wp2
    go_ret2
    exact ⟨rfl, rfl⟩
  · have h5 : 4096 < n := by omega
    go_enter Try.func9, Try.ntmps9
    go_wp2
    go_ret2
    exact ⟨rfl, rfl⟩
set_option maxRecDepth 1000000 in
set_option maxHeartbeats 1000000 in
theorem newDisk_ok (w : World) (n : Nat) (h4 : 4 ≤ n) (h5 : n ≤ 4096) : Calls Try.prog 9 #[.int .i64 n] w fun e w' => ∃ bd bp bm, e = .returned (.tuple #[.pointer (some ⟨bd, 0, none⟩), .int .i64 0]) ∧ DiskAt w' bd bp bm (newC n) ∧ Below w.heap.size w w' := by
  have h1 : ¬ (n : Int) < 4 := by omega
  have h2 : ¬ (4096 : Int) < (n : Int) := by omega
  have hmk := fun w => run_makeMap (P := Try.prog) 68 w
  go_enter Try.func9, Try.ntmps9
  go_wp2_with (refine mk67 rfl _ _ rfl n (by omega) rfl rfl ?_)
  intro w1 g1 s1 b1
  have G1 := Lib.hid g1; have S1 := Lib.hid s1; clear g1 s1
  go_wp2_with fail
  have hd2 : DiskAt ((w1.alloc (.map #[] 0)).alloc (.cells #[.slice (some ⟨w.heap.size, 0, none⟩) n n, .int .i64 (-1), .bool false, .map (some w1.heap.size)] 70)) (w1.heap.size + 1) w.heap.size w1.heap.size
      { n := n, bytes := List.replicate (256 * n) 0, fuse := -1, down := false, flaws := fun _ => none } := by
    have hlt : w.heap.size < w1.heap.size := by have := S1.out; omega
    refine ⟨?_, ?_, ⟨#[], 0, ?_, ?_⟩, by simp, by show 2 ≤ n; omega, h5⟩
    · have := heap_alloc_new (w1.alloc (.map #[] 0)) (.cells #[.slice (some ⟨w.heap.size, 0, none⟩) n n, .int .i64 (-1), .bool false, .map (some w1.heap.size)] 70)
      rw [World.size_alloc] at this
      exact this
    · rw [heap_alloc_old _ _ (by rw [World.size_alloc]; omega), heap_alloc_old _ _ hlt]; exact G1.out
    · rw [heap_alloc_old _ _ (by rw [World.size_alloc]; omega)]; exact heap_alloc_new _ _
    · exact ⟨by simp, fun k a f h => by simp at h, by simp⟩
  have b2 : Below w.heap.size w ((w1.alloc (.map #[] 0)).alloc (.cells #[.slice (some ⟨w.heap.size, 0, none⟩) n n, .int .i64 (-1), .bool false, .map (some w1.heap.size)] 70)) := (b1.alloc b1.size _).alloc (by rw [World.size_alloc]; have := b1.size; omega) _
  generalize (w1.alloc (.map #[] 0)).alloc (.cells #[.slice (some ⟨w.heap.size, 0, none⟩) n n, .int .i64 (-1), .bool false, .map (some w1.heap.size)] 70) = w2 at *
  generalize w1.heap.size + 1 = bd at *
  generalize w1.heap.size = bm at *
  have hbp := hd2.lt.2.1
  have hs2 := b2.size
  have hc0 : w2.cell? ⟨bd, 0, none⟩ = some (.slice (some ⟨w.heap.size, 0, none⟩) n n) := hd2.c0
  have hni : (0 : Int) < (n : Int) := by omega
  have hn0 : ¬ n = 0 := by omega
  refine wp_region_held (S := fun W => W.cell? ⟨bd, 0, none⟩ = some (.slice (some ⟨w.heap.size, 0, none⟩) n n)) (by kernel_rfl) ?_
  refine wpAnyH_take (i := 0) (v := .pointer (some ⟨bd, 0, none⟩)) rfl (by kernel_rfl) (by kernel_rfl) (by kernel_rfl) (fun _ _ _ h => h) (.inl ⟨by rfl, fun W hS => by kernel_rfl⟩) hc0 ?_
  refine wpAnyH_take (i := 1) (v := .pointer (some ⟨bd, 0, none⟩)) rfl (by kernel_rfl) (by kernel_rfl) (by kernel_rfl) (fun _ _ _ h => h) (.inl ⟨by rfl, fun W hS => by kernel_rfl⟩) hc0 ?_
  refine wpAnyH_take (i := 2) (v := .pointer (some ⟨bd, 0, none⟩)) rfl (by kernel_rfl) (by kernel_rfl) (by kernel_rfl) (fun _ _ _ h => h) (.inl ⟨by rfl, fun W hS => by kernel_rfl⟩) hc0 ?_
  refine wpAnyH_take (i := 3) (v := .slice (some ⟨w.heap.size, 0, none⟩) n n) rfl (by kernel_rfl) (by kernel_rfl) (by kernel_rfl) (fun _ _ _ h => h) (.inl ⟨by rfl, fun W hS => ?_⟩) hc0 ?_
  · unfold execOp
    go_simp
  refine wpAnyH_all (rs := [4]) (by kernel_rfl) (by simp) ?_
  intro i hi
  obtain rfl : i = 4 := by simpa using hi
  refine op_at rfl rfl ?_
  go_simp
  refine (head_any 1 0 (by decide) (by decide) [] (by decide) (by simp) (.slice none 0 0) _ ⟨none, 0, rfl, Nat.le_refl _, by decide, fun j hj => by simp [ivs] at hj⟩).mono ?_
  rintro e w3 ⟨rfl, b3⟩
  have hd3 : DiskAt w3 bd w.heap.size bm _ := hd2.drew.below b3 (Nat.le_refl _)
  refine ⟨hd3.c0, ?_⟩
  refine wpAnyH_take (i := 5) (v := .pointer (some ⟨w.heap.size, 0, none⟩)) rfl (by kernel_rfl) (by kernel_rfl) (by kernel_rfl) (fun _ _ _ h => h) (.inl ⟨by rfl, fun W hS => ?_⟩) hd3.c0 ?_
  · unfold execOp
    go_simp
  refine wpAnyH_all (rs := [6]) (by kernel_rfl) (by simp) ?_
  intro i hi
  obtain rfl : i = 6 := by simpa using hi
  refine op_at rfl rfl ?_
  refine op_st81 _ _ rfl rfl rfl (headB_length 1 0 [] (by decide)) hd3.p (by simp; omega) ?_
  intro w4 g4 o4
  have hd4 : DiskAt w4 bd w.heap.size bm (newC n) := by
    refine ⟨(o4.block _ hd3.ne.1).trans hd3.d, g4, ?_, ?_, by show 2 ≤ n; omega, h5⟩
    · obtain ⟨es, ck, hm, hf⟩ := hd3.m
      exact ⟨es, ck, (o4.block _ (Ne.symm hd3.ne.2.2)).trans hm, hf⟩
    · show (spl _ _ _).length = 256 * n
      rw [spl_length _ _ _ (by rw [headB_length 1 0 [] (by decide)]; simp; omega)]
      simp
  have b4 : Below w.heap.size w w4 := b2.trans (((Below.refl _ w2).drew.trans (b3.mono hs2)).trans (o4.below (Nat.le_refl _)))
  refine ⟨hd4.c0, ?_⟩
  refine wpAnyH_done (by kernel_rfl) ?_ _
  go_wp2
  go_ret2
  exact ⟨_, rfl, ⟨_, _, hd4⟩, b4⟩
end Go.Proofs.Ytcgapfmdpchemaa
