/- The walk of begin, and of what the store's methods that only read share. -/
import Derived.Test.YtcgapfmdpchemaaEnt
namespace Go.Proofs.Ytcgapfmdpchemaa
open Go.RowKit
/-- what a disk's newest head and directory say -/
structure Dir (C : Cn) (size : Nat) (index : List Nat) (es : List DE) : Prop where
  head : HeadIs (newestTo C 2).1 size index
  ix : ∀ q ∈ index, q < C.n
  sz : size ≤ 248 * index.length
  enc : (∀ q ∈ index, wholeB (C.page q) = true) → (rooms C index).take size = enc es
  fit : ∀ e ∈ es, e.fits
  asc : Asc es
  pg : ∀ e ∈ es, ∀ p ∈ e.pages, p < C.n
  room : ∀ e ∈ es, e.size ≤ 248 * e.pages.length
  many : es.length ≤ 24800
def StoreAt (w : World) (bs bd : Nat) : Prop := w.cell? ⟨bs, 0, none⟩ = some (.pointer (some ⟨bd, 0, none⟩))
theorem StoreAt.below {w w' : World} {bs bd B : Nat} (h : StoreAt w bs bd) (hb : Below B w w') (hB : w.heap.size ≤ B) : StoreAt w' bs bd :=
  (hb.cell (p := ⟨bs, 0, none⟩) (Nat.lt_of_lt_of_le (block_lt_of_cell h) hB)).trans h
/-- are all of these pages whole? -/
def allB (C : Cn) (l : List Nat) : Bool := l.all fun q => wholeB (C.page q)
/-- the error of a method whose arguments have this one -/
def stateB (C : Cn) (index : List Nat) (e0 : Nat) : Nat := if C.down then 9 else if e0 ≠ 0 then e0 else if allB C index then 0 else 370
def BeginPost (C : Cn) (index : List Nat) (es : List DE) (e0 : Nat) (w : World) (e : Ending) (w' : World) : Prop :=
  Below w.heap.size w w' ∧ ∃ v ix, e = .returned (.tuple #[v, ix, .int .i64 (stateB C index e0)]) ∧
    (stateB C index e0 = 0 → ∃ ps, EntRow w' w.heap.size v ps ∧ ents ps = es ∧ Rd w' ix index.length (ivs index))
set_option maxRecDepth 1000000 in
set_option maxHeartbeats 1000000 in
theorem begin_any {bs bd bp bm : Nat} {C : Cn} {size : Nat} {index : List Nat} {es : List DE} (w : World) (hs : StoreAt w bs bd) (h : DiskAt w bd bp bm C) (hd : Dir C size index es) (e0 : Nat) (he0 : e0 < 1000) :
    Calls Try.prog 33 #[.pointer (some ⟨bs, 0, none⟩), .int .i64 e0] w (BeginPost C index es e0 w) := by
  have h2 := h.c2
  have hs0 : w.cell? ⟨bs, 0, none⟩ = some (.pointer (some ⟨bd, 0, none⟩)) := hs
  go_enter Try.func33, Try.ntmps33
  go_wp2_with fail
  refine (none_no w h).mono ?_
  rintro e w' ⟨rfl, rfl⟩
  cases hdown : C.down
  · rw [hdown] at h2
    by_cases he : e0 = 0
    · subst he
      go_wp2_with fail
      refine (directory_any w h size index es hd.head hd.ix hd.sz hd.enc hd.fit).mono ?_
      rintro e w1 ⟨b1, ⟨hall, v, ix, ps, rfl, hrow, hps, hix⟩ | ⟨⟨q, hq, hbad⟩, rfl⟩⟩
      · go_wp2
        go_ret3
        have hst : stateB C index 0 = 0 := by
          have : allB C index = true := List.all_eq_true.2 hall
          simp [stateB, hdown, this]
        exact ⟨b1, v, ix, by rw [hst]; rfl, fun _ => ⟨ps, hrow, hps, hix⟩⟩
      · go_wp2
        go_ret3
        have hst : stateB C index 0 = 370 := by
          have : allB C index = false := by
            rw [Bool.eq_false_iff]
            intro hh
            have := List.all_eq_true.1 hh q hq
            rw [hbad] at this
            cases this
          simp [stateB, hdown, this]
        exact ⟨b1, _, _, by rw [hst]; rfl, fun h0 => by rw [hst] at h0; cases h0⟩
    · have hei : ¬ ((e0 : Int) = 0) := by omega
      go_wp2
      go_ret3
      have hst : stateB C index e0 = e0 := by simp [stateB, hdown, he]
      exact ⟨Below.refl _ _, _, _, by rw [hst]; rfl, fun h0 => by rw [hst] at h0; exact absurd h0 he⟩
  · rw [hdown] at h2
    go_wp2
    go_ret3
    have hst : stateB C index e0 = 9 := by simp [stateB, hdown]
    exact ⟨Below.refl _ _, _, _, by rw [hst]; rfl, fun h0 => by rw [hst] at h0; cases h0⟩
set_option maxHeartbeats 400000 in
theorem begin_nil (w : World) (e0 : Int) : Calls Try.prog 33 #[.pointer none, .int .i64 e0] w fun e w' => e = .returned (.tuple #[.slice none 0 0, .slice none 0 0, .int .i64 1]) ∧ w = w' := by
  go_enter Try.func33, Try.ntmps33
  go_wp2
  go_ret3
  exact ⟨rfl, rfl⟩
set_option maxHeartbeats 400000 in
theorem begin_none {bs : Nat} (w : World) (h : w.cell? ⟨bs, 0, none⟩ = some (.pointer none)) (e0 : Int) : Calls Try.prog 33 #[.pointer (some ⟨bs, 0, none⟩), .int .i64 e0] w fun e w' => e = .returned (.tuple #[.slice none 0 0, .slice none 0 0, .int .i64 1]) ∧ w = w' := by
  go_enter Try.func33, Try.ntmps33
  go_wp2_with fail
  refine (none_nil w).mono ?_
  rintro e w' ⟨rfl, rfl⟩
  go_wp2
  go_ret3
  exact ⟨rfl, rfl⟩
end Go.Proofs.Ytcgapfmdpchemaa
/- The walk of used: which pages are used. -/
namespace Go.Proofs.Ytcgapfmdpchemaa
open Go.RowKit
def bls (l : List Bool) : List Value := l.map .bool
theorem bls_length (l : List Bool) : (bls l).length = l.length := by simp [bls]
/-- some pages marked -/
def mark (L : List Bool) (l : List Nat) : List Bool := l.foldl (fun L p => L.set p true) L
def usedB (n : Nat) (index : List Nat) (es : List DE) : List Bool := es.foldl (fun L e => mark L e.pages) (mark (true :: true :: List.replicate (n - 2) false) index)
theorem mark_length (L : List Bool) (l : List Nat) : (mark L l).length = L.length := by
  induction l generalizing L with
  | nil => rfl
  | cons p l ih => simp only [mark, List.foldl_cons] at *; rw [ih]; simp
theorem mark_snoc (L : List Bool) (l : List Nat) (k : Nat) (hk : k < l.length) : mark L (l.take (k + 1)) = (mark L (l.take k)).set l[k] true := by
  rw [List.take_succ_eq_append_getElem hk, mark, List.foldl_append]; rfl
section
variable {ops : Array Oper} {rest : List Oper} {o : Oper} {a : Act} {w : World} {Q : Exit → Act → World → Prop}
/-- make([]bool, n) -/
theorem mk88 (hgd : o.guard = none) (x y : Operand) (ho : o.op = .makeSlice 88 x y) (n : Nat) (hn : n ≤ 100000) (hx : a.eval x = .int .i64 n) (hy : a.eval y = .int .i64 n)
    (h : ∀ w', w'.heap[w.heap.size]? = some (.cells (bls (List.replicate n false)).toArray 4 (0, 0)) → w.heap.size + 1 ≤ w'.heap.size → Below w.heap.size w w' → wpList Try.prog ops Q rest (a.put o.dst (.slice (some ⟨w.heap.size, 0, none⟩) n n)) w') : wpList Try.prog ops Q (o :: rest) a w :=
  wpList_plain hgd fun K hK => by
    obtain ⟨i0, hi, hz0, hz1, hz2⟩ := info_parts info4
    have hr := run_make (P := Try.prog) w 88 4 i0 (.bool false) Try.underlying88 hi hz0 .i64 .i64 (n : Int) (n : Int) (by omega) (by omega) (by rw [hz2]; omega) (by omega)
    have e1 : madeCells (Value.bool false).cells ((n : Int).toNat * i0.size) = (bls (List.replicate n false)).toArray := by
      rw [hz1, Nat.mul_one, Int.toNat_natCast]
      apply Array.toList_inj.1
      have := toList_madeCells_one (.bool false) n
      simpa [bls, Value.cells] using this
    rw [e1, Int.toNat_natCast] at hr
    unfold Oper.wp execOp
    simp only [ho, hx, hy, Sem.run_bind, hr, Result.andThen_ok, Sem.run_pure]
    exact hK _ _ (h _ (heap_alloc_new w _) (by simp) ((Below.refl _ w).alloc (Nat.le_refl _) _))
/-- a bool stored into a row -/
theorem st4 (hgd : o.guard = none) (x y : Operand) (ho : o.op = .store 4 x y) {g j : Nat} (hx : a.eval x = .pointer (some ⟨g, j, none⟩)) {b : Bool} (hy : a.eval y = .bool b)
    {L : List Bool} (hg : w.heap[g]? = some (.cells (bls L).toArray 4 (0, 0))) (hj : j < L.length)
    (h : ∀ w', w'.heap[g]? = some (.cells (bls (L.set j b)).toArray 4 (0, 0)) → Only g w w' → wpList Try.prog ops Q rest (a.put o.dst undef) w') : wpList Try.prog ops Q (o :: rest) a w := by
  have c1 : w.cell? ⟨g, j, none⟩ = some (.bool L[j]) := by rw [cell_of_row _ _ _ _ _ _ hg]; simp [bls, hj]
  have f1 : w.frozen? ⟨g, j, none⟩ = false := frozen_of_row _ _ _ _ _ hg
  have e1 : (w.setCell ⟨g, j, none⟩ (.bool b)).heap[g]? = some (.cells (bls (L.set j b)).toArray 4 (0, 0)) := by
    rw [heap_setCell_same w g j _ 4 _ hg]
    simp [bls]
  refine wpList_plain hgd fun K hK => ?_
  have hk := hK _ _ (h _ e1 ⟨rfl, rfl, rfl, by simp [World.setCell], fun k hk => heap_setCell_other w _ k _ hk⟩)
  unfold Oper.wp execOp
  simp only [ho, hx, hy]
  go_simp
  exact hk
end
set_option maxRecDepth 1000000 in
set_option maxHeartbeats 1000000 in
theorem used_any {bs bd bp bm : Nat} {C : Cn} {_size : Nat} {index : List Nat} (w : World) (hs : StoreAt w bs bd) (h : DiskAt w bd bp bm C) (ps : List (DE × Value)) (v ix : Value) (hv : EntRd w v ps) (hix : Rd w ix index.length (ivs index))
    (hixn : ∀ q ∈ index, q < C.n) (hpn : ∀ p ∈ ps, ∀ q ∈ p.1.pages, q < C.n) :
    Calls Try.prog 35 #[.pointer (some ⟨bs, 0, none⟩), v, ix] w fun e w' => ∃ g, e = .returned (.slice (some ⟨g, 0, none⟩) C.n C.n) ∧ w.heap.size ≤ g ∧ w'.heap[g]? = some (.cells (bls (usedB C.n index (ents ps))).toArray 4 (0, 0)) ∧ Below w.heap.size w w' := by
  have hc0 := h.c0
  have hs0 : w.cell? ⟨bs, 0, none⟩ = some (.pointer (some ⟨bd, 0, none⟩)) := hs
  have htwo := h.two
  have hsmall := h.small
  go_enter Try.func35, Try.ntmps35
  go_wp2_with (refine mk88 rfl _ _ rfl C.n (by omega) rfl rfl ?_)
  intro w1 h1 hs1 b1
  have H1 := Lib.hid h1; clear h1
  have hl0 : 0 < (List.replicate C.n false).length := by rw [List.length_replicate]; omega
  have hl1 : 1 < ((List.replicate C.n false).set 0 true).length := by rw [List.length_set, List.length_replicate]; omega
  have hni : (1 : Int) < (C.n : Int) := by omega
  have hni0 : (0 : Int) < (C.n : Int) := by omega
  go_wp2_with (refine st4 rfl _ _ rfl rfl rfl H1.out hl0 ?_)
  intro w2 h2 c2
  have H2 := Lib.hid h2; clear h2
  go_wp2_with (refine st4 rfl _ _ rfl rfl rfl H2.out hl1 ?_)
  intro w3 h3 c3
  have e3 : ((List.replicate C.n false).set 0 true).set 1 true = true :: true :: List.replicate (C.n - 2) false := by
    obtain ⟨m, hm⟩ : ∃ m, C.n = m + 2 := ⟨C.n - 2, by omega⟩
    rw [hm]; rfl
  rw [e3] at h3
  have hL3 : (true :: true :: List.replicate (C.n - 2) false).length = C.n := by simp; omega
  have hbase : usedB C.n index (ents ps) = (ents ps).foldl (fun L e => mark L e.pages) (mark (true :: true :: List.replicate (C.n - 2) false) index) := rfl
  generalize hL : true :: true :: List.replicate (C.n - 2) false = L at *
  have HL3 := Lib.hid hL3; have H3 := Lib.hid h3; have HBASE := Lib.hid hbase; clear hL3 h3 hL hbase e3 hl0 hl1
  have b3 : Below w.heap.size w w3 := b1.trans ((c2.below (Nat.le_refl _)).trans (c3.below (Nat.le_refl _)))
  have hs3 : w.heap.size + 1 ≤ w3.heap.size := by rw [c3.size, c2.size]; exact hs1
  clear H1 H2 c2 c3
  obtain ⟨Aix, cix, rfl, hnci, hcmi, hcix⟩ := hix
  go_wp2
  go_loopw [29] (fun i wr => ∃ k : Nat, k ≤ index.length ∧ i = .int .i64 k ∧ Hid (wr.heap[w.heap.size]? = some (.cells (bls (mark L (index.take k))).toArray 4 (0, 0))) ∧ Below w.heap.size w wr ∧ w.heap.size + 1 ≤ wr.heap.size)
    (fun i _ => index.length - (intOf i).toNat)
  case atStart => exact ⟨0, by omega, rfl, H3, b3, hs3⟩
  case round =>
    obtain ⟨k, hk, rfl, hrow, hbr, hsr⟩ := hrel
    by_cases hlt : k < index.length
    · obtain ⟨b, off, rfl, hcell⟩ := hcix k (by rw [ivs_length]; exact hlt)
      have hcell' : wr.cell? ⟨b, off + k, none⟩ = some (.int .i64 index[k]) := by rw [hbr.cell (p := ⟨b, off + k, none⟩) (block_lt_of_cell hcell), hcell]; simp [ivs, iv]
      have hq := hixn _ (List.getElem_mem hlt)
      have hms := mark_snoc L index k hlt
      generalize hQ : index[k] = q at *
      have HMS := Lib.hid hms; clear hms hQ hcell
      have hki : (k : Int) < (index.length : Int) := by omega
      have hqi : (q : Int) < (C.n : Int) := by omega
      have hql : q < (mark L (index.take k)).length := by rw [mark_length, HL3.out]; exact hq
      have hkb : (k : Int) + 1 ≤ 9223372036854775807 := by unfold maxLen at hcmi; omega
      go_wp2_with (refine st4 rfl _ _ rfl rfl rfl hrow.out hql ?_)
      intro w4 h4 c4
      rw [← HMS.out] at h4
      have H4 := Lib.hid h4; clear h4
      have b4 := hbr.trans (c4.below (Nat.le_refl _))
      have hs4 : w.heap.size + 1 ≤ w4.heap.size := by rw [c4.size]; exact hsr
      clear c4 hql
      go_wp2
      go_roundw
      case rel => exact ⟨k + 1, hlt, by go_num, H4, b4, hs4⟩
      case measure => simp [intOf]; omega
    · obtain rfl : k = index.length := by omega
      rw [List.take_length] at hrow
      obtain ⟨A, c, rfl, hnc, hcm, -⟩ := hv.rd
      clear hcix
      go_wp2
      go_loopw [39] (fun i wr => ∃ k : Nat, k ≤ ps.length ∧ i = .int .i64 k ∧ Hid (wr.heap[w.heap.size]? = some (.cells (bls ((ents (ps.take k)).foldl (fun L e => mark L e.pages) (mark L index))).toArray 4 (0, 0))) ∧ Below w.heap.size w wr ∧ w.heap.size + 1 ≤ wr.heap.size)
        (fun i _ => ps.length - (intOf i).toNat)
      case atStart => exact ⟨0, by omega, rfl, hrow, hbr, hsr⟩
      case round =>
        obtain ⟨k, hk, rfl, hrow, hbr, hsr⟩ := hrel
        by_cases hlt : k < ps.length
        · have hki : (k : Int) < (ps.length : Int) := by omega
          have hkb : (k : Int) + 1 ≤ 9223372036854775807 := by unfold maxLen at hcm; omega
          have hr := hv.below hbr (Nat.le_refl _)
          obtain ⟨b, off, c', he, h0, h1, h2⟩ := hr.cells hlt
          cases he
          obtain ⟨A2, c2, hsl, hpc, hpcm, -⟩ := hr.at_ _ (List.getElem_mem hlt)
          have hin := hv.at_ _ (List.getElem_mem hlt)
          have hqs := hpn _ (List.getElem_mem hlt)
          have htk : (ents (ps.take (k + 1))).foldl (fun L e => mark L e.pages) (mark L index) = mark ((ents (ps.take k)).foldl (fun L e => mark L e.pages) (mark L index)) ps[k].1.pages := by
            rw [List.take_succ_eq_append_getElem hlt, ents, List.map_append, List.foldl_append]; rfl
          have hln : ((ents (ps.take k)).foldl (fun L e => mark L e.pages) (mark L index)).length = C.n := by
            have : ∀ (es : List DE) (L : List Bool), (es.foldl (fun L e => mark L e.pages) L).length = L.length := by
              intro es
              induction es with
              | nil => intro L; rfl
              | cons e es ih => intro L; rw [List.foldl_cons, ih, mark_length]
            rw [this, mark_length, HL3.out]
          rw [hsl] at h2 hin
          generalize hE : ps[k].1 = e at *
          generalize hM : (ents (ps.take k)).foldl (fun L e => mark L e.pages) (mark L index) = M at *
          have HTK := Lib.hid htk; have HLN := Lib.hid hln; have HLT := Lib.hid hlt
          clear htk hln hsl hE hM
          unfold iv at h1
          obtain ⟨A3, c3, he, _, _, hcells⟩ := hin.rd
          cases he
          have hil := ivs_length e.pages
          have HIL := Lib.hid hil; clear hil
          generalize hPP : e.pages.length = pp at *
          have HPP := Lib.hid hPP; clear hPP
          have hrow1 : (wr.alloc (.cells #[.string e.name, .int .i64 e.size, .slice A2 pp c2] 94)).heap[w.heap.size]? = some (.cells (bls M).toArray 4 (0, 0)) := (heap_alloc_old wr _ (by omega)).trans hrow.out
          have HROW1 := Lib.hid hrow1; clear hrow1
          have b5 : Below w.heap.size w (wr.alloc (.cells #[.string e.name, .int .i64 e.size, .slice A2 pp c2] 94)) := hbr.alloc hbr.size _
          have hs5 : w.heap.size + 1 ≤ (wr.alloc (.cells #[.string e.name, .int .i64 e.size, .slice A2 pp c2] 94)).heap.size := by simp; omega
          clear hv hr
          go_wp2
          go_loopw [46] (fun i W => ∃ j : Nat, j ≤ pp ∧ i = .int .i64 j ∧ Hid (W.heap[w.heap.size]? = some (.cells (bls (mark M (e.pages.take j))).toArray 4 (0, 0))) ∧ Below w.heap.size w W ∧ w.heap.size + 1 ≤ W.heap.size)
            (fun i _ => pp - (intOf i).toNat)
          case atStart => exact ⟨0, by omega, rfl, HROW1, b5, hs5⟩
          case round =>
            obtain ⟨j, hj, rfl, hrow, hbr, hsr⟩ := hrel
            by_cases hlt : j < pp
            · have hjb : (j : Int) + 1 ≤ 9223372036854775807 := by unfold maxLen at hpcm; omega
              obtain ⟨b, off, rfl, hcell⟩ := hcells j (by rw [HIL.out]; exact hlt)
              have hlt' : j < e.pages.length := by rw [HPP.out]; exact hlt
              have hcell' : wr.cell? ⟨b, off + j, none⟩ = some (.int .i64 e.pages[j]) := by rw [hbr.cell (p := ⟨b, off + j, none⟩) (block_lt_of_cell hcell), hcell]; simp [ivs, iv]
              have hq := hqs _ (List.getElem_mem hlt')
              have hms := mark_snoc M e.pages j hlt'
              generalize hQ : e.pages[j] = q at *
              have HMS := Lib.hid hms; clear hms hQ hcell
              have hki : (j : Int) < (pp : Int) := by omega
              have hqi : (q : Int) < (C.n : Int) := by omega
              have hql : q < (mark M (e.pages.take j)).length := by rw [mark_length, HLN.out]; exact hq
              go_wp2_with (refine st4 rfl _ _ rfl rfl rfl hrow.out hql ?_)
              intro w4 h4 c4
              rw [← HMS.out] at h4
              have H4 := Lib.hid h4; clear h4
              have b4 := hbr.trans (c4.below (Nat.le_refl _))
              have hs4 : w.heap.size + 1 ≤ w4.heap.size := by rw [c4.size]; exact hsr
              clear c4 hql
              go_wp2
              go_roundw
              case rel => exact ⟨j + 1, hlt, by go_num, H4, b4, hs4⟩
              case measure => simp [intOf]; omega
            · obtain rfl : j = pp := by omega
              have htp : e.pages.take j = e.pages := List.take_of_length_le (by rw [HPP.out]; exact Nat.le_refl _)
              rw [htp, ← HTK.out] at hrow
              clear htp
              go_wp2
              go_roundw
              case rel => exact ⟨k + 1, HLT.out, by go_num, hrow, hbr, hsr⟩
              case measure => have := HLT.out; simp [intOf]; omega
        · obtain rfl : k = ps.length := by omega
          rw [List.take_length] at hrow
          go_wp2
          go_ret
          exact ⟨_, rfl, Nat.le_refl _, by rw [HBASE.out]; exact hrow.out, hbr⟩
end Go.Proofs.Ytcgapfmdpchemaa
