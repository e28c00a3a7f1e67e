/- The walk of the reference's free. -/
import Derived.Test.YtcgapfmdpchemaaRefF
namespace Go.Proofs.Ytcgapfmdpchemaa
open Go.RowKit
/-- what is marked, entry by entry -/
def markE (L : List Bool) (es : List EA) : List Bool := es.foldl (fun L e => mark L e.pages) L
theorem markE_length (L : List Bool) (es : List EA) : (markE L es).length = L.length := by
  induction es generalizing L with
  | nil => rfl
  | cons e es ih => unfold markE at *; rw [List.foldl_cons, ih, mark_length]
theorem markE_succ (L : List Bool) (es : List EA) (k : Nat) (hk : k < es.length) : markE L (es.take (k + 1)) = mark (markE L (es.take k)) es[k].pages := by
  unfold markE
  rw [List.take_succ_eq_append_getElem hk, List.foldl_append]; rfl
theorem markE_des (L : List Bool) (es : List EA) : markE L es = (es.map EA.de).foldl (fun L e => mark L e.pages) L := by
  unfold markE
  rw [List.foldl_map]; rfl
/-- the free ones among the first p -/
def freeTo (L : List Bool) (p : Nat) : List Nat := (List.range p).filter fun i => decide (2 ≤ i) && !(L.getD i true)
theorem freeTo_two (L : List Bool) : freeTo L 2 = [] := by rfl
theorem freeTo_succ (L : List Bool) (p : Nat) (h2 : 2 ≤ p) (hp : p < L.length) : freeTo L (p + 1) = freeTo L p ++ (if L[p] then [] else [p]) := by
  unfold freeTo
  rw [List.range_succ, List.filter_append]
  congr 1
  have e : L.getD p true = L[p] := by simp [hp]
  simp only [List.filter_cons, List.filter_nil, e]
  cases L[p] <;> simp [h2]
theorem freeTo_all {A : AD} (h4 : 4 ≤ A.n) : freeTo (markE (mark (List.replicate A.n false) A.index) A.es) A.n = A.freeL := by
  unfold freeTo AD.freeL Ytcgapfmdpchemaa.freeL AD.usedL
  rw [usedB_length A.n (by omega)]
  apply List.filter_congr
  intro i hi
  rw [List.mem_range] at hi
  have h1 := used_iff A.n (by omega) A.index A.des i hi true
  have h2 : (markE (mark (List.replicate A.n false) A.index) A.es).getD i true = true ↔ (i ∈ A.index ∨ ∃ e ∈ A.des, i ∈ e.pages) := by
    rw [markE_des, marks_getD, mark_getD, mark_length, List.length_replicate]
    have h0 : (List.replicate A.n false).getD i true = false := by simp [List.getD_eq_getElem?_getD, hi]
    rw [h0]
    constructor
    · rintro ((h | h) | h)
      · cases h
      · exact .inl h.1
      · exact .inr h.1
    · rintro (h | h)
      · exact .inl (.inr ⟨h, hi⟩)
      · exact .inr ⟨h, hi⟩
  rw [Bool.eq_iff_iff, Bool.and_eq_true, decide_eq_true_iff, Bool.not_eq_true', Bool.not_eq_true', ← Bool.not_eq_true, ← Bool.not_eq_true, h1, h2]
  constructor
  · rintro ⟨g1, g2⟩ (h | h)
    · omega
    · exact g2 h
  · intro h
    exact ⟨Nat.le_of_not_lt fun g => h (.inl g), fun g => h (.inr g)⟩
section
variable {B eb m : Nat} {A : AD}
set_option maxRecDepth 1000000 in
set_option maxHeartbeats 4000000 in
theorem rfree_any (w : World) (h : RIs w B eb A m) (h4 : 4 ≤ A.n) (h5 : A.n ≤ 4096) (hixn : ∀ q ∈ A.index, q < A.n) (hpn : ∀ e ∈ A.es, ∀ q ∈ e.pages, q < A.n) :
    Calls Try.prog 73 #[.pointer (some ⟨eb, 0, none⟩)] w fun e w' => ∃ v, e = .returned v ∧ Below w.heap.size w w' ∧ w'.ownsRow w.heap.size 3 1 v A.freeL.length (ivs A.freeL) := by
  obtain ⟨hs, ve, vi, vh, ps, h, -⟩ := h
  have HR := Lib.hid h
  have c0 := h.c.1
  have heq := h.eq
  have HFA := Lib.hid (freeTo_all h4)
  have HIX := Lib.hid hixn; have HPN := Lib.hid hpn
  clear h hixn hpn
  go_enter Try.func73, Try.ntmps73
  go_wp2_with (refine mk88 rfl _ _ rfl A.n (by omega) rfl rfl ?_)
  intro w1 h1 hs1 b1
  have hL : (List.replicate A.n false).length = A.n := List.length_replicate
  generalize List.replicate A.n false = L at *
  have H1 := Lib.hid h1; have B1 := Lib.hid b1; have HL := Lib.hid hL; clear h1 b1 hL
  obtain ⟨Ai, ci, hvi, -, hcmi, -⟩ := HR.out.ix
  subst hvi
  have hil : A.index.length ≤ 9223372036854775807 := by have := HR.out.ix.rd; obtain ⟨_, c, he, h1, h2, _⟩ := this; unfold maxLen at h2; omega
  obtain ⟨Ae, ce, hve, -, hcme, -⟩ := HR.out.es.1
  subst hve
  have hpl : ps.length ≤ 9223372036854775807 := by have := HR.out.es.1.rd; obtain ⟨_, c, he, h1, h2, _⟩ := this; unfold maxLen at h2; omega
  go_wp2
  go_loopw [4] (fun i wr => ∃ k : Nat, k ≤ A.index.length ∧ i = .int .i64 k ∧ Hid (wr.heap[w.heap.size]? = some (.cells (bls (mark L (A.index.take k))).toArray 4 (0, 0))) ∧ Below w.heap.size w wr ∧ w.heap.size + 1 ≤ wr.heap.size)
    (fun i _ => A.index.length - (intOf i).toNat)
  case atStart => exact ⟨0, by omega, rfl, H1, B1.out, hs1⟩
  case round =>
    obtain ⟨k, hk, rfl, hrow, hbr, hsr⟩ := hrel
    have HBR := Lib.hid hbr
    have hc := (HR.out.below hbr (Nat.le_refl _)).c
    have c4 := hc.2.2.2.2.1
    have c3 := hc.2.2.2.1
    clear hc hbr
    by_cases hlt : k < A.index.length
    · obtain ⟨b, off, rfl, hcell'⟩ : ∃ b off, Ai = some ⟨b, off, none⟩ ∧ wr.cell? ⟨b, off + k, none⟩ = some (.int .i64 A.index[k]) := by
        obtain ⟨a2, c2, he, _, _, hcc⟩ := (HR.out.ix.below HBR.out (Nat.le_refl _)).rd
        cases he
        obtain ⟨b, off, ha, h⟩ := hcc k (by rw [ivs_length]; exact hlt)
        exact ⟨b, off, ha, by rw [h]; simp [ivs, iv]⟩
      have hq := HIX.out _ (List.getElem_mem hlt)
      have hms := mark_snoc L A.index k hlt
      generalize hQ : A.index[k] = q at *
      have HMS := Lib.hid hms; clear hms hQ
      have hki : (k : Int) < (A.index.length : Int) := by omega
      have hqi : (q : Int) < (A.n : Int) := by omega
      have hql : q < (mark L (A.index.take k)).length := by rw [mark_length, HL.out]; exact hq
      go_wp2_with (refine st4 rfl _ _ rfl rfl rfl hrow.out hql ?_)
      intro w4 hw4 e4
      rw [← HMS.out] at hw4
      have H4 := Lib.hid hw4; clear hw4
      have b4 := HBR.out.trans (e4.below (Nat.le_refl _))
      have hs4 : w.heap.size + 1 ≤ w4.heap.size := by rw [e4.size]; exact hsr
      clear e4 hql
      go_wp2
      go_roundw
      case rel => exact ⟨k + 1, hlt, by go_num, H4, b4, hs4⟩
      case measure => simp [intOf]; omega
    · obtain rfl : k = A.index.length := by omega
      rw [List.take_length] at hrow
      have HL2 : Hid ((mark L A.index).length = A.n) := Lib.hid (by rw [mark_length, HL.out])
      have hfa := HFA.out
      generalize mark L A.index = L2 at *
      have HFA2 := Lib.hid hfa
      clear hfa HFA H1
      go_wp2
      go_loopw [5] (fun i wr => ∃ k : Nat, k ≤ ps.length ∧ i = .int .i64 k ∧ Hid (wr.heap[w.heap.size]? = some (.cells (bls (markE L2 (A.es.take k))).toArray 4 (0, 0))) ∧ Below w.heap.size w wr ∧ w.heap.size + 1 ≤ wr.heap.size)
        (fun i _ => ps.length - (intOf i).toNat)
      case atStart => exact ⟨0, by omega, rfl, hrow, HBR.out, hsr⟩
      case round =>
        obtain ⟨k, hk, rfl, hrow, hbr, hsr⟩ := hrel
        have HBR := Lib.hid hbr
        have hlen : A.es.length = ps.length := by rw [← heq]; simp [eas]
        have hc := (HR.out.below hbr (Nat.le_refl _)).c
        have c3 := hc.2.2.2.1
        have c0 := hc.1
        clear hc
        by_cases hlt : k < ps.length
        · have hki : (k : Int) < (ps.length : Int) := by omega
          have hre := HR.out.es.below hbr (Nat.le_refl _)
          obtain ⟨b, off, c', he, -, -, h2⟩ := hre.cells hlt
          cases he
          have hpg := HR.out.es.2 _ (List.getElem_mem hlt)
          obtain ⟨A2, c2, hsl, hpc, hpcm, -⟩ := id hpg
          have hek : A.es[k]'(by rw [hlen]; exact hlt) = ps[k].1 := by simp only [← heq, eas, List.getElem_map]
          have hqs := HPN.out _ (List.getElem_mem (show k < A.es.length by rw [hlen]; exact hlt))
          have htk := markE_succ L2 A.es k (by rw [hlen]; exact hlt)
          rw [hek] at hqs htk
          rw [hsl] at h2 hpg
          have hpl2 : ps[k].1.pages.length ≤ 9223372036854775807 := by unfold maxLen at hpcm; omega
          clear hek hsl hre
          generalize ps[k].1.pages = pg at *
          have HPG := Lib.hid hpg; have HQS := Lib.hid hqs; have HTK := Lib.hid htk
          have H2 := Lib.hid h2
          have HL3 : Hid ((markE L2 (A.es.take k)).length = A.n) := Lib.hid (by rw [markE_length, HL2.out])
          clear hpg hqs htk hbr
          generalize markE L2 (A.es.take k) = L3 at *
          generalize wr = wo at *
          go_wp2
          go_loopw [6] (fun i wr => ∃ j : Nat, j ≤ pg.length ∧ i = .int .i64 j ∧ Hid (wr.heap[w.heap.size]? = some (.cells (bls (mark L3 (pg.take j))).toArray 4 (0, 0))) ∧ Below w.heap.size wo wr ∧ w.heap.size + 1 ≤ wr.heap.size)
            (fun i _ => pg.length - (intOf i).toNat)
          case atStart => exact ⟨0, by omega, rfl, hrow, Below.refl _ _, hsr⟩
          case round =>
            obtain ⟨j, hj, rfl, hrow, hbj, hsr⟩ := hrel
            have HBJ := Lib.hid hbj
            have hb0 := HBR.out.trans hbj
            have hc := (HR.out.below hb0 (Nat.le_refl _)).c
            have c3' := hc.2.2.2.1
            have h2' : wr.cell? ⟨b, off + k * 3 + 2, none⟩ = some (.slice A2 pg.length c2) := by
              obtain ⟨b', off', c'', he, -, -, h3⟩ := (HR.out.es.below hb0 (Nat.le_refl _)).cells hlt
              cases he
              obtain ⟨b', off', c'', he, -, -, h4'⟩ := (HR.out.es.below HBR.out (Nat.le_refl _)).cells hlt
              cases he
              rw [h3, ← h4', H2.out]
            clear hc hbj
            by_cases hjlt : j < pg.length
            · obtain ⟨b2, off2, rfl, hcell'⟩ : ∃ b off, A2 = some ⟨b, off, none⟩ ∧ wr.cell? ⟨b, off + j, none⟩ = some (.int .i64 pg[j]) := by
                obtain ⟨a2, c2, he, _, _, hcc⟩ := (HPG.out.below hb0 (Nat.le_refl _)).rd
                cases he
                obtain ⟨b, off, ha, h⟩ := hcc j (by rw [ivs_length]; exact hjlt)
                exact ⟨b, off, ha, by rw [h]; simp [ivs, iv]⟩
              have hq := HQS.out _ (List.getElem_mem hjlt)
              have hms := mark_snoc L3 pg j hjlt
              generalize hQ : pg[j] = q at *
              have HMS := Lib.hid hms; clear hms hQ hb0
              have hji : (j : Int) < (pg.length : Int) := by omega
              have hqi : (q : Int) < (A.n : Int) := by omega
              have hql : q < (mark L3 (pg.take j)).length := by rw [mark_length, HL3.out]; exact hq
              go_wp2_with (refine st4 rfl _ _ rfl rfl rfl hrow.out hql ?_)
              intro w4 hw4 e4
              rw [← HMS.out] at hw4
              have H4 := Lib.hid hw4; clear hw4
              have b4 := HBJ.out.trans (e4.below (Nat.le_refl _))
              have hs4 : w.heap.size + 1 ≤ w4.heap.size := by rw [e4.size]; exact hsr
              clear e4 hql
              go_wp2
              go_roundw
              case rel => exact ⟨j + 1, hjlt, by go_num, H4, b4, hs4⟩
              case measure => simp [intOf]; omega
            · obtain rfl : j = pg.length := by omega
              rw [List.take_length, ← HTK.out] at hrow
              clear hb0
              go_wp2
              go_roundw
              case rel => exact ⟨k + 1, by omega, by go_num, hrow, HBR.out.trans HBJ.out, hsr⟩
              case measure => simp [intOf]; omega
        · obtain rfl : k = ps.length := by omega
          rw [← hlen, List.take_length] at hrow
          have HL3 : Hid ((markE L2 A.es).length = A.n) := Lib.hid (by rw [markE_length, HL2.out])
          have hfa := HFA2.out
          generalize markE L2 A.es = L3 at *
          have HFA3 := Lib.hid hfa
          have HROW := Lib.hid hrow
          clear hfa HFA2 hrow hbr
          generalize wr = wo at *
          go_wp2
          go_loopw [7, 8] (fun o i wr => ∃ p : Nat, 2 ≤ p ∧ p ≤ A.n ∧ i = .int .i64 p ∧ wr.ownsRow wo.heap.size 3 1 o (freeTo L3 p).length (ivs (freeTo L3 p)) ∧ Below wo.heap.size wo wr) (fun _ i _ => A.n - (intOf i).toNat)
          case atStart => exact ⟨2, by omega, by omega, rfl, by rw [freeTo_two]; exact World.ownsRow_nil _ _ _ _, Below.refl _ _⟩
          case round =>
            obtain ⟨p, hp2, hpn, rfl, own, hbp⟩ := hrel
            have hc := (HR.out.below (HBR.out.trans (hbp.mono HBR.out.size)) (Nat.le_refl _)).c
            have c0' := hc.1
            clear hc
            by_cases hlt : p < A.n
            · have hpi : (p : Int) < (A.n : Int) := by omega
              have hpl3 : p < L3.length := by rw [HL3.out]; exact hlt
              have hsz : w.heap.size < wo.heap.size := by omega
              have hcell : wr.cell? ⟨w.heap.size, p, none⟩ = some (.bool L3[p]) := by
                rw [cell_of_row _ _ _ _ _ _ ((hbp.block _ hsz).trans HROW.out)]
                simp [bls, hpl3]
              have hfs := freeTo_succ L3 p hp2 hpl3
              generalize L3[p] = bb at *
              have HFS := Lib.hid hfs; clear hfs
              have HBP := Lib.hid hbp; clear hbp
              cases bb
              · have hln : (freeTo L3 p).length + 1 ≤ 1000000000 := by
                  have h1 : (freeTo L3 p).length ≤ (List.range p).length := List.length_filter_le _ _
                  rw [List.length_range] at h1; omega
                generalize freeTo L3 p = F at *
                obtain ⟨A3, c3, rfl⟩ := own_slice own
                have hbb : wo.heap.size ≤ wr.heap.size := HBP.out.size
                go_wp2_with (at_builtin; refine app_one el51 rfl _ _ rfl rfl own rfl rfl rfl hln hbb ?_)
                intro v4 w4 o4 _ b4
                go_wp2
                go_roundw
                case rel => exact ⟨p + 1, by omega, by omega, by go_num, by rw [HFS.out]; simpa [ivs, iv] using o4, HBP.out.trans b4⟩
                case measure => simp [intOf]; omega
              · obtain ⟨A3, c3, rfl⟩ := own_slice own
                go_wp2
                go_roundw
                case rel => exact ⟨p + 1, by omega, by omega, by go_num, by rw [HFS.out]; simpa using own, HBP.out⟩
                case measure => simp [intOf]; omega
            · obtain rfl : p = A.n := by omega
              rw [HFA3.out] at own
              obtain ⟨A3, c3, rfl⟩ := own_slice own
              have HBP := Lib.hid hbp; have OWN := Lib.hid own; clear hbp own
              go_wp2
              go_ret
              exact ⟨_, rfl, HBR.out.trans (HBP.out.mono HBR.out.size), own_base OWN.out HBR.out.size⟩
end
end Go.Proofs.Ytcgapfmdpchemaa
/- The walks of the reference's Get, List, Free and Scrub. -/
namespace Go.Proofs.Ytcgapfmdpchemaa
open Go.RowKit
theorem lookA_at {es : List EA} (hs : Asc (es.map EA.de)) {n : ByteArray} (h : isB (es.map EA.de) n = true) : ∃ hi : atB (es.map EA.de) n < es.length, lookA es n = some es[atB (es.map EA.de) n] := by
  obtain ⟨hi, hname⟩ := isB_lt hs h
  rw [List.length_map] at hi
  refine ⟨hi, ?_⟩
  rw [List.getElem_map] at hname
  cases hf : lookA es n with
  | none => exact absurd hname (lookA_none.1 hf _ (List.getElem_mem hi))
  | some e =>
    have he := List.mem_of_find?_eq_some hf
    have hn : e.name = n := by have := List.find?_some hf; simpa using this
    obtain ⟨j, hj, rfl⟩ := List.getElem_of_mem he
    have hp := List.pairwise_map.1 hs
    rcases Nat.lt_trichotomy j (atB (es.map EA.de) n) with hlt | heq | hgt
    · have := List.pairwise_iff_getElem.1 hp j _ hj hi hlt
      simp only [EA.de] at this hname
      rw [hn, hname] at this
      exact absurd this (nlt_irrefl _)
    · simp only [heq]
    · have := List.pairwise_iff_getElem.1 hp _ j hi hj hgt
      simp only [EA.de] at this hname
      rw [hn, hname] at this
      exact absurd this (nlt_irrefl _)
theorem lookA_no {es : List EA} {n : ByteArray} (h : isB (es.map EA.de) n = false) : lookA es n = none := by
  rw [lookA_none]
  exact fun e he hn => isB_name h e.de (des_mem he) hn
section
variable {B eb et m : Nat} {A : AD} {C : Cn}
set_option maxRecDepth 1000000 in
set_option maxHeartbeats 2000000 in
theorem rget_any (w : World) (hs' : RSt w et eb) (h : RIs w B eb A m) (hR : Rep C A) (n : ByteArray) : Calls Try.prog 47 #[.pointer (some ⟨et, 0, none⟩), .string n] w fun e w' => e = .returned (.tuple #[.string (A.get n).1, .int .i64 (A.get n).2]) ∧ Below w.heap.size w w' := by
  have HS := Lib.hid hs'; have H := Lib.hid h; have HA : Hid (Asc A.des) := Lib.hid hR.asc
  clear hs' h hR
  have hgl := get_look A n
  by_cases harg : argB n = 0
  · have hz : n.size ≠ 0 := by intro h0; simp [argB, h0] at harg
    have h64 : ¬ (64 : Int) < (n.size : Int) := by intro h0; unfold argB at harg; rw [if_pos (.inr (by omega))] at harg; cases harg
    have hem := nonempty_of hz
    rw [harg] at hgl
    have HGL := Lib.hid hgl
    clear hgl harg hz
    go_enter Try.func47, Try.ntmps47
    go_wp2_with fail
    refine (show Calls Try.prog 46 #[.pointer (some ⟨et, 0, none⟩), .int .i64 0] w _ from rstate_any w HS.out H.out 0).mono ?_
    rintro e w1 ⟨rfl, b1⟩
    by_cases hst : A.state 0 = 0
    · rw [hst]
      have HGL2 := Lib.hid (HGL.out.trans (by rw [if_neg (by rw [hst]; simp)]))
      obtain ⟨dhs, ve, vi, vh, ps, hr, -⟩ := H.out.below b1 (Nat.le_refl _)
      have hc1 := (HS.out.below b1 (Nat.le_refl _)).c
      have c3 := hr.c.2.2.2.1
      have hasc : Asc (edes ps) := by unfold edes; rw [hr.eq]; exact HA.out
      have HR := Lib.hid hr; have B1 := Lib.hid b1
      clear hr b1 hst
      go_wp2_with fail
      refine (rat_any w1 ve ps HR.out.es hasc n).mono ?_
      rintro e w2 ⟨rfl, k2, hw2⟩
      have b2 : Below w1.heap.size w1 w2 := by rw [hw2]; exact below_drewN w1 k2
      have HR2 := Lib.hid (HR.out.below b2 (Nat.le_refl _)); have B2 := Lib.hid (below_more B1.out b2 (Nat.le_refl _))
      have hc2 := ((HS.out.below B1.out (Nat.le_refl _)).below b2 (Nat.le_refl _)).c
      have c32 := HR2.out.c.2.2.2.1
      have hed : edes ps = A.des := by unfold edes; rw [HR.out.eq]; rfl
      rw [hed]
      clear hed hasc hw2 b2 HR B1 hc1 c3
      cases his : isB A.des n
      · have HG : Hid (A.get n = (ByteArray.empty, 4)) := Lib.hid (by rw [HGL2.out, lookA_no his])
        clear HGL HGL2
        go_wp2
        go_ret2
        rw [HG.out]
        exact ⟨rfl, B2.out⟩
      · obtain ⟨hi, hla⟩ := lookA_at (es := A.es) HA.out his
        have hla' : lookA A.es n = some (A.es[atB A.des n]'hi) := hla
        have hlen : ps.length = A.es.length := by rw [← HR2.out.eq]; simp [eas]
        have hi2 : atB A.des n < ps.length := by rw [hlen]; exact hi
        have he1 : A.es[atB A.des n]'hi = ps[atB A.des n].1 := by
          have := HR2.out.eq
          simp only [← this, eas, List.getElem_map]
        rw [he1] at hla'
        have HG := Lib.hid (HGL2.out.trans (by rw [hla']))
        obtain ⟨b, off, c, hve, -, g1, g2⟩ := HR2.out.es.cells hi2
        have hpg := HR2.out.es.2 _ (List.getElem_mem hi2)
        obtain ⟨Ap, cp, hpv, -⟩ := id hpg
        rw [hpv] at g2 hpg
        subst hve
        dsimp only at HG
        clear hla hla' he1 HGL HGL2 hpv his hlen hi
        generalize hI : atB A.des n = I at *
        generalize ps[I].1.value = vl at *
        generalize ps[I].1.pages = pg at *
        have HPG := Lib.hid hpg; clear hpg
        have hii : (I : Int) < (ps.length : Int) := by omega
        go_wp2
        go_quiet ((go_at_call 71; refine Calls.quiet_of_same ((rany_any _ (HR2.out.below (below_drewN w2 _) (Nat.le_refl _)) _ pg (HPG.out.below (below_drewN w2 _) (Nat.le_refl _)).rd).mono fun _ _ h => ⟨h.1, h.2.symm⟩)))
        cases hA : A.ok pg
        · have HGF : Hid (A.get n = (ByteArray.empty, 370)) := Lib.hid (by rw [HG.out, hA]; rfl)
          clear HG
          go_wp2
          go_ret2
          rw [HGF.out]
          exact ⟨rfl, below_more B2.out (below_drewN w2 _) (Nat.le_refl _)⟩
        · have HGF : Hid (A.get n = (vl, 0)) := Lib.hid (by rw [HG.out, hA]; rfl)
          clear HG
          go_wp2
          go_ret2
          rw [HGF.out]
          exact ⟨rfl, below_more B2.out (below_drewN w2 _) (Nat.le_refl _)⟩
    · have hsi : ¬ ((A.state 0 : Nat) : Int) = 0 := by omega
      have HGF : Hid (A.get n = (ByteArray.empty, A.state 0)) := Lib.hid (HGL.out.trans (by rw [if_pos hst]))
      clear HGL
      go_wp2
      go_ret2
      rw [HGF.out]
      exact ⟨rfl, b1⟩
  · have h2 : argB n = 2 := by
      unfold argB at harg ⊢
      split
      · rfl
      · rename_i hc; rw [if_neg hc] at harg; exact absurd rfl harg
    have hst2 : A.state 2 ≠ 0 := by
      unfold AD.state
      split
      · omega
      · rw [if_pos (by omega)]; omega
    have HGF : Hid (A.get n = (ByteArray.empty, A.state 2)) := Lib.hid (by rw [hgl, h2, if_pos hst2])
    have hsi : ¬ ((A.state 2 : Nat) : Int) = 0 := by omega
    have HSI := Lib.hid hsi
    clear hgl hst2 h2 hsi
    by_cases hz : n.size = 0
    · have hem := empty_of hz
      go_enter Try.func47, Try.ntmps47
      go_wp2_with fail
      refine (show Calls Try.prog 46 #[.pointer (some ⟨et, 0, none⟩), .int .i64 2] w _ from rstate_any w HS.out H.out 2).mono ?_
      rintro e w1 ⟨rfl, b1⟩
      have hsi := HSI.out
      go_wp2
      go_ret2
      rw [HGF.out]
      exact ⟨rfl, b1⟩
    · have hem := nonempty_of hz
      have h64 : (64 : Int) < (n.size : Int) := by
        unfold argB at harg
        by_cases h6 : 64 < n.size
        · omega
        · rw [if_neg (by omega)] at harg; exact absurd rfl harg
      go_enter Try.func47, Try.ntmps47
      go_wp2_with fail
      refine (show Calls Try.prog 46 #[.pointer (some ⟨et, 0, none⟩), .int .i64 2] w _ from rstate_any w HS.out H.out 2).mono ?_
      rintro e w1 ⟨rfl, b1⟩
      have hsi := HSI.out
      go_wp2
      go_ret2
      rw [HGF.out]
      exact ⟨rfl, b1⟩
end
end Go.Proofs.Ytcgapfmdpchemaa
