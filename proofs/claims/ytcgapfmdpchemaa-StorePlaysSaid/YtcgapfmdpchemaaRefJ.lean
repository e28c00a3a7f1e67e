/- The walks of the reference's List and Free. -/
import Derived.Test.YtcgapfmdpchemaaRefH
namespace Go.Proofs.Ytcgapfmdpchemaa
open Go.RowKit
/-- the names of the first i entries that are listed -/
def listTo (es : List DE) (a mm i : Nat) : List DE := (es.drop a).take (min mm (i - a))
theorem listTo_before {es : List DE} {a mm i : Nat} (h : i ≤ a) : listTo es a mm i = [] := by
  unfold listTo
  rw [show i - a = 0 by omega, Nat.min_zero, List.take_zero]
theorem listTo_length {es : List DE} {a mm i : Nat} (hi : i ≤ es.length) : (listTo es a mm i).length = min mm (i - a) := by
  unfold listTo
  rw [List.length_take, List.length_drop]
  omega
theorem listTo_succ {es : List DE} {a mm i : Nat} (ha : a ≤ i) (hi : i < es.length) (hm : (listTo es a mm i).length < mm) : listTo es a mm (i + 1) = listTo es a mm i ++ [es[i]] := by
  rw [listTo_length (by omega)] at hm
  unfold listTo
  rw [Nat.min_eq_right (show i - a ≤ mm by omega), Nat.min_eq_right (show i + 1 - a ≤ mm by omega), show i + 1 - a = (i - a) + 1 by omega]
  rw [List.take_succ_eq_append_getElem (by rw [List.length_drop]; omega)]
  congr 2
  rw [List.getElem_drop]
  congr 1
  omega
theorem listTo_end {es : List DE} {a mm i : Nat} (hi : i ≤ es.length) (h : i = es.length ∨ ¬ (listTo es a mm i).length < mm) : listTo es a mm i = (es.drop a).take mm := by
  rw [listTo_length hi] at h
  unfold listTo
  rcases h with h | h
  · subst h
    rcases Nat.le_total mm (es.length - a) with h1 | h1
    · rw [Nat.min_eq_left h1]
    · rw [Nat.min_eq_right h1, List.take_of_length_le (by rw [List.length_drop]; exact Nat.le_refl _), List.take_of_length_le (by rw [List.length_drop]; exact h1)]
  · rw [Nat.min_eq_left (by omega)]
section
variable {B eb et m : Nat} {A : AD} {C : Cn}
set_option maxRecDepth 1000000 in
set_option maxHeartbeats 2000000 in
theorem rlist_any (w : World) (hs' : RSt w et eb) (h : RIs w B eb A m) (hR : Rep C A) (f : ByteArray) (most : Int) : Calls Try.prog 48 #[.pointer (some ⟨et, 0, none⟩), .string f, .int .i64 most] w fun e w' => ∃ v, e = .returned (.tuple #[v, iv (A.list f most).2]) ∧ Below w.heap.size w w' ∧ w'.ownsRow w.heap.size 9 1 v (A.list f most).1.length (strs (A.list f most).1) := by
  have HS := Lib.hid hs'; have H := Lib.hid h; have HA : Hid (Asc A.des) := Lib.hid hR.asc
  clear hs' h hR
  by_cases harg : argL most = 0
  · obtain ⟨mm, rfl, hmm⟩ : ∃ mm : Nat, most = mm ∧ mm ≤ 1000 := by
      unfold argL at harg
      by_cases hc : most < 0 ∨ 1000 < most
      · rw [if_pos hc] at harg; cases harg
      · exact ⟨most.toNat, by omega, by omega⟩
    have hm0 : ¬ (mm : Int) < 0 := by omega
    have hm1 : ¬ (1000 : Int) < (mm : Int) := by omega
    have hres : A.state 0 = 0 → A.list f mm = ((A.des.drop (atB A.des f)).take mm, 0) := fun hst => by unfold AD.list; rw [harg, if_neg (by rw [hst]; simp), Int.toNat_natCast]
    have hres2 : A.state 0 ≠ 0 → A.list f mm = ([], A.state 0) := fun hst => by unfold AD.list; rw [harg, if_pos hst]
    have HRES := Lib.hid hres; have HRES2 := Lib.hid hres2; clear hres hres2 harg
    go_enter Try.func48, Try.ntmps48
    go_wp2_with fail
    refine (show Calls Try.prog 46 #[.pointer (some ⟨et, 0, none⟩), .int .i64 0] w _ from rstate_any w HS.out H.out 0).mono ?_
    rintro e w1 ⟨rfl, b1⟩
    by_cases hst : A.state 0 = 0
    · rw [hst]
      have HG := Lib.hid (HRES.out hst)
      obtain ⟨dhs, ve, vi, vh, ps, hr, -⟩ := H.out.below b1 (Nat.le_refl _)
      have HS1 := Lib.hid (HS.out.below b1 (Nat.le_refl _))
      have HR := Lib.hid hr; have B1 := Lib.hid b1
      obtain ⟨Ae, ce, hve, -⟩ := hr.es.1
      subst hve
      have hed : A.des = edes ps := by unfold edes; rw [hr.eq]; rfl
      rw [hed] at HG HA
      have hlen : (edes ps).length = ps.length := by simp [edes, eas]
      have hpl : ps.length ≤ 9223372036854775807 := by have := hr.es.1.rd; obtain ⟨_, c, he, h1, h2, _⟩ := this; unfold maxLen at h2; omega
      have HLEN := Lib.hid hlen
      have hnm : ∀ j (hj : j < ps.length) (hj2 : j < (edes ps).length), ((edes ps)[j]'hj2).name = ps[j].1.name := fun j hj hj2 => by simp [edes, eas, EA.de]
      have HNM := Lib.hid hnm
      clear hr b1 hst hed hnm hlen HRES HRES2
      generalize hA : atB (edes ps) f = a at *
      have HAT := Lib.hid hA; clear hA
      go_wp2
      go_loopw [9, 10] (fun o i wr => ∃ k : Nat, k ≤ ps.length ∧ i = .int .i64 k ∧ wr.ownsRow w1.heap.size 9 1 o (listTo (edes ps) a mm k).length (strs (listTo (edes ps) a mm k)) ∧ Below w1.heap.size w1 wr) (fun _ i _ => ps.length - (intOf i).toNat)
      case atStart => exact ⟨0, by omega, rfl, by rw [listTo_before (Nat.zero_le _)]; exact World.ownsRow_nil _ _ _ _, Below.refl _ _⟩
      case round =>
        obtain ⟨k, hk, rfl, own, hbr⟩ := hrel
        have hc := (HS1.out.below hbr (Nat.le_refl _)).c
        have c3 := (HR.out.below hbr (Nat.le_refl _)).c.2.2.2.1
        obtain ⟨Ao, co, rfl⟩ := own_slice own
        by_cases hlt : k < ps.length
        · have hki : (k : Int) < (ps.length : Int) := by omega
          by_cases hfull : (listTo (edes ps) a mm k).length < mm
          · have hfi : ((listTo (edes ps) a mm k).length : Int) < (mm : Int) := by omega
            obtain ⟨b, off, c', he, h0, -, -⟩ := (HR.out.es.below hbr (Nat.le_refl _)).cells hlt
            cases he
            have hle : k < (edes ps).length := by rw [HLEN.out]; exact hlt
            by_cases hless : nlt ps[k].1.name f
            · have hls : Op.bytesLess ps[k].1.name.toList f.toList = true := by rw [less_name, decide_eq_true hless]
              have hka : k < a := by
                rw [← HAT.out]
                apply Nat.lt_of_not_le
                intro hak
                have := atB_after HA.out hle hak
                rw [HNM.out k hlt hle] at this
                exact this hless
              have HE : Hid (listTo (edes ps) a mm (k + 1) = listTo (edes ps) a mm k) := Lib.hid (by rw [listTo_before (by omega), listTo_before (by omega)])
              have HBR := Lib.hid hbr; clear hbr hless hka hle
              generalize listTo (edes ps) a mm k = T at *
              generalize ps[k].1.name = nm at *
              go_wp2
              go_roundw
              case rel => exact ⟨k + 1, by omega, by go_num, by rw [HE.out]; exact own, HBR.out⟩
              case measure => simp [intOf]; omega
            · have hls : Op.bytesLess ps[k].1.name.toList f.toList = false := by rw [less_name, decide_eq_false hless]
              have hak : a ≤ k := by
                rw [← HAT.out]
                apply Nat.le_of_not_lt
                intro hka
                have := atB_before hle hka
                rw [HNM.out k hlt hle] at this
                exact hless this
              have HE := Lib.hid (listTo_succ hak hle hfull)
              have hn2 := HNM.out k hlt hle
              have hln : (listTo (edes ps) a mm k).length + 1 ≤ 1000000000 := by omega
              have HBR := Lib.hid hbr; clear hless hak hfull
              generalize (edes ps)[k]'hle = d at *
              rw [← hn2] at h0 hls
              clear hn2 hle
              generalize listTo (edes ps) a mm k = T at *
              have hbs : w1.heap.size ≤ wr.heap.size := HBR.out.size
              clear hbr
              go_wp2_with (at_builtin; refine app_one el75 rfl _ _ rfl rfl own rfl rfl rfl hln hbs ?_)
              intro v4 w4 o4 _ b4
              go_wp2
              go_roundw
              case rel => exact ⟨k + 1, by omega, by go_num, by rw [HE.out]; simpa [strs] using o4, HBR.out.trans b4⟩
              case measure => simp [intOf]; omega
          · have hfi : ¬ ((listTo (edes ps) a mm k).length : Int) < (mm : Int) := by omega
            have hE := listTo_end (mm := mm) (a := a) (es := edes ps) (i := k) (by rw [HLEN.out]; exact hk) (.inr hfull)
            have HE := Lib.hid (HG.out.trans (by rw [← hE]))
            have HBR := Lib.hid hbr; have OWN := Lib.hid own; clear hbr hE HG hfull own
            generalize listTo (edes ps) a mm k = T at *
            go_wp2
            go_ret2
            exact ⟨_, by rw [HE.out]; rfl, below_more B1.out HBR.out (Nat.le_refl _), by rw [HE.out]; exact own_base OWN.out B1.out.size⟩
        · obtain rfl : k = ps.length := by omega
          have hE := listTo_end (mm := mm) (a := a) (es := edes ps) (i := ps.length) (by rw [HLEN.out]; exact Nat.le_refl _) (.inl HLEN.out.symm)
          have HE := Lib.hid (HG.out.trans (by rw [← hE]))
          have HBR := Lib.hid hbr; have OWN := Lib.hid own; clear hbr hE HG own
          generalize listTo (edes ps) a mm ps.length = T at *
          go_wp2
          go_ret2
          exact ⟨_, by rw [HE.out]; rfl, below_more B1.out HBR.out (Nat.le_refl _), by rw [HE.out]; exact own_base OWN.out B1.out.size⟩
    · have hsi : ¬ ((A.state 0 : Nat) : Int) = 0 := by omega
      have HG := Lib.hid (HRES2.out hst)
      go_wp2
      go_ret2
      exact ⟨_, by rw [HG.out]; rfl, b1, by rw [HG.out]; exact World.ownsRow_nil _ _ _ _⟩
  · have harg2 : argL most = 2 := by
      unfold argL at harg ⊢
      by_cases hc : most < 0 ∨ 1000 < most
      · rw [if_pos hc]
      · rw [if_neg hc] at harg; exact absurd rfl harg
    have hst2 : A.state 2 ≠ 0 := by
      unfold AD.state
      split
      · omega
      · rw [if_pos (by omega)]; omega
    have HG := Lib.hid (show A.list f most = ([], A.state 2) by unfold AD.list; rw [harg2, if_pos hst2])
    have HSI := Lib.hid (show ¬ ((A.state 2 : Nat) : Int) = 0 by omega)
    clear hst2 harg2
    by_cases hm0 : most < 0
    · go_enter Try.func48, Try.ntmps48
      go_wp2_with fail
      refine (show Calls Try.prog 46 #[.pointer (some ⟨et, 0, none⟩), .int .i64 2] w _ from rstate_any w HS.out H.out 2).mono ?_
      rintro e w1 ⟨rfl, b1⟩
      have hsi := HSI.out
      go_wp2
      go_ret2
      exact ⟨_, by rw [HG.out]; rfl, b1, by rw [HG.out]; exact World.ownsRow_nil _ _ _ _⟩
    · have hm1 : (1000 : Int) < most := by
        unfold argL at harg
        by_cases h6 : 1000 < most
        · exact h6
        · simp [hm0, h6] at harg
      go_enter Try.func48, Try.ntmps48
      go_wp2_with fail
      refine (show Calls Try.prog 46 #[.pointer (some ⟨et, 0, none⟩), .int .i64 2] w _ from rstate_any w HS.out H.out 2).mono ?_
      rintro e w1 ⟨rfl, b1⟩
      have hsi := HSI.out
      go_wp2
      go_ret2
      exact ⟨_, by rw [HG.out]; rfl, b1, by rw [HG.out]; exact World.ownsRow_nil _ _ _ _⟩
set_option maxHeartbeats 1000000 in
theorem rfreen_any (w : World) (hs' : RSt w et eb) (h : RIs w B eb A m) (hR : Rep C A) : Calls Try.prog 50 #[.pointer (some ⟨et, 0, none⟩)] w fun e w' => e = .returned (.tuple #[iv A.free.1, iv A.free.2]) ∧ Below w.heap.size w w' := by
  have HS := Lib.hid hs'; have H := Lib.hid h
  have H4 := Lib.hid (show 4 ≤ A.n from hR.n4); have H5 := Lib.hid (show A.n ≤ 4096 from hR.n5)
  have HIX : Hid (∀ q ∈ A.index, q < A.n) := Lib.hid fun q hq => (hR.used_ix hq).2
  have HPN : Hid (∀ e ∈ A.es, ∀ q ∈ e.pages, q < A.n) := Lib.hid fun e he q hq => (hR.used_es he hq).2
  have HFL : Hid (A.freeL.length ≤ 4096) := Lib.hid (by
    unfold AD.freeL AD.usedL
    have h1 := freeL_length (usedB A.n A.index A.des)
    rw [usedB_length A.n hR.two] at h1
    have := hR.n5
    omega)
  clear hs' h hR
  have hf : A.free = if A.state 0 ≠ 0 then (0, A.state 0) else (A.freeL.length, 0) := rfl
  have HF := Lib.hid hf; clear hf
  go_enter Try.func50, Try.ntmps50
  go_wp2_with fail
  refine (show Calls Try.prog 46 #[.pointer (some ⟨et, 0, none⟩), .int .i64 0] w _ from rstate_any w HS.out H.out 0).mono ?_
  rintro e w1 ⟨rfl, b1⟩
  by_cases hst : A.state 0 = 0
  · rw [hst]
    have HG : Hid (A.free = (A.freeL.length, 0)) := Lib.hid (HF.out.trans (by rw [if_neg (by rw [hst]; simp)]))
    have hc := (HS.out.below b1 (Nat.le_refl _)).c
    have H1 := Lib.hid (H.out.below b1 (Nat.le_refl _)); have B1 := Lib.hid b1
    clear b1 hst HF
    go_wp2_with fail
    refine (rfree_any w1 H1.out H4.out H5.out HIX.out HPN.out).mono ?_
    rintro e w2 ⟨v, rfl, b2, own⟩
    obtain ⟨Ao, co, rfl⟩ := own_slice own
    have B2 := Lib.hid (below_more B1.out b2 (Nat.le_refl _)); clear b2 own
    go_wp2
    go_ret2
    rw [HG.out]
    exact ⟨rfl, B2.out⟩
  · have hsi : ¬ ((A.state 0 : Nat) : Int) = 0 := by omega
    have HG := Lib.hid (HF.out.trans (by rw [if_pos hst]))
    go_wp2
    go_ret2
    rw [HG.out]
    exact ⟨rfl, b1⟩
end
end Go.Proofs.Ytcgapfmdpchemaa
/- The walks of the reference's Scrub and wrong, and of SameStrings. -/
namespace Go.Proofs.Ytcgapfmdpchemaa
open Go.RowKit
/-- the used pages that are damaged, among the first p -/
def scrubN (A : AD) (p : Nat) : List Nat := (List.range p).filter fun i => decide (2 ≤ i) && decide (i ∉ A.freeL) && (A.hurts i).isSome
theorem scrubN_two (A : AD) : scrubN A 2 = [] := by
  unfold scrubN
  rw [List.filter_eq_nil_iff]
  intro i hi
  rw [List.mem_range] at hi
  simp [show ¬ 2 ≤ i by omega]
theorem scrubN_succ (A : AD) (p : Nat) (h : 2 ≤ p) : scrubN A (p + 1) = scrubN A p ++ (if p ∉ A.freeL ∧ (A.hurts p).isSome = true then [p] else []) := by
  unfold scrubN
  rw [List.range_succ, List.filter_append]
  congr 1
  simp only [List.filter_cons, List.filter_nil]
  by_cases h1 : p ∈ A.freeL
  · simp [h1]
  · by_cases h2 : (A.hurts p).isSome = true
    · simp [h1, h2, h]
    · simp [h1, h2]
theorem scrubN_all {A : AD} (h4 : 4 ≤ A.n) : scrubN A A.n = (List.range A.n).filter fun i => A.usedL.getD i false && decide (1 < i) && (A.hurts i).isSome := by
  unfold scrubN
  apply List.filter_congr
  intro i hi
  rw [List.mem_range] at hi
  have hl : A.usedL.length = A.n := usedB_length A.n (by omega) _ _
  have h1 : i ∈ A.freeL ↔ ¬ A.usedL.getD i false = true := by
    unfold AD.freeL Ytcgapfmdpchemaa.freeL
    rw [List.mem_filter, List.mem_range, hl]
    have : A.usedL.getD i true = A.usedL.getD i false := by simp [List.getD_eq_getElem?_getD, List.getElem?_eq_getElem (show i < A.usedL.length by rw [hl]; exact hi)]
    rw [this]
    simp [hi]
  congr 1
  rw [Bool.eq_iff_iff, Bool.and_eq_true, Bool.and_eq_true, decide_eq_true_iff, decide_eq_true_iff, decide_eq_true_iff, h1]
  constructor
  · rintro ⟨g1, g2⟩
    exact ⟨Classical.not_not.1 g2, by omega⟩
  · rintro ⟨g1, g2⟩
    exact ⟨by omega, Classical.not_not.2 g1⟩
section
variable {B eb et m : Nat} {A : AD} {C : Cn}
set_option maxRecDepth 1000000 in
set_option maxHeartbeats 4000000 in
theorem rscrub_any (w : World) (hs' : RSt w et eb) (h : RIs w B eb A m) (hR : Rep C A) : Calls Try.prog 51 #[.pointer (some ⟨et, 0, none⟩)] w fun e w' => ∃ v, e = .returned (.tuple #[v, iv A.scrub.2]) ∧ Below w.heap.size w w' ∧ w'.ownsRow w.heap.size 3 1 v A.scrub.1.length (ivs A.scrub.1) := by
  have HS := Lib.hid hs'; have H := Lib.hid h
  have H4 := Lib.hid (show 4 ≤ A.n from hR.n4); have H5 := Lib.hid (show A.n ≤ 4096 from hR.n5)
  have HIX : Hid (∀ q ∈ A.index, q < A.n) := Lib.hid fun q hq => (hR.used_ix hq).2
  have HPN : Hid (∀ e ∈ A.es, ∀ q ∈ e.pages, q < A.n) := Lib.hid fun e he q hq => (hR.used_es he hq).2
  have HFL : Hid (A.freeL.length ≤ 4096) := Lib.hid (by
    unfold AD.freeL AD.usedL
    have h1 := freeL_length (usedB A.n A.index A.des)
    rw [usedB_length A.n hR.two] at h1
    have := hR.n5
    omega)
  clear hs' h hR
  have HF : Hid (A.scrub = if A.state 0 ≠ 0 then ([], A.state 0) else (scrubN A A.n, 0)) := Lib.hid (by rw [scrubN_all H4.out]; rfl)
  go_enter Try.func51, Try.ntmps51
  go_wp2_with fail
  refine (show Calls Try.prog 46 #[.pointer (some ⟨et, 0, none⟩), .int .i64 0] w _ from rstate_any w HS.out H.out 0).mono ?_
  rintro e w1 ⟨rfl, b1⟩
  by_cases hst : A.state 0 = 0
  · rw [hst]
    have HG : Hid (A.scrub = (scrubN A A.n, 0)) := Lib.hid (HF.out.trans (by rw [if_neg (by rw [hst]; simp)]))
    have hc := (HS.out.below b1 (Nat.le_refl _)).c
    have HS1 := Lib.hid (HS.out.below b1 (Nat.le_refl _))
    have H1 := Lib.hid (H.out.below b1 (Nat.le_refl _)); have B1 := Lib.hid b1
    clear b1 hst HF
    go_wp2_with fail
    refine (rfree_any w1 H1.out H4.out H5.out HIX.out HPN.out).mono ?_
    rintro e w2 ⟨v, rfl, b2, own⟩
    have hrd := Rd_own own
    obtain ⟨Ao, co, rfl⟩ := own_slice own
    have HRD := Lib.hid hrd
    have H2 := Lib.hid (H1.out.below b2 (Nat.le_refl _)); have HS2 := Lib.hid (HS1.out.below b2 (Nat.le_refl _)); have B2 := Lib.hid (below_more B1.out b2 (Nat.le_refl _)); clear b2 own hrd hc
    have hfl63 : A.freeL.length ≤ 4096 := HFL.out
    obtain ⟨F, hF⟩ : ∃ F, A.freeL = F := ⟨_, rfl⟩
    have HFF := Lib.hid hF
    rw [hF] at HRD hfl63
    rw [hF]
    clear hF HFL
    have h5 := H5.out
    go_wp2
    go_loopw [6, 7] (fun o i wr => ∃ p : Nat, 2 ≤ p ∧ p ≤ A.n ∧ i = .int .i64 p ∧ wr.ownsRow w2.heap.size 3 1 o (scrubN A p).length (ivs (scrubN A p)) ∧ Below w2.heap.size w2 wr) (fun _ i _ => A.n - (intOf i).toNat)
    case atStart => exact ⟨2, by omega, by have := H4.out; omega, rfl, by rw [scrubN_two]; exact World.ownsRow_nil _ _ _ _, Below.refl _ _⟩
    case round =>
      obtain ⟨p, hp2, hpn, rfl, own, hbp⟩ := hrel
      have hcs := (HS2.out.below hbp (Nat.le_refl _)).c
      have c0 := (H2.out.below hbp (Nat.le_refl _)).c.1
      have HBP := Lib.hid hbp; clear hbp
      obtain ⟨Aw, cw, rfl⟩ := own_slice own
      have OWN := Lib.hid own; clear own
      by_cases hlt : p < A.n
      · have hpi : (p : Int) < (A.n : Int) := by omega
        have hss := scrubN_succ A p hp2
        have HSS := Lib.hid hss; clear hss
        generalize scrubN A p = S at *
        generalize wr = wo at *
        go_wp2
        go_loopw [8, 9] (fun u i wr => ∃ j : Nat, j ≤ F.length ∧ i = .int .i64 j ∧ u = .bool (decide (p ∉ F.take j)) ∧ wr = wo) (fun _ i _ => F.length - (intOf i).toNat)
        case atStart => exact ⟨0, by omega, rfl, by simp, rfl⟩
        case round =>
          obtain ⟨j, hj, rfl, rfl, rfl⟩ := hrel
          by_cases hjlt : j < F.length
          · have hji : (j : Int) < (F.length : Int) := by omega
            obtain ⟨b, off, rfl, hcell⟩ : ∃ b off, Ao = some ⟨b, off, none⟩ ∧ wr.cell? ⟨b, off + j, none⟩ = some (.int .i64 F[j]) := by
              obtain ⟨a2, c2, he, _, _, hcc⟩ := HRD.out.below HBP.out (Nat.le_refl _)
              cases he
              obtain ⟨b, off, ha, h⟩ := hcc j (by rw [ivs_length]; exact hjlt)
              exact ⟨b, off, ha, by rw [h]; simp [ivs, iv]⟩
            have htk : F.take (j + 1) = F.take j ++ [F[j]] := List.take_succ_eq_append_getElem hjlt
            generalize F[j] = q at *
            by_cases hin : p ∈ F.take j
            · have hd : decide (p ∉ F.take j) = false := by simp [hin]
              have HD : Hid (decide (p ∉ F.take (j + 1)) = false) := Lib.hid (by rw [htk]; simp [hin])
              rw [hd]
              clear hd hin htk
              go_wp2
              go_roundw
              case rel => exact ⟨j + 1, by omega, by go_num, by rw [HD.out], trivial⟩
              case measure => simp [intOf]; omega
            · have hd : decide (p ∉ F.take j) = true := by simp [hin]
              by_cases hpq : q = p
              · have HD : Hid (decide (p ∉ F.take (j + 1)) = false) := Lib.hid (by rw [htk]; simp [hpq])
                have hqb : ((q : Int) != (p : Int)) = false := by rw [bne_eq_false_iff_eq, hpq]
                rw [hd]
                clear hd hin htk hpq
                go_wp2
                go_roundw
                case rel => exact ⟨j + 1, by omega, by go_num, by rw [HD.out], trivial⟩
                case measure => simp [intOf]; omega
              · have HD : Hid (decide (p ∉ F.take (j + 1)) = true) := Lib.hid (by rw [htk]; simp [hin, show ¬ p = q from fun h => hpq h.symm])
                have hqb : ((q : Int) != (p : Int)) = true := by rw [bne_iff_ne]; omega
                rw [hd]
                clear hd hin htk hpq
                go_wp2
                go_roundw
                case rel => exact ⟨j + 1, by omega, by go_num, by rw [HD.out], trivial⟩
                case measure => simp [intOf]; omega
          · obtain rfl : j = F.length := by omega
            rw [List.take_length]
            by_cases hin : p ∈ F
            · have hd : decide (p ∉ F) = false := by simp [hin]
              have HE : Hid (scrubN A (p + 1) = S) := Lib.hid (by rw [HSS.out, HFF.out, if_neg (fun h => h.1 hin), List.append_nil])
              rw [hd]
              clear hd hin HSS
              go_wp2
              go_roundw
              case rel => exact ⟨p + 1, by omega, by omega, by go_num, by rw [HE.out]; exact OWN.out, HBP.out⟩
              case measure => simp [intOf]; omega
            · have hd : decide (p ∉ F) = true := by simp [hin]
              have HNI := Lib.hid hin
              rw [hd]
              clear hd hin
              obtain ⟨dhs, ve, vi, vh, ps, hr, -⟩ := H2.out.below HBP.out (Nat.le_refl _)
              go_wp2_with fail
              refine (rfind_any wr hr p).mono ?_
              rintro e w3 ⟨⟨z, rfl, hz⟩, rfl⟩
              have hs1 := hz.some hr.nd
              rw [← hr.eqh] at hs1
              clear hz
              by_cases hz0 : 0 ≤ z
              · have HE : Hid (scrubN A (p + 1) = S ++ [p]) := Lib.hid (by rw [HSS.out, HFF.out, if_pos ⟨HNI.out, hs1.1 hz0⟩])
                have hln : S.length + 1 ≤ 1000000000 := by
                  have h1 : (scrubN A (p + 1)).length ≤ (List.range (p + 1)).length := List.length_filter_le _ _
                  rw [HE.out, List.length_append, List.length_range] at h1
                  simp at h1; omega
                have own := OWN.out
                have hbs : w2.heap.size ≤ wr.heap.size := HBP.out.size
                clear hs1 HSS hr OWN
                go_wp2_with (at_builtin; refine app_one el51 rfl _ _ rfl rfl own rfl rfl rfl hln hbs ?_)
                intro v4 w4 o4 _ b4
                go_wp2
                go_roundw
                case rel => exact ⟨p + 1, by omega, by omega, by go_num, by rw [HE.out]; simpa [ivs, iv] using o4, HBP.out.trans b4⟩
                case measure => simp [intOf]; omega
              · have HE : Hid (scrubN A (p + 1) = S) := Lib.hid (by rw [HSS.out, HFF.out, if_neg (fun h => hz0 (hs1.2 h.2)), List.append_nil])
                clear hs1 HSS hr
                go_wp2
                go_roundw
                case rel => exact ⟨p + 1, by omega, by omega, by go_num, by rw [HE.out]; exact OWN.out, HBP.out⟩
                case measure => simp [intOf]; omega
      · obtain rfl : p = A.n := by omega
        go_wp2
        go_ret2
        exact ⟨_, by rw [HG.out]; rfl, below_more B2.out HBP.out (Nat.le_refl _), by rw [HG.out]; exact own_base OWN.out B2.out.size⟩
  · have hsi : ¬ ((A.state 0 : Nat) : Int) = 0 := by omega
    have HG := Lib.hid (HF.out.trans (by rw [if_pos hst]))
    go_wp2
    go_ret2
    exact ⟨_, by rw [HG.out]; rfl, b1, by rw [HG.out]; exact World.ownsRow_nil _ _ _ _⟩
end
set_option maxRecDepth 1000000 in
set_option maxHeartbeats 1000000 in
theorem sameStrings_any (w : World) (u v : Value) (l : List DE) (hu : Rd w u l.length (strs l)) (hv : Rd w v l.length (strs l)) (hl : l.length ≤ 1000000) : Calls Try.prog 49 #[u, v] w fun e w' => e = .returned (.bool true) ∧ Below w.heap.size w w' := by
  obtain ⟨A, c, rfl, hnc, hcm, hcx⟩ := hu
  obtain ⟨B, d, rfl, hnd, hdm, hcy⟩ := hv
  have hsl : (strs l).length = l.length := by simp [strs]
  have HX := Lib.hid hcx; have HY := Lib.hid hcy; have HSL := Lib.hid hsl; clear hcx hcy hsl
  have hll : ((l.length : Int) != (l.length : Int)) = false := by simp
  go_enter Try.func49, Try.ntmps49
  go_wp2
  go_loopw [5] (fun i wr => ∃ k : Nat, k ≤ l.length ∧ i = .int .i64 k ∧ Below w.heap.size w wr) (fun i _ => l.length - (intOf i).toNat)
  case atStart => exact ⟨0, by omega, rfl, Below.refl _ _⟩
  case round =>
    obtain ⟨k, hk, rfl, hbr⟩ := hrel
    by_cases hlt : k < l.length
    · obtain ⟨b1, o1, rfl, hc1⟩ := HX.out k (by rw [HSL.out]; exact hlt)
      obtain ⟨b2, o2, rfl, hc2⟩ := HY.out k (by rw [HSL.out]; exact hlt)
      have e1 : wr.cell? ⟨b1, o1 + k, none⟩ = some (.string l[k].name) := by rw [hbr.cell (p := ⟨b1, o1 + k, none⟩) (block_lt_of_cell hc1), hc1]; simp [strs]
      have e2 : wr.cell? ⟨b2, o2 + k, none⟩ = some (.string l[k].name) := by rw [hbr.cell (p := ⟨b2, o2 + k, none⟩) (block_lt_of_cell hc2), hc2]; simp [strs]
      generalize l[k].name = nm at *
      have hki : (k : Int) < (l.length : Int) := by omega
      clear hc1 hc2
      go_wp2
      go_region
      go_wp2
      go_roundw
      case rel => exact ⟨k + 1, by omega, by go_num, (hbr : Below w.heap.size w wr).trans ((Below.refl _ wr).drew)⟩
      case measure => simp [intOf]; omega
    · obtain rfl : k = l.length := by omega
      go_wp2
      go_ret
      exact ⟨rfl, hbr⟩
end Go.Proofs.Ytcgapfmdpchemaa
