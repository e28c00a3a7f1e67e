/- The walk of Do at a store that is none, and of great. -/
import Derived.Test.YtcgapfmdpchemaaShownW
namespace Go.Proofs.Ytcgapfmdpchemaa
open Go.RowKit
set_option maxRecDepth 1000000 in
set_option maxHeartbeats 4000000 in
theorem do_no (w : World) {s : Value} (hno : ∀ w', Below w.heap.size w w' → NoStore w' s) (v : Value) (l : List Pt) (hp : PutsAt w v l) (hl : l.length ≤ 1000000) :
    Calls Try.prog 11 #[s, v] w fun e w' => e = .returned (.int .i64 1) ∧ Below w.heap.size w w' := by
  obtain ⟨Ap, cp, rfl, hnc, hcm, -⟩ := id hp
  obtain ⟨w1, hw1⟩ : ∃ w1, w.alloc (.cells #[.int .i64 0] 29) = w1 := ⟨_, rfl⟩
  have b1 : Below w.heap.size w w1 := by rw [← hw1]; exact (Below.refl _ w).alloc (Nat.le_refl _) _
  have hbe1 : w1.heap[w.heap.size]? = some (.cells #[.int .i64 0] 29 (0, 0)) := by rw [← hw1]; exact heap_alloc_new w _
  have href := refused_any w1 _ l (hp.below b1 (Nat.le_refl _)) hl
  obtain ⟨be, hbe⟩ : ∃ be, w.heap.size = be := ⟨_, rfl⟩
  have HREF := Lib.hid href; have HB1 := Lib.hid b1; have HBE1 := Lib.hid hbe1; have HNO := Lib.hid hno
  clear href b1 hbe1 hp hno
  go_enter_defers Try.func11, Try.ntmps11
  go_wp2_with fail
  refine HREF.out.mono ?_
  rintro e w2 ⟨⟨r, rfl, hr⟩, b2⟩
  have bw2 : Below w.heap.size w w2 := HB1.out.trans (b2.mono HB1.out.size)
  have hbe1' : w1.heap[be]? = some (.cells #[.int .i64 0] 29 (0, 0)) := by rw [← hbe]; exact HBE1.out
  have hbe2 := (b2.block be (Array.getElem?_eq_some_iff.1 hbe1').1).trans hbe1'
  have HBG := Lib.hid (HNO.out w2 bw2 r); have HBE2 := Lib.hid hbe2; have HB2 := Lib.hid bw2
  have cbe2 : w2.cell? ⟨be, 0, none⟩ = some (.int .i64 0) := by rw [cell_of_row _ _ _ _ _ _ hbe2]; rfl
  have fbe2 : w2.frozen? ⟨be, 0, none⟩ = false := frozen_of_row _ _ _ _ _ hbe2
  clear hbe2 bw2 b2 hr hbe1'
  unfold iv
  go_wp2_with fail
  refine HBG.out.mono ?_
  rintro e w3 ⟨rfl, rfl⟩
  have HROWB := Lib.hid (show (w2.setCell ⟨be, 0, none⟩ (.int .i64 1)).heap[be]? = some (.cells #[.int .i64 1] 29 (0, 0)) by rw [heap_setCell_same w2 be 0 _ 29 _ HBE2.out]; rfl)
  have HBF := Lib.hid (HB2.out.setCell (p := ⟨be, 0, none⟩) (Nat.le_of_eq hbe) (.int .i64 1))
  obtain ⟨w4, hw4⟩ : ∃ w4, w2.setCell ⟨be, 0, none⟩ (.int .i64 1) = w4 := ⟨_, rfl⟩
  rw [hw4] at HROWB HBF
  have cbe4 : w4.cell? ⟨be, 0, none⟩ = some (.int .i64 1) := by rw [cell_of_row _ _ _ _ _ _ HROWB.out]; rfl
  have fbe4 : w4.frozen? ⟨be, 0, none⟩ = false := frozen_of_row _ _ _ _ _ HROWB.out
  have HROWC := Lib.hid (show (w4.setCell ⟨be, 0, none⟩ (.int .i64 1)).heap[be]? = some (.cells #[.int .i64 1] 29 (0, 0)) by rw [heap_setCell_same w4 be 0 _ 29 _ HROWB.out]; rfl)
  have HBG' := Lib.hid (HBF.out.setCell (p := ⟨be, 0, none⟩) (Nat.le_of_eq hbe) (.int .i64 1))
  go_wp2_with fail
  refine do_ret rfl HROWC.out ⟨rfl, HBG'.out⟩
end Go.Proofs.Ytcgapfmdpchemaa
