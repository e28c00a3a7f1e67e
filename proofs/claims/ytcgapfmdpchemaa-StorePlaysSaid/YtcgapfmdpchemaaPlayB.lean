/- The walk of play, step by step. -/
import Derived.Test.YtcgapfmdpchemaaPlayA
namespace Go.Proofs.Ytcgapfmdpchemaa
open Go.RowKit
theorem pcell {W : World} {pp bd bs eb et : Nat} (h : W.heap[pp]? = some (.cells #[.pointer (some ⟨bd, 0, none⟩), .pointer (some ⟨bs, 0, none⟩), .pointer (some ⟨eb, 0, none⟩), .pointer (some ⟨et, 0, none⟩)] 64 (0, 0))) :
    W.cell? ⟨pp, 0, none⟩ = some (.pointer (some ⟨bd, 0, none⟩)) ∧ W.cell? ⟨pp, 1, none⟩ = some (.pointer (some ⟨bs, 0, none⟩)) ∧ W.cell? ⟨pp, 2, none⟩ = some (.pointer (some ⟨eb, 0, none⟩)) ∧ W.cell? ⟨pp, 3, none⟩ = some (.pointer (some ⟨et, 0, none⟩)) := by
  refine ⟨?_, ?_, ?_, ?_⟩ <;> (rw [cell_of_row _ _ _ _ _ _ h]; rfl)
theorem xcell {W : World} {xb : Nat} {a b c d e f : Value} (h : W.heap[xb]? = some (.cells #[a, b, c, d, e, f] 25 (0, 0))) :
    W.cell? ⟨xb, 0, none⟩ = some a ∧ W.cell? ⟨xb, 1, none⟩ = some b ∧ W.cell? ⟨xb, 2, none⟩ = some c ∧ W.cell? ⟨xb, 3, none⟩ = some d ∧ W.cell? ⟨xb, 4, none⟩ = some e ∧ W.cell? ⟨xb, 5, none⟩ = some f := by
  refine ⟨?_, ?_, ?_, ?_, ?_, ?_⟩ <;> (rw [cell_of_row _ _ _ _ _ _ h]; rfl)
section
variable {B bd bp bm bs eb et pp m : Nat} {A : AD}
set_option maxRecDepth 1000000 in
set_option maxHeartbeats 4000000 in
theorem play_fail (w : World) (s : Ac) (h : Duo w B bd bp bm bs eb et pp A m) (hk : s.what.toNat % 10 = 6) (hx : s.x ≤ 9223372036854775807) :
    Calls Try.prog 26 #[.pointer (some ⟨pp, 0, none⟩), .agg #[bv s.what, s.pv, .string s.name, .int .i64 s.x, .int .i64 s.y, bv s.flip]] w fun e w' => PlayR w B bd bp bm eb pp A m e w' := by
  obtain ⟨what, pv, puts, name, x, y, flip⟩ := s
  dsimp only at *
  unfold bv
  have hrow := heap_alloc_new w (Obj.cells #[Value.int IntKind.u8 what.toNat, pv, Value.string name, Value.int IntKind.i64 x, Value.int IntKind.i64 y, Value.int IntKind.u8 flip.toNat] 25)
  obtain ⟨w1, hw1⟩ : ∃ w1, w.alloc (Obj.cells #[Value.int IntKind.u8 what.toNat, pv, Value.string name, Value.int IntKind.i64 x, Value.int IntKind.i64 y, Value.int IntKind.u8 flip.toNat] 25) = w1 := ⟨_, rfl⟩
  have b1 : Below w.heap.size w w1 := by rw [← hw1]; exact (Below.refl _ w).alloc (Nat.le_refl _) _
  rw [hw1] at hrow
  have HW1 := Lib.hid hw1; have B1 := Lib.hid b1; have HD := Lib.hid (h.below b1); have HSZ := Lib.hid h.sz
  have HBL := Lib.hid (show Below B w w1 from b1.mono h.sz)
  obtain ⟨a0, a1, a2, a3, a4, a5⟩ := xcell hrow
  obtain ⟨p0, p1, p2, p3⟩ := pcell HD.out.pr
  have HROW := Lib.hid hrow
  have hmod : ((what.toNat : Int)).tmod 10 = 6 := by
    have h1 : ((what.toNat % 10 : Nat) : Int) = (what.toNat : Int).tmod 10 := Int.ofNat_tmod _ _
    rw [← h1, hk]; rfl
  obtain ⟨xb, hxb⟩ : ∃ xb, w.heap.size = xb := ⟨_, rfl⟩
  rw [hxb] at HROW a0 a1 a2 a3 a4 a5
  have HXB := Lib.hid hxb
  clear h b1 hw1 hrow hk
  go_enter Try.func26, Try.ntmps26
  go_wp2_with fail
  rw [HW1.out]
  clear hxb
  refine wp_region_held (S := fun W => W.heap[pp]? = some (.cells #[.pointer (some ⟨bd, 0, none⟩), .pointer (some ⟨bs, 0, none⟩), .pointer (some ⟨eb, 0, none⟩), .pointer (some ⟨et, 0, none⟩)] 64 (0, 0)) ∧ W.heap[xb]? = some (.cells #[Value.int IntKind.u8 what.toNat, pv, Value.string name, Value.int IntKind.i64 x, Value.int IntKind.i64 y, Value.int IntKind.u8 flip.toNat] 25 (0, 0))) (by kernel_rfl) ?_
  have hS0 : w1.drew.heap[pp]? = some (.cells #[.pointer (some ⟨bd, 0, none⟩), .pointer (some ⟨bs, 0, none⟩), .pointer (some ⟨eb, 0, none⟩), .pointer (some ⟨et, 0, none⟩)] 64 (0, 0)) ∧ w1.drew.heap[xb]? = some (.cells #[Value.int IntKind.u8 what.toNat, pv, Value.string name, Value.int IntKind.i64 x, Value.int IntKind.i64 y, Value.int IntKind.u8 flip.toNat] 25 (0, 0)) := ⟨HD.out.pr, HROW.out⟩
  change wpAnyH _ _ _ _ _ _ _ _ w1.drew
  refine wpAnyH_take (i := 0) (v := ?_) rfl (by kernel_rfl) (by kernel_rfl) (by kernel_rfl) (fun _ _ _ h => h) (.inl ⟨by rfl, fun W hS => ?_⟩) hS0 ?_
  rotate_left
  · obtain ⟨s0, s1⟩ := hS; obtain ⟨e0, e1, e2, e3⟩ := pcell s0; obtain ⟨d0, d1, d2, d3, d4, d5⟩ := xcell s1; unfold execOp; go_simp; try with_reducible rfl
  refine wpAnyH_take (i := 1) (v := ?_) rfl (by kernel_rfl) (by kernel_rfl) (by kernel_rfl) (fun _ _ _ h => h) (.inl ⟨by rfl, fun W hS => ?_⟩) hS0 ?_
  rotate_left
  · obtain ⟨s0, s1⟩ := hS; obtain ⟨e0, e1, e2, e3⟩ := pcell s0; obtain ⟨d0, d1, d2, d3, d4, d5⟩ := xcell s1; unfold execOp; go_simp; try with_reducible rfl
  refine wpAnyH_take (i := 2) (v := ?_) rfl (by kernel_rfl) (by kernel_rfl) (by kernel_rfl) (fun _ _ _ h => h) (.inl ⟨by rfl, fun W hS => ?_⟩) hS0 ?_
  rotate_left
  · obtain ⟨s0, s1⟩ := hS; obtain ⟨e0, e1, e2, e3⟩ := pcell s0; obtain ⟨d0, d1, d2, d3, d4, d5⟩ := xcell s1; unfold execOp; go_simp; try with_reducible rfl
  refine wpAnyH_take (i := 3) (v := ?_) rfl (by kernel_rfl) (by kernel_rfl) (by kernel_rfl) (fun _ _ _ h => h) (.inl ⟨by rfl, fun W hS => ?_⟩) hS0 ?_
  rotate_left
  · obtain ⟨s0, s1⟩ := hS; obtain ⟨e0, e1, e2, e3⟩ := pcell s0; obtain ⟨d0, d1, d2, d3, d4, d5⟩ := xcell s1; unfold execOp; go_simp; try with_reducible rfl
  refine wpAnyH_take (i := 4) (v := ?_) rfl (by kernel_rfl) (by kernel_rfl) (by kernel_rfl) (fun _ _ _ h => h) (.inl ⟨by rfl, fun W hS => ?_⟩) hS0 ?_
  rotate_left
  · obtain ⟨s0, s1⟩ := hS; obtain ⟨e0, e1, e2, e3⟩ := pcell s0; obtain ⟨d0, d1, d2, d3, d4, d5⟩ := xcell s1; unfold execOp; go_simp; try with_reducible rfl
  refine wpAnyH_take (i := 5) (v := ?_) rfl (by kernel_rfl) (by kernel_rfl) (by kernel_rfl) (fun _ _ _ h => h) (.inl ⟨by rfl, fun W hS => ?_⟩) hS0 ?_
  rotate_left
  · obtain ⟨s0, s1⟩ := hS; obtain ⟨e0, e1, e2, e3⟩ := pcell s0; obtain ⟨d0, d1, d2, d3, d4, d5⟩ := xcell s1; unfold execOp; go_simp; try with_reducible rfl
  refine wpAnyH_take (i := 7) (v := ?_) rfl (by kernel_rfl) (by kernel_rfl) (by kernel_rfl) (fun _ _ _ h => h) (.inl ⟨by rfl, fun W hS => ?_⟩) hS0 ?_
  rotate_left
  · obtain ⟨s0, s1⟩ := hS; obtain ⟨e0, e1, e2, e3⟩ := pcell s0; obtain ⟨d0, d1, d2, d3, d4, d5⟩ := xcell s1; unfold execOp; go_simp; try with_reducible rfl
  refine wpAnyH_take (i := 8) (v := ?_) rfl (by kernel_rfl) (by kernel_rfl) (by kernel_rfl) (fun _ _ _ h => h) (.inl ⟨by rfl, fun W hS => ?_⟩) hS0 ?_
  rotate_left
  · obtain ⟨s0, s1⟩ := hS; obtain ⟨e0, e1, e2, e3⟩ := pcell s0; obtain ⟨d0, d1, d2, d3, d4, d5⟩ := xcell s1; unfold execOp; go_simp; try with_reducible rfl
  refine wpAnyH_take (i := 9) (v := ?_) rfl (by kernel_rfl) (by kernel_rfl) (by kernel_rfl) (fun _ _ _ h => h) (.inl ⟨by rfl, fun W hS => ?_⟩) hS0 ?_
  rotate_left
  · obtain ⟨s0, s1⟩ := hS; obtain ⟨e0, e1, e2, e3⟩ := pcell s0; obtain ⟨d0, d1, d2, d3, d4, d5⟩ := xcell s1; unfold execOp; go_simp; try with_reducible rfl
  refine wpAnyH_take (i := 10) (v := ?_) rfl (by kernel_rfl) (by kernel_rfl) (by kernel_rfl) (fun _ _ _ h => h) (.inl ⟨by rfl, fun W hS => ?_⟩) hS0 ?_
  rotate_left
  · obtain ⟨s0, s1⟩ := hS; obtain ⟨e0, e1, e2, e3⟩ := pcell s0; obtain ⟨d0, d1, d2, d3, d4, d5⟩ := xcell s1; unfold execOp; go_simp; try with_reducible rfl
  refine wpAnyH_take (i := 11) (v := ?_) rfl (by kernel_rfl) (by kernel_rfl) (by kernel_rfl) (fun _ _ _ h => h) (.inl ⟨by rfl, fun W hS => ?_⟩) hS0 ?_
  rotate_left
  · obtain ⟨s0, s1⟩ := hS; obtain ⟨e0, e1, e2, e3⟩ := pcell s0; obtain ⟨d0, d1, d2, d3, d4, d5⟩ := xcell s1; unfold execOp; go_simp; try with_reducible rfl
  refine wpAnyH_take (i := 12) (v := ?_) rfl (by kernel_rfl) (by kernel_rfl) (by kernel_rfl) (fun _ _ _ h => h) (.inl ⟨by rfl, fun W hS => ?_⟩) hS0 ?_
  rotate_left
  · obtain ⟨s0, s1⟩ := hS; obtain ⟨e0, e1, e2, e3⟩ := pcell s0; obtain ⟨d0, d1, d2, d3, d4, d5⟩ := xcell s1; unfold execOp; go_simp; try with_reducible rfl
  refine wpAnyH_all (rs := [6]) (by kernel_rfl) (by simp) ?_
  intro i hi
  obtain rfl : i = 6 := by simpa using hi
  refine op_at rfl rfl ?_
  go_simp
  refine (s_failA ((HD.out.below ((Below.refl _ w1).drew)).sess) x hx).mono ?_
  rintro e w2 ⟨rfl, hs2, ho2⟩
  have HH := Lib.hid ((HD.out.below ((Below.refl _ w1).drew)).half ho2 hs2.d)
  have HB2 := Lib.hid (HBL.out.trans (((Below.refl B w1).drew).trans ((HD.out.below ((Below.refl _ w1).drew)).below3 ho2)))
  have HX2 := Lib.hid (let ⟨_, hD, _⟩ := (HD.out.below ((Below.refl _ w1).drew)).d; row_only3 (show w1.drew.heap[xb]? = _ from HROW.out) hD ho2 (by decide) (by decide))
  clear hs2 ho2
  have hS2 := And.intro HH.out.pr HX2.out
  refine ⟨hS2, ?_⟩
  refine wpAnyH_all (rs := [13]) (by kernel_rfl) (by simp) ?_
  intro i hi
  obtain rfl : i = 13 := by simpa using hi
  refine op_at rfl rfl ?_
  go_simp
  refine (rfail_any w2 HH.out.r x).mono ?_
  rintro e w3 ⟨rfl, hr3, ho3⟩
  have HD3 := Lib.hid (HH.out.duo ho3 hr3)
  have HB3 := Lib.hid (HB2.out.trans (ho3.below HH.out.sz))
  have hS3 := And.intro HD3.out.pr (ho3.row HX2.out (by decide) (by decide))
  clear hr3 ho3
  refine ⟨hS3, ?_⟩
  refine wpAnyH_take (i := 14) (v := ?_) rfl (by kernel_rfl) (by kernel_rfl) (by kernel_rfl) (fun _ _ _ h => h) (.inl ⟨by rfl, fun W hS => ?_⟩) hS3 ?_
  rotate_left
  · obtain ⟨s0, s1⟩ := hS; obtain ⟨e0, e1, e2, e3⟩ := pcell s0; obtain ⟨d0, d1, d2, d3, d4, d5⟩ := xcell s1; unfold execOp; go_simp; try with_reducible rfl
  refine wpAnyH_take (i := 15) (v := ?_) rfl (by kernel_rfl) (by kernel_rfl) (by kernel_rfl) (fun _ _ _ h => h) (.inl ⟨by rfl, fun W hS => ?_⟩) hS3 ?_
  rotate_left
  · obtain ⟨s0, s1⟩ := hS; obtain ⟨e0, e1, e2, e3⟩ := pcell s0; obtain ⟨d0, d1, d2, d3, d4, d5⟩ := xcell s1; unfold execOp; go_simp; try with_reducible rfl
  refine wpAnyH_done (by kernel_rfl) ?_ _
  have HC := Lib.hid (show (A.failA x).2.change ≤ A.change + 1 by unfold AD.failA; split <;> exact Nat.le_succ _)
  generalize A.failA x = R at *
  obtain ⟨c, A'⟩ := R
  go_wp2
  go_ret
  exact ⟨by simp, bs, et, A', { HD3.out with r := HD3.out.r.mono (Nat.le_succ _) }, HC.out, HB3.out⟩
set_option maxRecDepth 1000000 in
set_option maxHeartbeats 4000000 in
theorem play_restart (w : World) (s : Ac) (h : Duo w B bd bp bm bs eb et pp A m) (hk : s.what.toNat % 10 = 7) :
    Calls Try.prog 26 #[.pointer (some ⟨pp, 0, none⟩), .agg #[bv s.what, s.pv, .string s.name, .int .i64 s.x, .int .i64 s.y, bv s.flip]] w fun e w' => PlayR w B bd bp bm eb pp A m e w' := by
  obtain ⟨what, pv, puts, name, x, y, flip⟩ := s
  dsimp only at *
  unfold bv
  have hrow := heap_alloc_new w (Obj.cells #[Value.int IntKind.u8 what.toNat, pv, Value.string name, Value.int IntKind.i64 x, Value.int IntKind.i64 y, Value.int IntKind.u8 flip.toNat] 25)
  obtain ⟨w1, hw1⟩ : ∃ w1, w.alloc (Obj.cells #[Value.int IntKind.u8 what.toNat, pv, Value.string name, Value.int IntKind.i64 x, Value.int IntKind.i64 y, Value.int IntKind.u8 flip.toNat] 25) = w1 := ⟨_, rfl⟩
  have b1 : Below w.heap.size w w1 := by rw [← hw1]; exact (Below.refl _ w).alloc (Nat.le_refl _) _
  rw [hw1] at hrow
  have HW1 := Lib.hid hw1; have B1 := Lib.hid b1; have HD := Lib.hid (h.below b1); have HSZ := Lib.hid h.sz
  have HBL := Lib.hid (show Below B w w1 from b1.mono h.sz)
  obtain ⟨a0, a1, a2, a3, a4, a5⟩ := xcell hrow
  obtain ⟨p0, p1, p2, p3⟩ := pcell HD.out.pr
  have HROW := Lib.hid hrow
  have hmod : ((what.toNat : Int)).tmod 10 = 7 := by
    have h1 : ((what.toNat % 10 : Nat) : Int) = (what.toNat : Int).tmod 10 := Int.ofNat_tmod _ _
    rw [← h1, hk]; rfl
  obtain ⟨xb, hxb⟩ : ∃ xb, w.heap.size = xb := ⟨_, rfl⟩
  rw [hxb] at HROW a0 a1 a2 a3 a4 a5
  have HXB := Lib.hid hxb
  clear h b1 hw1 hrow hk
  go_enter Try.func26, Try.ntmps26
  go_wp2_with fail
  rw [HW1.out]
  clear hxb
  refine wp_region_held (S := fun W => W.heap[pp]? = some (.cells #[.pointer (some ⟨bd, 0, none⟩), .pointer (some ⟨bs, 0, none⟩), .pointer (some ⟨eb, 0, none⟩), .pointer (some ⟨et, 0, none⟩)] 64 (0, 0)) ∧ W.heap[xb]? = some (.cells #[Value.int IntKind.u8 what.toNat, pv, Value.string name, Value.int IntKind.i64 x, Value.int IntKind.i64 y, Value.int IntKind.u8 flip.toNat] 25 (0, 0))) (by kernel_rfl) ?_
  have hS0 : w1.drew.heap[pp]? = some (.cells #[.pointer (some ⟨bd, 0, none⟩), .pointer (some ⟨bs, 0, none⟩), .pointer (some ⟨eb, 0, none⟩), .pointer (some ⟨et, 0, none⟩)] 64 (0, 0)) ∧ w1.drew.heap[xb]? = some (.cells #[Value.int IntKind.u8 what.toNat, pv, Value.string name, Value.int IntKind.i64 x, Value.int IntKind.i64 y, Value.int IntKind.u8 flip.toNat] 25 (0, 0)) := ⟨HD.out.pr, HROW.out⟩
  change wpAnyH _ _ _ _ _ _ _ _ w1.drew
  refine wpAnyH_take (i := 0) (v := ?_) rfl (by kernel_rfl) (by kernel_rfl) (by kernel_rfl) (fun _ _ _ h => h) (.inl ⟨by rfl, fun W hS => ?_⟩) hS0 ?_
  rotate_left
  · obtain ⟨s0, s1⟩ := hS; obtain ⟨e0, e1, e2, e3⟩ := pcell s0; obtain ⟨d0, d1, d2, d3, d4, d5⟩ := xcell s1; unfold execOp; go_simp; try with_reducible rfl
  refine wpAnyH_take (i := 1) (v := ?_) rfl (by kernel_rfl) (by kernel_rfl) (by kernel_rfl) (fun _ _ _ h => h) (.inl ⟨by rfl, fun W hS => ?_⟩) hS0 ?_
  rotate_left
  · obtain ⟨s0, s1⟩ := hS; obtain ⟨e0, e1, e2, e3⟩ := pcell s0; obtain ⟨d0, d1, d2, d3, d4, d5⟩ := xcell s1; unfold execOp; go_simp; try with_reducible rfl
  refine wpAnyH_take (i := 2) (v := ?_) rfl (by kernel_rfl) (by kernel_rfl) (by kernel_rfl) (fun _ _ _ h => h) (.inl ⟨by rfl, fun W hS => ?_⟩) hS0 ?_
  rotate_left
  · obtain ⟨s0, s1⟩ := hS; obtain ⟨e0, e1, e2, e3⟩ := pcell s0; obtain ⟨d0, d1, d2, d3, d4, d5⟩ := xcell s1; unfold execOp; go_simp; try with_reducible rfl
  refine wpAnyH_take (i := 3) (v := ?_) rfl (by kernel_rfl) (by kernel_rfl) (by kernel_rfl) (fun _ _ _ h => h) (.inl ⟨by rfl, fun W hS => ?_⟩) hS0 ?_
  rotate_left
  · obtain ⟨s0, s1⟩ := hS; obtain ⟨e0, e1, e2, e3⟩ := pcell s0; obtain ⟨d0, d1, d2, d3, d4, d5⟩ := xcell s1; unfold execOp; go_simp; try with_reducible rfl
  refine wpAnyH_take (i := 5) (v := ?_) rfl (by kernel_rfl) (by kernel_rfl) (by kernel_rfl) (fun _ _ _ h => h) (.inl ⟨by rfl, fun W hS => ?_⟩) hS0 ?_
  rotate_left
  · obtain ⟨s0, s1⟩ := hS; obtain ⟨e0, e1, e2, e3⟩ := pcell s0; obtain ⟨d0, d1, d2, d3, d4, d5⟩ := xcell s1; unfold execOp; go_simp; try with_reducible rfl
  refine wpAnyH_take (i := 6) (v := ?_) rfl (by kernel_rfl) (by kernel_rfl) (by kernel_rfl) (fun _ _ _ h => h) (.inl ⟨by rfl, fun W hS => ?_⟩) hS0 ?_
  rotate_left
  · obtain ⟨s0, s1⟩ := hS; obtain ⟨e0, e1, e2, e3⟩ := pcell s0; obtain ⟨d0, d1, d2, d3, d4, d5⟩ := xcell s1; unfold execOp; go_simp; try with_reducible rfl
  refine wpAnyH_take (i := 7) (v := ?_) rfl (by kernel_rfl) (by kernel_rfl) (by kernel_rfl) (fun _ _ _ h => h) (.inl ⟨by rfl, fun W hS => ?_⟩) hS0 ?_
  rotate_left
  · obtain ⟨s0, s1⟩ := hS; obtain ⟨e0, e1, e2, e3⟩ := pcell s0; obtain ⟨d0, d1, d2, d3, d4, d5⟩ := xcell s1; unfold execOp; go_simp; try with_reducible rfl
  refine wpAnyH_take (i := 8) (v := ?_) rfl (by kernel_rfl) (by kernel_rfl) (by kernel_rfl) (fun _ _ _ h => h) (.inl ⟨by rfl, fun W hS => ?_⟩) hS0 ?_
  rotate_left
  · obtain ⟨s0, s1⟩ := hS; obtain ⟨e0, e1, e2, e3⟩ := pcell s0; obtain ⟨d0, d1, d2, d3, d4, d5⟩ := xcell s1; unfold execOp; go_simp; try with_reducible rfl
  refine wpAnyH_all (rs := [4]) (by kernel_rfl) (by simp) ?_
  intro i hi
  obtain rfl : i = 4 := by simpa using hi
  refine op_at rfl rfl ?_
  go_simp
  refine (s_restart ((HD.out.below ((Below.refl _ w1).drew)).sess)).mono ?_
  rintro e w2 ⟨rfl, hs2, ho2⟩
  have HH := Lib.hid ((HD.out.below ((Below.refl _ w1).drew)).half ho2 hs2.d)
  have HB2 := Lib.hid (HBL.out.trans (((Below.refl B w1).drew).trans ((HD.out.below ((Below.refl _ w1).drew)).below3 ho2)))
  have HX2 := Lib.hid (let ⟨_, hD, _⟩ := (HD.out.below ((Below.refl _ w1).drew)).d; row_only3 (show w1.drew.heap[xb]? = _ from HROW.out) hD ho2 (by decide) (by decide))
  clear hs2 ho2
  have hS2 := And.intro HH.out.pr HX2.out
  refine ⟨hS2, ?_⟩
  refine wpAnyH_all (rs := [9]) (by kernel_rfl) (by simp) ?_
  intro i hi
  obtain rfl : i = 9 := by simpa using hi
  refine op_at rfl rfl ?_
  go_simp
  refine (rrestart_any w2 HH.out.r).mono ?_
  rintro e w3 ⟨rfl, hr3, ho3⟩
  have HD3 := Lib.hid (HH.out.duo ho3 hr3)
  have HB3 := Lib.hid (HB2.out.trans (ho3.below HH.out.sz))
  have hS3 := And.intro HD3.out.pr (ho3.row HX2.out (by decide) (by decide))
  clear hr3 ho3
  refine ⟨hS3, ?_⟩
  refine wpAnyH_take (i := 10) (v := ?_) rfl (by kernel_rfl) (by kernel_rfl) (by kernel_rfl) (fun _ _ _ h => h) (.inl ⟨by rfl, fun W hS => ?_⟩) hS3 ?_
  rotate_left
  · obtain ⟨s0, s1⟩ := hS; obtain ⟨e0, e1, e2, e3⟩ := pcell s0; obtain ⟨d0, d1, d2, d3, d4, d5⟩ := xcell s1; unfold execOp; go_simp; try with_reducible rfl
  refine wpAnyH_take (i := 11) (v := ?_) rfl (by kernel_rfl) (by kernel_rfl) (by kernel_rfl) (fun _ _ _ h => h) (.inl ⟨by rfl, fun W hS => ?_⟩) hS3 ?_
  rotate_left
  · obtain ⟨s0, s1⟩ := hS; obtain ⟨e0, e1, e2, e3⟩ := pcell s0; obtain ⟨d0, d1, d2, d3, d4, d5⟩ := xcell s1; unfold execOp; go_simp; try with_reducible rfl
  refine wpAnyH_done (by kernel_rfl) ?_ _
  go_wp2
  go_ret
  exact ⟨rfl, bs, et, _, { HD3.out with r := HD3.out.r.mono (Nat.le_succ _) }, Nat.le_succ _, HB3.out⟩
set_option maxRecDepth 1000000 in
set_option maxHeartbeats 4000000 in
theorem play_damage (w : World) (s : Ac) (h : Duo w B bd bp bm bs eb et pp A m) (hk : s.what.toNat % 10 = 8) (hm : m ≤ 4000) :
    Calls Try.prog 26 #[.pointer (some ⟨pp, 0, none⟩), .agg #[bv s.what, s.pv, .string s.name, .int .i64 s.x, .int .i64 s.y, bv s.flip]] w fun e w' => PlayR w B bd bp bm eb pp A m e w' := by
  obtain ⟨what, pv, puts, name, x, y, flip⟩ := s
  dsimp only at *
  unfold bv
  have hrow := heap_alloc_new w (Obj.cells #[Value.int IntKind.u8 what.toNat, pv, Value.string name, Value.int IntKind.i64 x, Value.int IntKind.i64 y, Value.int IntKind.u8 flip.toNat] 25)
  obtain ⟨w1, hw1⟩ : ∃ w1, w.alloc (Obj.cells #[Value.int IntKind.u8 what.toNat, pv, Value.string name, Value.int IntKind.i64 x, Value.int IntKind.i64 y, Value.int IntKind.u8 flip.toNat] 25) = w1 := ⟨_, rfl⟩
  have b1 : Below w.heap.size w w1 := by rw [← hw1]; exact (Below.refl _ w).alloc (Nat.le_refl _) _
  rw [hw1] at hrow
  have HW1 := Lib.hid hw1; have B1 := Lib.hid b1; have HD := Lib.hid (h.below b1); have HSZ := Lib.hid h.sz
  have HBL := Lib.hid (show Below B w w1 from b1.mono h.sz)
  obtain ⟨a0, a1, a2, a3, a4, a5⟩ := xcell hrow
  obtain ⟨p0, p1, p2, p3⟩ := pcell HD.out.pr
  have HROW := Lib.hid hrow
  have hmod : ((what.toNat : Int)).tmod 10 = 8 := by
    have h1 : ((what.toNat % 10 : Nat) : Int) = (what.toNat : Int).tmod 10 := Int.ofNat_tmod _ _
    rw [← h1, hk]; rfl
  obtain ⟨xb, hxb⟩ : ∃ xb, w.heap.size = xb := ⟨_, rfl⟩
  rw [hxb] at HROW a0 a1 a2 a3 a4 a5
  have HXB := Lib.hid hxb
  clear h b1 hw1 hrow hk
  go_enter Try.func26, Try.ntmps26
  go_wp2_with fail
  rw [HW1.out]
  clear hxb
  refine wp_region_held (S := fun W => W.heap[pp]? = some (.cells #[.pointer (some ⟨bd, 0, none⟩), .pointer (some ⟨bs, 0, none⟩), .pointer (some ⟨eb, 0, none⟩), .pointer (some ⟨et, 0, none⟩)] 64 (0, 0)) ∧ W.heap[xb]? = some (.cells #[Value.int IntKind.u8 what.toNat, pv, Value.string name, Value.int IntKind.i64 x, Value.int IntKind.i64 y, Value.int IntKind.u8 flip.toNat] 25 (0, 0))) (by kernel_rfl) ?_
  have hS0 : w1.drew.heap[pp]? = some (.cells #[.pointer (some ⟨bd, 0, none⟩), .pointer (some ⟨bs, 0, none⟩), .pointer (some ⟨eb, 0, none⟩), .pointer (some ⟨et, 0, none⟩)] 64 (0, 0)) ∧ w1.drew.heap[xb]? = some (.cells #[Value.int IntKind.u8 what.toNat, pv, Value.string name, Value.int IntKind.i64 x, Value.int IntKind.i64 y, Value.int IntKind.u8 flip.toNat] 25 (0, 0)) := ⟨HD.out.pr, HROW.out⟩
  change wpAnyH _ _ _ _ _ _ _ _ w1.drew
  refine wpAnyH_take (i := 0) (v := ?_) rfl (by kernel_rfl) (by kernel_rfl) (by kernel_rfl) (fun _ _ _ h => h) (.inl ⟨by rfl, fun W hS => ?_⟩) hS0 ?_
  rotate_left
  · obtain ⟨s0, s1⟩ := hS; obtain ⟨e0, e1, e2, e3⟩ := pcell s0; obtain ⟨d0, d1, d2, d3, d4, d5⟩ := xcell s1; unfold execOp; go_simp; try with_reducible rfl
  refine wpAnyH_take (i := 1) (v := ?_) rfl (by kernel_rfl) (by kernel_rfl) (by kernel_rfl) (fun _ _ _ h => h) (.inl ⟨by rfl, fun W hS => ?_⟩) hS0 ?_
  rotate_left
  · obtain ⟨s0, s1⟩ := hS; obtain ⟨e0, e1, e2, e3⟩ := pcell s0; obtain ⟨d0, d1, d2, d3, d4, d5⟩ := xcell s1; unfold execOp; go_simp; try with_reducible rfl
  refine wpAnyH_take (i := 2) (v := ?_) rfl (by kernel_rfl) (by kernel_rfl) (by kernel_rfl) (fun _ _ _ h => h) (.inl ⟨by rfl, fun W hS => ?_⟩) hS0 ?_
  rotate_left
  · obtain ⟨s0, s1⟩ := hS; obtain ⟨e0, e1, e2, e3⟩ := pcell s0; obtain ⟨d0, d1, d2, d3, d4, d5⟩ := xcell s1; unfold execOp; go_simp; try with_reducible rfl
  refine wpAnyH_take (i := 3) (v := ?_) rfl (by kernel_rfl) (by kernel_rfl) (by kernel_rfl) (fun _ _ _ h => h) (.inl ⟨by rfl, fun W hS => ?_⟩) hS0 ?_
  rotate_left
  · obtain ⟨s0, s1⟩ := hS; obtain ⟨e0, e1, e2, e3⟩ := pcell s0; obtain ⟨d0, d1, d2, d3, d4, d5⟩ := xcell s1; unfold execOp; go_simp; try with_reducible rfl
  refine wpAnyH_take (i := 4) (v := ?_) rfl (by kernel_rfl) (by kernel_rfl) (by kernel_rfl) (fun _ _ _ h => h) (.inl ⟨by rfl, fun W hS => ?_⟩) hS0 ?_
  rotate_left
  · obtain ⟨s0, s1⟩ := hS; obtain ⟨e0, e1, e2, e3⟩ := pcell s0; obtain ⟨d0, d1, d2, d3, d4, d5⟩ := xcell s1; unfold execOp; go_simp; try with_reducible rfl
  refine wpAnyH_take (i := 5) (v := ?_) rfl (by kernel_rfl) (by kernel_rfl) (by kernel_rfl) (fun _ _ _ h => h) (.inl ⟨by rfl, fun W hS => ?_⟩) hS0 ?_
  rotate_left
  · obtain ⟨s0, s1⟩ := hS; obtain ⟨e0, e1, e2, e3⟩ := pcell s0; obtain ⟨d0, d1, d2, d3, d4, d5⟩ := xcell s1; unfold execOp; go_simp; try with_reducible rfl
  refine wpAnyH_take (i := 6) (v := ?_) rfl (by kernel_rfl) (by kernel_rfl) (by kernel_rfl) (fun _ _ _ h => h) (.inl ⟨by rfl, fun W hS => ?_⟩) hS0 ?_
  rotate_left
  · obtain ⟨s0, s1⟩ := hS; obtain ⟨e0, e1, e2, e3⟩ := pcell s0; obtain ⟨d0, d1, d2, d3, d4, d5⟩ := xcell s1; unfold execOp; go_simp; try with_reducible rfl
  refine wpAnyH_take (i := 7) (v := ?_) rfl (by kernel_rfl) (by kernel_rfl) (by kernel_rfl) (fun _ _ _ h => h) (.inl ⟨by rfl, fun W hS => ?_⟩) hS0 ?_
  rotate_left
  · obtain ⟨s0, s1⟩ := hS; obtain ⟨e0, e1, e2, e3⟩ := pcell s0; obtain ⟨d0, d1, d2, d3, d4, d5⟩ := xcell s1; unfold execOp; go_simp; try with_reducible rfl
  refine wpAnyH_take (i := 8) (v := ?_) rfl (by kernel_rfl) (by kernel_rfl) (by kernel_rfl) (fun _ _ _ h => h) (.inl ⟨by rfl, fun W hS => ?_⟩) hS0 ?_
  rotate_left
  · obtain ⟨s0, s1⟩ := hS; obtain ⟨e0, e1, e2, e3⟩ := pcell s0; obtain ⟨d0, d1, d2, d3, d4, d5⟩ := xcell s1; unfold execOp; go_simp; try with_reducible rfl
  refine wpAnyH_take (i := 9) (v := ?_) rfl (by kernel_rfl) (by kernel_rfl) (by kernel_rfl) (fun _ _ _ h => h) (.inl ⟨by rfl, fun W hS => ?_⟩) hS0 ?_
  rotate_left
  · obtain ⟨s0, s1⟩ := hS; obtain ⟨e0, e1, e2, e3⟩ := pcell s0; obtain ⟨d0, d1, d2, d3, d4, d5⟩ := xcell s1; unfold execOp; go_simp; try with_reducible rfl
  refine wpAnyH_take (i := 11) (v := ?_) rfl (by kernel_rfl) (by kernel_rfl) (by kernel_rfl) (fun _ _ _ h => h) (.inl ⟨by rfl, fun W hS => ?_⟩) hS0 ?_
  rotate_left
  · obtain ⟨s0, s1⟩ := hS; obtain ⟨e0, e1, e2, e3⟩ := pcell s0; obtain ⟨d0, d1, d2, d3, d4, d5⟩ := xcell s1; unfold execOp; go_simp; try with_reducible rfl
  refine wpAnyH_take (i := 12) (v := ?_) rfl (by kernel_rfl) (by kernel_rfl) (by kernel_rfl) (fun _ _ _ h => h) (.inl ⟨by rfl, fun W hS => ?_⟩) hS0 ?_
  rotate_left
  · obtain ⟨s0, s1⟩ := hS; obtain ⟨e0, e1, e2, e3⟩ := pcell s0; obtain ⟨d0, d1, d2, d3, d4, d5⟩ := xcell s1; unfold execOp; go_simp; try with_reducible rfl
  refine wpAnyH_take (i := 13) (v := ?_) rfl (by kernel_rfl) (by kernel_rfl) (by kernel_rfl) (fun _ _ _ h => h) (.inl ⟨by rfl, fun W hS => ?_⟩) hS0 ?_
  rotate_left
  · obtain ⟨s0, s1⟩ := hS; obtain ⟨e0, e1, e2, e3⟩ := pcell s0; obtain ⟨d0, d1, d2, d3, d4, d5⟩ := xcell s1; unfold execOp; go_simp; try with_reducible rfl
  refine wpAnyH_take (i := 14) (v := ?_) rfl (by kernel_rfl) (by kernel_rfl) (by kernel_rfl) (fun _ _ _ h => h) (.inl ⟨by rfl, fun W hS => ?_⟩) hS0 ?_
  rotate_left
  · obtain ⟨s0, s1⟩ := hS; obtain ⟨e0, e1, e2, e3⟩ := pcell s0; obtain ⟨d0, d1, d2, d3, d4, d5⟩ := xcell s1; unfold execOp; go_simp; try with_reducible rfl
  refine wpAnyH_take (i := 15) (v := ?_) rfl (by kernel_rfl) (by kernel_rfl) (by kernel_rfl) (fun _ _ _ h => h) (.inl ⟨by rfl, fun W hS => ?_⟩) hS0 ?_
  rotate_left
  · obtain ⟨s0, s1⟩ := hS; obtain ⟨e0, e1, e2, e3⟩ := pcell s0; obtain ⟨d0, d1, d2, d3, d4, d5⟩ := xcell s1; unfold execOp; go_simp; try with_reducible rfl
  refine wpAnyH_take (i := 16) (v := ?_) rfl (by kernel_rfl) (by kernel_rfl) (by kernel_rfl) (fun _ _ _ h => h) (.inl ⟨by rfl, fun W hS => ?_⟩) hS0 ?_
  rotate_left
  · obtain ⟨s0, s1⟩ := hS; obtain ⟨e0, e1, e2, e3⟩ := pcell s0; obtain ⟨d0, d1, d2, d3, d4, d5⟩ := xcell s1; unfold execOp; go_simp; try with_reducible rfl
  refine wpAnyH_take (i := 17) (v := ?_) rfl (by kernel_rfl) (by kernel_rfl) (by kernel_rfl) (fun _ _ _ h => h) (.inl ⟨by rfl, fun W hS => ?_⟩) hS0 ?_
  rotate_left
  · obtain ⟨s0, s1⟩ := hS; obtain ⟨e0, e1, e2, e3⟩ := pcell s0; obtain ⟨d0, d1, d2, d3, d4, d5⟩ := xcell s1; unfold execOp; go_simp; try with_reducible rfl
  refine wpAnyH_take (i := 18) (v := ?_) rfl (by kernel_rfl) (by kernel_rfl) (by kernel_rfl) (fun _ _ _ h => h) (.inl ⟨by rfl, fun W hS => ?_⟩) hS0 ?_
  rotate_left
  · obtain ⟨s0, s1⟩ := hS; obtain ⟨e0, e1, e2, e3⟩ := pcell s0; obtain ⟨d0, d1, d2, d3, d4, d5⟩ := xcell s1; unfold execOp; go_simp; try with_reducible rfl
  refine wpAnyH_take (i := 19) (v := ?_) rfl (by kernel_rfl) (by kernel_rfl) (by kernel_rfl) (fun _ _ _ h => h) (.inl ⟨by rfl, fun W hS => ?_⟩) hS0 ?_
  rotate_left
  · obtain ⟨s0, s1⟩ := hS; obtain ⟨e0, e1, e2, e3⟩ := pcell s0; obtain ⟨d0, d1, d2, d3, d4, d5⟩ := xcell s1; unfold execOp; go_simp; try with_reducible rfl
  refine wpAnyH_take (i := 20) (v := ?_) rfl (by kernel_rfl) (by kernel_rfl) (by kernel_rfl) (fun _ _ _ h => h) (.inl ⟨by rfl, fun W hS => ?_⟩) hS0 ?_
  rotate_left
  · obtain ⟨s0, s1⟩ := hS; obtain ⟨e0, e1, e2, e3⟩ := pcell s0; obtain ⟨d0, d1, d2, d3, d4, d5⟩ := xcell s1; unfold execOp; go_simp; try with_reducible rfl
  refine wpAnyH_all (rs := [10]) (by kernel_rfl) (by simp) ?_
  intro i hi
  obtain rfl : i = 10 := by simpa using hi
  refine op_at rfl rfl ?_
  go_simp
  refine (show Calls Try.prog 19 #[.pointer (some ⟨bd, 0, none⟩), .int .i64 x, .int .i64 y, .int .u8 flip.toNat] w1.drew _ from s_damage ((HD.out.below ((Below.refl _ w1).drew)).sess) x y flip).mono ?_
  rintro e w2 ⟨rfl, hs2, ho2⟩
  have HH := Lib.hid ((HD.out.below ((Below.refl _ w1).drew)).half ho2 hs2.d)
  have HB2 := Lib.hid (HBL.out.trans (((Below.refl B w1).drew).trans ((HD.out.below ((Below.refl _ w1).drew)).below3 ho2)))
  have HX2 := Lib.hid (let ⟨_, hD, _⟩ := (HD.out.below ((Below.refl _ w1).drew)).d; row_only3 (show w1.drew.heap[xb]? = _ from HROW.out) hD ho2 (by decide) (by decide))
  have HN5 := Lib.hid (let ⟨_, _, hR⟩ := HD.out.d; (hR.n5 : A.n ≤ 4096))
  clear hs2 ho2
  have hS2 := And.intro HH.out.pr HX2.out
  refine ⟨hS2, ?_⟩
  refine wpAnyH_all (rs := [21]) (by kernel_rfl) (by simp) ?_
  intro i hi
  obtain rfl : i = 21 := by simpa using hi
  refine op_at rfl rfl ?_
  go_simp
  refine (show Calls Try.prog 54 #[.pointer (some ⟨eb, 0, none⟩), .int .i64 x, .int .i64 y, .int .u8 flip.toNat] w2 _ from rdamage_any w2 HH.out.r HH.out.sz hm HN5.out x y flip).mono ?_
  rintro e w3 ⟨rfl, hr3, ho3⟩
  have HD3 := Lib.hid (HH.out.duo ho3 hr3)
  have HB3 := Lib.hid (HB2.out.trans (ho3.below HH.out.sz))
  have hS3 := And.intro HD3.out.pr (ho3.row HX2.out (by decide) (by decide))
  clear hr3 ho3
  refine ⟨hS3, ?_⟩
  refine wpAnyH_take (i := 22) (v := ?_) rfl (by kernel_rfl) (by kernel_rfl) (by kernel_rfl) (fun _ _ _ h => h) (.inl ⟨by rfl, fun W hS => ?_⟩) hS3 ?_
  rotate_left
  · obtain ⟨s0, s1⟩ := hS; obtain ⟨e0, e1, e2, e3⟩ := pcell s0; obtain ⟨d0, d1, d2, d3, d4, d5⟩ := xcell s1; unfold execOp; go_simp; try with_reducible rfl
  refine wpAnyH_take (i := 23) (v := ?_) rfl (by kernel_rfl) (by kernel_rfl) (by kernel_rfl) (fun _ _ _ h => h) (.inl ⟨by rfl, fun W hS => ?_⟩) hS3 ?_
  rotate_left
  · obtain ⟨s0, s1⟩ := hS; obtain ⟨e0, e1, e2, e3⟩ := pcell s0; obtain ⟨d0, d1, d2, d3, d4, d5⟩ := xcell s1; unfold execOp; go_simp; try with_reducible rfl
  refine wpAnyH_done (by kernel_rfl) ?_ _
  have HC := Lib.hid (show (A.damage x y flip).2.change ≤ A.change + 1 by rw [(damage_keeps A x y flip).2.2.2.2.1]; exact Nat.le_succ _)
  generalize A.damage x y flip = R at *
  obtain ⟨c, A'⟩ := R
  go_wp2
  go_ret
  exact ⟨by simp, bs, et, A', HD3.out, HC.out, HB3.out⟩
set_option maxRecDepth 1000000 in
set_option maxHeartbeats 4000000 in
theorem play_do (w : World) (s : Ac) (h : Duo w B bd bp bm bs eb et pp A m) (hk : s.what.toNat % 10 ≤ 2) (hm : m ≤ 4000) (hp : ∀ W, Below B w W → PutsAt W s.pv s.puts) (hl : s.puts.length ≤ 1000000) (hch : A.change + 1 < 4294967296) :
    Calls Try.prog 26 #[.pointer (some ⟨pp, 0, none⟩), .agg #[bv s.what, s.pv, .string s.name, .int .i64 s.x, .int .i64 s.y, bv s.flip]] w fun e w' => PlayR w B bd bp bm eb pp A m e w' := by
  obtain ⟨what, pv, puts, name, x, y, flip⟩ := s
  dsimp only at *
  unfold bv
  have hrow := heap_alloc_new w (Obj.cells #[Value.int IntKind.u8 what.toNat, pv, Value.string name, Value.int IntKind.i64 x, Value.int IntKind.i64 y, Value.int IntKind.u8 flip.toNat] 25)
  obtain ⟨w1, hw1⟩ : ∃ w1, w.alloc (Obj.cells #[Value.int IntKind.u8 what.toNat, pv, Value.string name, Value.int IntKind.i64 x, Value.int IntKind.i64 y, Value.int IntKind.u8 flip.toNat] 25) = w1 := ⟨_, rfl⟩
  have b1 : Below w.heap.size w w1 := by rw [← hw1]; exact (Below.refl _ w).alloc (Nat.le_refl _) _
  rw [hw1] at hrow
  have HW1 := Lib.hid hw1; have B1 := Lib.hid b1; have HD := Lib.hid (h.below b1); have HSZ := Lib.hid h.sz
  have HBL := Lib.hid (show Below B w w1 from b1.mono h.sz)
  obtain ⟨a0, a1, a2, a3, a4, a5⟩ := xcell hrow
  obtain ⟨p0, p1, p2, p3⟩ := pcell HD.out.pr
  have HROW := Lib.hid hrow
  obtain ⟨r, hr⟩ : ∃ r : Nat, what.toNat % 10 = r := ⟨_, rfl⟩
  have hmod : ((what.toNat : Int)).tmod 10 = (r : Int) := by
    have h1 : ((what.toNat % 10 : Nat) : Int) = (what.toNat : Int).tmod 10 := Int.ofNat_tmod _ _
    rw [← h1, hr]
  have hr3 : ((r : Int) == 3) = false := by rw [beq_eq_false_iff_ne]; omega
  have hr4 : ((r : Int) == 4) = false := by rw [beq_eq_false_iff_ne]; omega
  have hr5 : ((r : Int) == 5) = false := by rw [beq_eq_false_iff_ne]; omega
  have hr6 : ((r : Int) == 6) = false := by rw [beq_eq_false_iff_ne]; omega
  have hr7 : ((r : Int) == 7) = false := by rw [beq_eq_false_iff_ne]; omega
  have hr8 : ((r : Int) == 8) = false := by rw [beq_eq_false_iff_ne]; omega
  have hr9 : ((r : Int) == 9) = false := by rw [beq_eq_false_iff_ne]; omega
  obtain ⟨xb, hxb⟩ : ∃ xb, w.heap.size = xb := ⟨_, rfl⟩
  rw [hxb] at HROW a0 a1 a2 a3 a4 a5
  have HXB := Lib.hid hxb
  clear h b1 hw1 hrow hk
  go_enter Try.func26, Try.ntmps26
  go_wp2_with fail
  rw [HW1.out]
  clear hxb
  refine wp_region_held (S := fun W => W.heap[pp]? = some (.cells #[.pointer (some ⟨bd, 0, none⟩), .pointer (some ⟨bs, 0, none⟩), .pointer (some ⟨eb, 0, none⟩), .pointer (some ⟨et, 0, none⟩)] 64 (0, 0)) ∧ W.heap[xb]? = some (.cells #[Value.int IntKind.u8 what.toNat, pv, Value.string name, Value.int IntKind.i64 x, Value.int IntKind.i64 y, Value.int IntKind.u8 flip.toNat] 25 (0, 0))) (by kernel_rfl) ?_
  have hS0 : w1.drew.heap[pp]? = some (.cells #[.pointer (some ⟨bd, 0, none⟩), .pointer (some ⟨bs, 0, none⟩), .pointer (some ⟨eb, 0, none⟩), .pointer (some ⟨et, 0, none⟩)] 64 (0, 0)) ∧ w1.drew.heap[xb]? = some (.cells #[Value.int IntKind.u8 what.toNat, pv, Value.string name, Value.int IntKind.i64 x, Value.int IntKind.i64 y, Value.int IntKind.u8 flip.toNat] 25 (0, 0)) := ⟨HD.out.pr, HROW.out⟩
  change wpAnyH _ _ _ _ _ _ _ _ w1.drew
  refine wpAnyH_take (i := 0) (v := ?_) rfl (by kernel_rfl) (by kernel_rfl) (by kernel_rfl) (fun _ _ _ h => h) (.inl ⟨by rfl, fun W hS => ?_⟩) hS0 ?_
  rotate_left
  · obtain ⟨s0, s1⟩ := hS; obtain ⟨e0, e1, e2, e3⟩ := pcell s0; obtain ⟨d0, d1, d2, d3, d4, d5⟩ := xcell s1; unfold execOp; go_simp; try with_reducible rfl
  refine wpAnyH_take (i := 1) (v := ?_) rfl (by kernel_rfl) (by kernel_rfl) (by kernel_rfl) (fun _ _ _ h => h) (.inl ⟨by rfl, fun W hS => ?_⟩) hS0 ?_
  rotate_left
  · obtain ⟨s0, s1⟩ := hS; obtain ⟨e0, e1, e2, e3⟩ := pcell s0; obtain ⟨d0, d1, d2, d3, d4, d5⟩ := xcell s1; unfold execOp; go_simp; try with_reducible rfl
  refine wpAnyH_take (i := 2) (v := ?_) rfl (by kernel_rfl) (by kernel_rfl) (by kernel_rfl) (fun _ _ _ h => h) (.inl ⟨by rfl, fun W hS => ?_⟩) hS0 ?_
  rotate_left
  · obtain ⟨s0, s1⟩ := hS; obtain ⟨e0, e1, e2, e3⟩ := pcell s0; obtain ⟨d0, d1, d2, d3, d4, d5⟩ := xcell s1; unfold execOp; go_simp; try with_reducible rfl
  refine wpAnyH_take (i := 3) (v := ?_) rfl (by kernel_rfl) (by kernel_rfl) (by kernel_rfl) (fun _ _ _ h => h) (.inl ⟨by rfl, fun W hS => ?_⟩) hS0 ?_
  rotate_left
  · obtain ⟨s0, s1⟩ := hS; obtain ⟨e0, e1, e2, e3⟩ := pcell s0; obtain ⟨d0, d1, d2, d3, d4, d5⟩ := xcell s1; unfold execOp; go_simp; try with_reducible rfl
  refine wpAnyH_take (i := 4) (v := ?_) rfl (by kernel_rfl) (by kernel_rfl) (by kernel_rfl) (fun _ _ _ h => h) (.inl ⟨by rfl, fun W hS => ?_⟩) hS0 ?_
  rotate_left
  · obtain ⟨s0, s1⟩ := hS; obtain ⟨e0, e1, e2, e3⟩ := pcell s0; obtain ⟨d0, d1, d2, d3, d4, d5⟩ := xcell s1; unfold execOp; go_simp; try with_reducible rfl
  refine wpAnyH_take (i := 5) (v := ?_) rfl (by kernel_rfl) (by kernel_rfl) (by kernel_rfl) (fun _ _ _ h => h) (.inl ⟨by rfl, fun W hS => ?_⟩) hS0 ?_
  rotate_left
  · obtain ⟨s0, s1⟩ := hS; obtain ⟨e0, e1, e2, e3⟩ := pcell s0; obtain ⟨d0, d1, d2, d3, d4, d5⟩ := xcell s1; unfold execOp; go_simp; try with_reducible rfl
  refine wpAnyH_take (i := 7) (v := ?_) rfl (by kernel_rfl) (by kernel_rfl) (by kernel_rfl) (fun _ _ _ h => h) (.inl ⟨by rfl, fun W hS => ?_⟩) hS0 ?_
  rotate_left
  · obtain ⟨s0, s1⟩ := hS; obtain ⟨e0, e1, e2, e3⟩ := pcell s0; obtain ⟨d0, d1, d2, d3, d4, d5⟩ := xcell s1; unfold execOp; go_simp; try with_reducible rfl
  refine wpAnyH_take (i := 8) (v := ?_) rfl (by kernel_rfl) (by kernel_rfl) (by kernel_rfl) (fun _ _ _ h => h) (.inl ⟨by rfl, fun W hS => ?_⟩) hS0 ?_
  rotate_left
  · obtain ⟨s0, s1⟩ := hS; obtain ⟨e0, e1, e2, e3⟩ := pcell s0; obtain ⟨d0, d1, d2, d3, d4, d5⟩ := xcell s1; unfold execOp; go_simp; try with_reducible rfl
  refine wpAnyH_take (i := 9) (v := ?_) rfl (by kernel_rfl) (by kernel_rfl) (by kernel_rfl) (fun _ _ _ h => h) (.inl ⟨by rfl, fun W hS => ?_⟩) hS0 ?_
  rotate_left
  · obtain ⟨s0, s1⟩ := hS; obtain ⟨e0, e1, e2, e3⟩ := pcell s0; obtain ⟨d0, d1, d2, d3, d4, d5⟩ := xcell s1; unfold execOp; go_simp; try with_reducible rfl
  refine wpAnyH_take (i := 10) (v := ?_) rfl (by kernel_rfl) (by kernel_rfl) (by kernel_rfl) (fun _ _ _ h => h) (.inl ⟨by rfl, fun W hS => ?_⟩) hS0 ?_
  rotate_left
  · obtain ⟨s0, s1⟩ := hS; obtain ⟨e0, e1, e2, e3⟩ := pcell s0; obtain ⟨d0, d1, d2, d3, d4, d5⟩ := xcell s1; unfold execOp; go_simp; try with_reducible rfl
  refine wpAnyH_take (i := 11) (v := ?_) rfl (by kernel_rfl) (by kernel_rfl) (by kernel_rfl) (fun _ _ _ h => h) (.inl ⟨by rfl, fun W hS => ?_⟩) hS0 ?_
  rotate_left
  · obtain ⟨s0, s1⟩ := hS; obtain ⟨e0, e1, e2, e3⟩ := pcell s0; obtain ⟨d0, d1, d2, d3, d4, d5⟩ := xcell s1; unfold execOp; go_simp; try with_reducible rfl
  refine wpAnyH_take (i := 12) (v := ?_) rfl (by kernel_rfl) (by kernel_rfl) (by kernel_rfl) (fun _ _ _ h => h) (.inl ⟨by rfl, fun W hS => ?_⟩) hS0 ?_
  rotate_left
  · obtain ⟨s0, s1⟩ := hS; obtain ⟨e0, e1, e2, e3⟩ := pcell s0; obtain ⟨d0, d1, d2, d3, d4, d5⟩ := xcell s1; unfold execOp; go_simp; try with_reducible rfl
  refine wpAnyH_all (rs := [6]) (by kernel_rfl) (by simp) ?_
  intro i hi
  obtain rfl : i = 6 := by simpa using hi
  refine op_at rfl rfl ?_
  go_simp
  refine (s_do ((HD.out.below ((Below.refl _ w1).drew)).sess) hch _ puts (hp _ (HBL.out.trans ((Below.refl B w1).drew))) hl).mono ?_
  rintro e w2 ⟨r2, hr2, rfl, hs2, ho2⟩
  have HRF := Lib.hid hr2
  have HREP := Lib.hid (let ⟨_, _, hR⟩ := HD.out.d; (⟨_, hR⟩ : ∃ C, Rep C A))
  have HH := Lib.hid ((HD.out.below ((Below.refl _ w1).drew)).half ho2 hs2.d)
  have HB2 := Lib.hid (HBL.out.trans (((Below.refl B w1).drew).trans ((HD.out.below ((Below.refl _ w1).drew)).below3 ho2)))
  have HX2 := Lib.hid (let ⟨_, hD, _⟩ := (HD.out.below ((Below.refl _ w1).drew)).d; row_only3 (show w1.drew.heap[xb]? = _ from HROW.out) hD ho2 (by decide) (by decide))
  clear hs2 ho2 hr2
  have hS2 := And.intro HH.out.pr HX2.out
  refine ⟨hS2, ?_⟩
  refine wpAnyH_all (rs := [13]) (by kernel_rfl) (by simp) ?_
  intro i hi
  obtain rfl : i = 13 := by simpa using hi
  refine op_at rfl rfl ?_
  go_simp
  obtain ⟨C2, hR2⟩ := HREP.out
  refine (rdo_any w2 HH.out.rs HH.out.r hR2 HH.out.sz hm _ puts (hp _ HB2.out) hl).mono ?_
  rintro e w3 ⟨r3, hr3', rfl, hr3, ho3⟩
  have hrr := refused_det HRF.out hr3'
  subst hrr
  have HD3 := Lib.hid (HH.out.duo ho3 hr3)
  have HB3 := Lib.hid (HB2.out.trans (ho3.below HH.out.sz))
  have hS3 := And.intro HD3.out.pr (ho3.row HX2.out (by decide) (by decide))
  clear hr3 ho3 hr3'
  refine ⟨hS3, ?_⟩
  unfold iv
  refine wpAnyH_take (i := 14) (v := ?_) rfl (by kernel_rfl) (by kernel_rfl) (by kernel_rfl) (fun _ _ _ h => h) (.inl ⟨by rfl, fun W hS => ?_⟩) hS3 ?_
  rotate_left
  · obtain ⟨s0, s1⟩ := hS; obtain ⟨e0, e1, e2, e3⟩ := pcell s0; obtain ⟨d0, d1, d2, d3, d4, d5⟩ := xcell s1; unfold execOp; go_simp; try with_reducible rfl
  refine wpAnyH_take (i := 15) (v := ?_) rfl (by kernel_rfl) (by kernel_rfl) (by kernel_rfl) (fun _ _ _ h => h) (.inl ⟨by rfl, fun W hS => ?_⟩) hS3 ?_
  rotate_left
  · obtain ⟨s0, s1⟩ := hS; obtain ⟨e0, e1, e2, e3⟩ := pcell s0; obtain ⟨d0, d1, d2, d3, d4, d5⟩ := xcell s1; unfold execOp; go_simp; try with_reducible rfl
  refine wpAnyH_done (by kernel_rfl) ?_ _
  have HC := Lib.hid (doA_change A puts r2)
  generalize A.doA puts r2 = R at *
  obtain ⟨c, A'⟩ := R
  go_wp2
  go_ret
  exact ⟨by simp, bs, et, A', { HD3.out with r := HD3.out.r.mono (Nat.le_succ _) }, HC.out, HB3.out⟩
end
end Go.Proofs.Ytcgapfmdpchemaa
