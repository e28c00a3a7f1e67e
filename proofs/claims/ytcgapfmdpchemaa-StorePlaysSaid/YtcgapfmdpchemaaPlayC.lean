/- The walk of play at Get, List, Free and Scrub, and Open. -/
import Derived.Test.YtcgapfmdpchemaaPlayB
namespace Go.Proofs.Ytcgapfmdpchemaa
open Go.RowKit
section
variable {B bd bp bm bs eb et pp m : Nat} {A : AD}
theorem list_short {C : Cn} (hR : Rep C A) (f : ByteArray) (x : Int) : (A.list f x).1.length ≤ 1000000 := by
  unfold AD.list
  split
  · exact Nat.zero_le _
  · show ((A.des.drop _).take _).length ≤ _
    have := hR.dir.many
    rw [List.length_take, List.length_drop]
    omega
theorem scrub_short {C : Cn} (hR : Rep C A) : A.scrub.1.length ≤ 1000000 := by
  unfold AD.scrub
  split
  · exact Nat.zero_le _
  · show ((List.range A.n).filter _).length ≤ _
    have h1 := List.length_filter_le (fun i => A.usedL.getD i false && decide (1 < i) && (A.hurts i).isSome) (List.range A.n)
    rw [List.length_range] at h1
    have := hR.n5
    omega
theorem free_small {C : Cn} (hR : Rep C A) : A.free.1 ≤ 1000000 := by
  unfold AD.free
  split
  · exact Nat.zero_le _
  · show A.freeL.length ≤ _
    unfold AD.freeL AD.usedL
    have h1 := freeL_length (usedB A.n A.index A.des)
    rw [usedB_length A.n hR.two] at h1
    have := hR.n5
    omega
theorem TRd.far {w : World} {t n k : Nat} {v : Value} {xs : List Value} (h : TRd w t v n xs) {cs : Array Value} (hk : w.heap[k]? = some (.cells cs 64 (0, 0))) (ht : t ≠ 64) (j : Nat) (u : Value) : TRd (w.setCell ⟨k, j, none⟩ u) t v n xs := by
  obtain ⟨a, c, rfl, g1, g2, g3⟩ := h
  refine ⟨a, c, rfl, g1, g2, ?_⟩
  rcases g3 with rfl | ⟨b, off, cs', fr, rfl, hb, hc⟩
  · exact .inl rfl
  · refine .inr ⟨b, off, cs', fr, rfl, (heap_setCell_other w ⟨k, j, none⟩ b u ?_).trans hb, hc⟩
    rintro rfl
    rw [hk] at hb
    simp only [Option.some.injEq, Obj.cells.injEq] at hb
    exact ht hb.2.1.symm
theorem row_far {w : World} {k k2 t : Nat} {cs cs2 : Array Value} (h : w.heap[k2]? = some (.cells cs2 t (0, 0))) (hk : w.heap[k]? = some (.cells cs 64 (0, 0))) (ht : t ≠ 64) (j : Nat) (u : Value) : (w.setCell ⟨k, j, none⟩ u).heap[k2]? = some (.cells cs2 t (0, 0)) :=
  (heap_setCell_other w ⟨k, j, none⟩ k2 u (by
    rintro rfl
    rw [hk] at h
    simp only [Option.some.injEq, Obj.cells.injEq] at h
    exact ht h.2.1.symm)).trans h
theorem RIs.far {w : World} {k : Nat} {cs : Array Value} (h : RIs w B eb A m) (hk : w.heap[k]? = some (.cells cs 64 (0, 0))) (j : Nat) (u : Value) : RIs (w.setCell ⟨k, j, none⟩ u) B eb A m := by
  obtain ⟨hs, ve, vi, vh, ps, h, hm⟩ := h
  exact ⟨hs, ve, vi, vh, ps, ⟨row_far h.d hk (by decide) j u, h.lo, ⟨h.es.1.far hk (by decide) j u, fun p hp => (h.es.2 p hp).far hk (by decide) j u⟩, h.eq, h.ix.far hk (by decide) j u, h.hu.set hk (by decide) j u, h.nd, h.eqh⟩, hm⟩
theorem AtD.far {w : World} {k : Nat} {cs : Array Value} (h : AtD w bd bp bm A) (hk : w.heap[k]? = some (.cells cs 64 (0, 0))) (j : Nat) (u : Value) : AtD (w.setCell ⟨k, j, none⟩ u) bd bp bm A := by
  obtain ⟨C, hD, hR⟩ := h
  obtain ⟨es, ck, hm, hf⟩ := hD.m
  exact ⟨C, ⟨row_far hD.d hk (by decide) j u, row_far hD.p hk (by decide) j u, ⟨es, ck, (heap_setCell_other w ⟨k, j, none⟩ bm u (by rintro rfl; rw [hk] at hm; cases hm)).trans hm, hf⟩, hD.len, hD.two, hD.small⟩, hR⟩
theorem Duo.turn {w : World} {bs' et' : Nat} (h : Duo w B bd bp bm bs eb et pp A m) (hs : StT w bs' bd) (ht : RSt w et' eb) : Duo ((w.setCell ⟨pp, 1, none⟩ (.pointer (some ⟨bs', 0, none⟩))).setCell ⟨pp, 3, none⟩ (.pointer (some ⟨et', 0, none⟩))) B bd bp bm bs' eb et' pp A m := by
  have p1 := heap_setCell_same w pp 1 _ 64 (.pointer (some ⟨bs', 0, none⟩)) h.pr
  refine ⟨by rw [heap_setCell_same _ pp 3 _ 64 _ p1]; rfl, row_far (row_far hs h.pr (by decide) 1 _) p1 (by decide) 3 _, (h.d.far h.pr 1 _).far p1 3 _, row_far (row_far ht h.pr (by decide) 1 _) p1 (by decide) 3 _, (h.r.far h.pr 1 _).far p1 3 _, h.lo, h.lop, by have := h.sz; simp [World.setCell]; exact this⟩
set_option maxRecDepth 1000000 in
set_option maxHeartbeats 4000000 in
theorem play_get (w : World) (s : Ac) (h : Duo w B bd bp bm bs eb et pp A m) (hk : s.what.toNat % 10 = 3) :
    Calls Try.prog 26 #[.pointer (some ⟨pp, 0, none⟩), .agg #[bv s.what, s.pv, .string s.name, .int .i64 s.x, .int .i64 s.y, bv s.flip]] w fun e w' => PlayR w B bd bp bm eb pp A m e w' := by
  obtain ⟨what, pv, puts, name, x, y, flip⟩ := s
  dsimp only at *
  unfold bv
  have hrow := heap_alloc_new w (Obj.cells #[Value.int IntKind.u8 what.toNat, pv, Value.string name, Value.int IntKind.i64 x, Value.int IntKind.i64 y, Value.int IntKind.u8 flip.toNat] 25)
  obtain ⟨w1, hw1⟩ : ∃ w1, w.alloc (Obj.cells #[Value.int IntKind.u8 what.toNat, pv, Value.string name, Value.int IntKind.i64 x, Value.int IntKind.i64 y, Value.int IntKind.u8 flip.toNat] 25) = w1 := ⟨_, rfl⟩
  have b1 : Below w.heap.size w w1 := by rw [← hw1]; exact (Below.refl _ w).alloc (Nat.le_refl _) _
  rw [hw1] at hrow
  have HW1 := Lib.hid hw1; have B1 := Lib.hid b1; have HD := Lib.hid (h.below b1); have HSZ := Lib.hid h.sz
  have HBL := Lib.hid (show Below B w w1 from b1.mono h.sz)
  obtain ⟨a0, a1, a2, a3, a4, a5⟩ := xcell hrow
  obtain ⟨p0, p1, p2, p3⟩ := pcell HD.out.pr
  have HROW := Lib.hid hrow
  have hmod : ((what.toNat : Int)).tmod 10 = 3 := by
    have h1 : ((what.toNat % 10 : Nat) : Int) = (what.toNat : Int).tmod 10 := Int.ofNat_tmod _ _
    rw [← h1, hk]; rfl
  obtain ⟨xb, hxb⟩ : ∃ xb, w.heap.size = xb := ⟨_, rfl⟩
  rw [hxb] at HROW a0 a1 a2 a3 a4 a5
  have HXB := Lib.hid hxb
  clear h b1 hw1 hrow hk
  go_enter Try.func26, Try.ntmps26
  go_wp2_with fail
  rw [HW1.out]
  clear hxb
  refine wp_region_held (S := fun W => W.heap[pp]? = some (.cells #[.pointer (some ⟨bd, 0, none⟩), .pointer (some ⟨bs, 0, none⟩), .pointer (some ⟨eb, 0, none⟩), .pointer (some ⟨et, 0, none⟩)] 64 (0, 0)) ∧ W.heap[xb]? = some (.cells #[Value.int IntKind.u8 what.toNat, pv, Value.string name, Value.int IntKind.i64 x, Value.int IntKind.i64 y, Value.int IntKind.u8 flip.toNat] 25 (0, 0))) (by kernel_rfl) ?_
  have hS0 : w1.drew.heap[pp]? = some (.cells #[.pointer (some ⟨bd, 0, none⟩), .pointer (some ⟨bs, 0, none⟩), .pointer (some ⟨eb, 0, none⟩), .pointer (some ⟨et, 0, none⟩)] 64 (0, 0)) ∧ w1.drew.heap[xb]? = some (.cells #[Value.int IntKind.u8 what.toNat, pv, Value.string name, Value.int IntKind.i64 x, Value.int IntKind.i64 y, Value.int IntKind.u8 flip.toNat] 25 (0, 0)) := ⟨HD.out.pr, HROW.out⟩
  change wpAnyH _ _ _ _ _ _ _ _ w1.drew
  refine wpAnyH_take (i := 0) (v := ?_) rfl (by kernel_rfl) (by kernel_rfl) (by kernel_rfl) (fun _ _ _ h => h) (.inl ⟨by rfl, fun W hS => ?_⟩) hS0 ?_
  rotate_left
  · obtain ⟨s0, s1⟩ := hS; obtain ⟨e0, e1, e2, e3⟩ := pcell s0; obtain ⟨d0, d1, d2, d3, d4, d5⟩ := xcell s1; unfold execOp; go_simp; try with_reducible rfl
  refine wpAnyH_take (i := 1) (v := ?_) rfl (by kernel_rfl) (by kernel_rfl) (by kernel_rfl) (fun _ _ _ h => h) (.inl ⟨by rfl, fun W hS => ?_⟩) hS0 ?_
  rotate_left
  · obtain ⟨s0, s1⟩ := hS; obtain ⟨e0, e1, e2, e3⟩ := pcell s0; obtain ⟨d0, d1, d2, d3, d4, d5⟩ := xcell s1; unfold execOp; go_simp; try with_reducible rfl
  refine wpAnyH_take (i := 2) (v := ?_) rfl (by kernel_rfl) (by kernel_rfl) (by kernel_rfl) (fun _ _ _ h => h) (.inl ⟨by rfl, fun W hS => ?_⟩) hS0 ?_
  rotate_left
  · obtain ⟨s0, s1⟩ := hS; obtain ⟨e0, e1, e2, e3⟩ := pcell s0; obtain ⟨d0, d1, d2, d3, d4, d5⟩ := xcell s1; unfold execOp; go_simp; try with_reducible rfl
  refine wpAnyH_take (i := 3) (v := ?_) rfl (by kernel_rfl) (by kernel_rfl) (by kernel_rfl) (fun _ _ _ h => h) (.inl ⟨by rfl, fun W hS => ?_⟩) hS0 ?_
  rotate_left
  · obtain ⟨s0, s1⟩ := hS; obtain ⟨e0, e1, e2, e3⟩ := pcell s0; obtain ⟨d0, d1, d2, d3, d4, d5⟩ := xcell s1; unfold execOp; go_simp; try with_reducible rfl
  refine wpAnyH_take (i := 4) (v := ?_) rfl (by kernel_rfl) (by kernel_rfl) (by kernel_rfl) (fun _ _ _ h => h) (.inl ⟨by rfl, fun W hS => ?_⟩) hS0 ?_
  rotate_left
  · obtain ⟨s0, s1⟩ := hS; obtain ⟨e0, e1, e2, e3⟩ := pcell s0; obtain ⟨d0, d1, d2, d3, d4, d5⟩ := xcell s1; unfold execOp; go_simp; try with_reducible rfl
  refine wpAnyH_take (i := 5) (v := ?_) rfl (by kernel_rfl) (by kernel_rfl) (by kernel_rfl) (fun _ _ _ h => h) (.inl ⟨by rfl, fun W hS => ?_⟩) hS0 ?_
  rotate_left
  · obtain ⟨s0, s1⟩ := hS; obtain ⟨e0, e1, e2, e3⟩ := pcell s0; obtain ⟨d0, d1, d2, d3, d4, d5⟩ := xcell s1; unfold execOp; go_simp; try with_reducible rfl
  refine wpAnyH_all (rs := [6]) (by kernel_rfl) (by simp) ?_
  intro i hi
  obtain rfl : i = 6 := by simpa using hi
  refine op_at rfl rfl ?_
  go_simp
  refine (s_get ((HD.out.below ((Below.refl _ w1).drew)).sess) name).mono ?_
  rintro e w2 ⟨rfl, b2⟩
  have HD2 := Lib.hid ((HD.out.below ((Below.refl _ w1).drew)).below b2)
  have HX2 := Lib.hid (row_below (show w1.drew.heap[xb]? = _ from HROW.out) b2 (Nat.le_refl _))
  have HB2 := Lib.hid (HBL.out.trans (((Below.refl B w1).drew).trans (b2.mono HD.out.sz)))
  clear b2
  have hS2 := And.intro HD2.out.pr HX2.out
  refine ⟨hS2, ?_⟩
  refine wpAnyH_take (i := 7) (v := ?_) rfl (by kernel_rfl) (by kernel_rfl) (by kernel_rfl) (fun _ _ _ h => h) (.inl ⟨by rfl, fun W hS => ?_⟩) hS2 ?_
  rotate_left
  · obtain ⟨s0, s1⟩ := hS; obtain ⟨e0, e1, e2, e3⟩ := pcell s0; obtain ⟨d0, d1, d2, d3, d4, d5⟩ := xcell s1; unfold execOp; go_simp; try with_reducible rfl
  refine wpAnyH_take (i := 8) (v := ?_) rfl (by kernel_rfl) (by kernel_rfl) (by kernel_rfl) (fun _ _ _ h => h) (.inl ⟨by rfl, fun W hS => ?_⟩) hS2 ?_
  rotate_left
  · obtain ⟨s0, s1⟩ := hS; obtain ⟨e0, e1, e2, e3⟩ := pcell s0; obtain ⟨d0, d1, d2, d3, d4, d5⟩ := xcell s1; unfold execOp; go_simp; try with_reducible rfl
  refine wpAnyH_take (i := 10) (v := ?_) rfl (by kernel_rfl) (by kernel_rfl) (by kernel_rfl) (fun _ _ _ h => h) (.inl ⟨by rfl, fun W hS => ?_⟩) hS2 ?_
  rotate_left
  · obtain ⟨s0, s1⟩ := hS; obtain ⟨e0, e1, e2, e3⟩ := pcell s0; obtain ⟨d0, d1, d2, d3, d4, d5⟩ := xcell s1; unfold execOp; go_simp; try with_reducible rfl
  refine wpAnyH_take (i := 9) (v := ?_) rfl (by kernel_rfl) (by kernel_rfl) (by kernel_rfl) (fun _ _ _ h => h) (.inl ⟨by rfl, fun W hS => ?_⟩) hS2 ?_
  rotate_left
  · obtain ⟨s0, s1⟩ := hS; obtain ⟨e0, e1, e2, e3⟩ := pcell s0; obtain ⟨d0, d1, d2, d3, d4, d5⟩ := xcell s1; unfold execOp; go_simp; try with_reducible rfl
  refine wpAnyH_take (i := 11) (v := ?_) rfl (by kernel_rfl) (by kernel_rfl) (by kernel_rfl) (fun _ _ _ h => h) (.inl ⟨by rfl, fun W hS => ?_⟩) hS2 ?_
  rotate_left
  · obtain ⟨s0, s1⟩ := hS; obtain ⟨e0, e1, e2, e3⟩ := pcell s0; obtain ⟨d0, d1, d2, d3, d4, d5⟩ := xcell s1; unfold execOp; go_simp; try with_reducible rfl
  refine wpAnyH_done (by kernel_rfl) ?_ _
  go_wp2_with fail
  refine wp_region_held (S := fun W => W.heap[pp]? = some (.cells #[.pointer (some ⟨bd, 0, none⟩), .pointer (some ⟨bs, 0, none⟩), .pointer (some ⟨eb, 0, none⟩), .pointer (some ⟨et, 0, none⟩)] 64 (0, 0)) ∧ W.heap[xb]? = some (.cells #[Value.int IntKind.u8 what.toNat, pv, Value.string name, Value.int IntKind.i64 x, Value.int IntKind.i64 y, Value.int IntKind.u8 flip.toNat] 25 (0, 0))) (by kernel_rfl) ?_
  have hS0 : w2.drew.heap[pp]? = some (.cells #[.pointer (some ⟨bd, 0, none⟩), .pointer (some ⟨bs, 0, none⟩), .pointer (some ⟨eb, 0, none⟩), .pointer (some ⟨et, 0, none⟩)] 64 (0, 0)) ∧ w2.drew.heap[xb]? = some (.cells #[Value.int IntKind.u8 what.toNat, pv, Value.string name, Value.int IntKind.i64 x, Value.int IntKind.i64 y, Value.int IntKind.u8 flip.toNat] 25 (0, 0)) := ⟨HD2.out.pr, HX2.out⟩
  change wpAnyH _ _ _ _ _ _ _ _ w2.drew
  refine wpAnyH_take (i := 0) (v := ?_) rfl (by kernel_rfl) (by kernel_rfl) (by kernel_rfl) (fun _ _ _ h => h) (.inl ⟨by rfl, fun W hS => ?_⟩) hS0 ?_
  rotate_left
  · obtain ⟨s0, s1⟩ := hS; obtain ⟨e0, e1, e2, e3⟩ := pcell s0; obtain ⟨d0, d1, d2, d3, d4, d5⟩ := xcell s1; unfold execOp; go_simp; try with_reducible rfl
  refine wpAnyH_take (i := 1) (v := ?_) rfl (by kernel_rfl) (by kernel_rfl) (by kernel_rfl) (fun _ _ _ h => h) (.inl ⟨by rfl, fun W hS => ?_⟩) hS0 ?_
  rotate_left
  · obtain ⟨s0, s1⟩ := hS; obtain ⟨e0, e1, e2, e3⟩ := pcell s0; obtain ⟨d0, d1, d2, d3, d4, d5⟩ := xcell s1; unfold execOp; go_simp; try with_reducible rfl
  refine wpAnyH_take (i := 2) (v := ?_) rfl (by kernel_rfl) (by kernel_rfl) (by kernel_rfl) (fun _ _ _ h => h) (.inl ⟨by rfl, fun W hS => ?_⟩) hS0 ?_
  rotate_left
  · obtain ⟨s0, s1⟩ := hS; obtain ⟨e0, e1, e2, e3⟩ := pcell s0; obtain ⟨d0, d1, d2, d3, d4, d5⟩ := xcell s1; unfold execOp; go_simp; try with_reducible rfl
  refine wpAnyH_take (i := 3) (v := ?_) rfl (by kernel_rfl) (by kernel_rfl) (by kernel_rfl) (fun _ _ _ h => h) (.inl ⟨by rfl, fun W hS => ?_⟩) hS0 ?_
  rotate_left
  · obtain ⟨s0, s1⟩ := hS; obtain ⟨e0, e1, e2, e3⟩ := pcell s0; obtain ⟨d0, d1, d2, d3, d4, d5⟩ := xcell s1; unfold execOp; go_simp; try with_reducible rfl
  refine wpAnyH_take (i := 4) (v := ?_) rfl (by kernel_rfl) (by kernel_rfl) (by kernel_rfl) (fun _ _ _ h => h) (.inl ⟨by rfl, fun W hS => ?_⟩) hS0 ?_
  rotate_left
  · obtain ⟨s0, s1⟩ := hS; obtain ⟨e0, e1, e2, e3⟩ := pcell s0; obtain ⟨d0, d1, d2, d3, d4, d5⟩ := xcell s1; unfold execOp; go_simp; try with_reducible rfl
  refine wpAnyH_take (i := 5) (v := ?_) rfl (by kernel_rfl) (by kernel_rfl) (by kernel_rfl) (fun _ _ _ h => h) (.inl ⟨by rfl, fun W hS => ?_⟩) hS0 ?_
  rotate_left
  · obtain ⟨s0, s1⟩ := hS; obtain ⟨e0, e1, e2, e3⟩ := pcell s0; obtain ⟨d0, d1, d2, d3, d4, d5⟩ := xcell s1; unfold execOp; go_simp; try with_reducible rfl
  refine wpAnyH_all (rs := [6]) (by kernel_rfl) (by simp) ?_
  intro i hi
  obtain rfl : i = 6 := by simpa using hi
  refine op_at rfl rfl ?_
  go_simp
  obtain ⟨C2, hR2⟩ : ∃ C, Rep C A := (let ⟨_, _, hR⟩ := HD.out.d; ⟨_, hR⟩)
  refine (rget_any w2.drew (HD2.out.below ((Below.refl _ w2).drew)).rs (HD2.out.below ((Below.refl _ w2).drew)).r hR2 name).mono ?_
  rintro e w3 ⟨rfl, b3⟩
  have HD3 := Lib.hid ((HD2.out.below ((Below.refl _ w2).drew)).below b3)
  have HX3 := Lib.hid (row_below (show w2.drew.heap[xb]? = _ from HX2.out) b3 (Nat.le_refl _))
  have HB3 := Lib.hid (HB2.out.trans (((Below.refl B w2).drew).trans (b3.mono HD2.out.sz)))
  clear b3
  have hS3 := And.intro HD3.out.pr HX3.out
  refine ⟨hS3, ?_⟩
  refine wpAnyH_take (i := 7) (v := ?_) rfl (by kernel_rfl) (by kernel_rfl) (by kernel_rfl) (fun _ _ _ h => h) (.inl ⟨by rfl, fun W hS => ?_⟩) hS3 ?_
  rotate_left
  · obtain ⟨s0, s1⟩ := hS; obtain ⟨e0, e1, e2, e3⟩ := pcell s0; obtain ⟨d0, d1, d2, d3, d4, d5⟩ := xcell s1; unfold execOp; go_simp; try with_reducible rfl
  refine wpAnyH_take (i := 8) (v := ?_) rfl (by kernel_rfl) (by kernel_rfl) (by kernel_rfl) (fun _ _ _ h => h) (.inl ⟨by rfl, fun W hS => ?_⟩) hS3 ?_
  rotate_left
  · obtain ⟨s0, s1⟩ := hS; obtain ⟨e0, e1, e2, e3⟩ := pcell s0; obtain ⟨d0, d1, d2, d3, d4, d5⟩ := xcell s1; unfold execOp; go_simp; try with_reducible rfl
  refine wpAnyH_take (i := 10) (v := ?_) rfl (by kernel_rfl) (by kernel_rfl) (by kernel_rfl) (fun _ _ _ h => h) (.inl ⟨by rfl, fun W hS => ?_⟩) hS3 ?_
  rotate_left
  · obtain ⟨s0, s1⟩ := hS; obtain ⟨e0, e1, e2, e3⟩ := pcell s0; obtain ⟨d0, d1, d2, d3, d4, d5⟩ := xcell s1; unfold execOp; go_simp; try with_reducible rfl
  refine wpAnyH_take (i := 9) (v := ?_) rfl (by kernel_rfl) (by kernel_rfl) (by kernel_rfl) (fun _ _ _ h => h) (.inl ⟨by rfl, fun W hS => ?_⟩) hS3 ?_
  rotate_left
  · obtain ⟨s0, s1⟩ := hS; obtain ⟨e0, e1, e2, e3⟩ := pcell s0; obtain ⟨d0, d1, d2, d3, d4, d5⟩ := xcell s1; unfold execOp; go_simp; try with_reducible rfl
  refine wpAnyH_take (i := 11) (v := ?_) rfl (by kernel_rfl) (by kernel_rfl) (by kernel_rfl) (fun _ _ _ h => h) (.inl ⟨by rfl, fun W hS => ?_⟩) hS3 ?_
  rotate_left
  · obtain ⟨s0, s1⟩ := hS; obtain ⟨e0, e1, e2, e3⟩ := pcell s0; obtain ⟨d0, d1, d2, d3, d4, d5⟩ := xcell s1; unfold execOp; go_simp; try with_reducible rfl
  refine wpAnyH_done (by kernel_rfl) ?_ _
  generalize A.get name = g at *
  obtain ⟨gs, gn⟩ := g
  dsimp only
  go_wp2
  go_ret
  exact ⟨by simp, bs, et, A, { HD3.out with r := HD3.out.r.mono (Nat.le_succ _) }, Nat.le_succ _, HB3.out⟩
set_option maxRecDepth 1000000 in
set_option maxHeartbeats 4000000 in
theorem play_list (w : World) (s : Ac) (h : Duo w B bd bp bm bs eb et pp A m) (hk : s.what.toNat % 10 = 4) :
    Calls Try.prog 26 #[.pointer (some ⟨pp, 0, none⟩), .agg #[bv s.what, s.pv, .string s.name, .int .i64 s.x, .int .i64 s.y, bv s.flip]] w fun e w' => PlayR w B bd bp bm eb pp A m e w' := by
  obtain ⟨what, pv, puts, name, x, y, flip⟩ := s
  dsimp only at *
  unfold bv
  have hrow := heap_alloc_new w (Obj.cells #[Value.int IntKind.u8 what.toNat, pv, Value.string name, Value.int IntKind.i64 x, Value.int IntKind.i64 y, Value.int IntKind.u8 flip.toNat] 25)
  obtain ⟨w1, hw1⟩ : ∃ w1, w.alloc (Obj.cells #[Value.int IntKind.u8 what.toNat, pv, Value.string name, Value.int IntKind.i64 x, Value.int IntKind.i64 y, Value.int IntKind.u8 flip.toNat] 25) = w1 := ⟨_, rfl⟩
  have b1 : Below w.heap.size w w1 := by rw [← hw1]; exact (Below.refl _ w).alloc (Nat.le_refl _) _
  rw [hw1] at hrow
  have HW1 := Lib.hid hw1; have B1 := Lib.hid b1; have HD := Lib.hid (h.below b1); have HSZ := Lib.hid h.sz
  have HBL := Lib.hid (show Below B w w1 from b1.mono h.sz)
  obtain ⟨a0, a1, a2, a3, a4, a5⟩ := xcell hrow
  obtain ⟨p0, p1, p2, p3⟩ := pcell HD.out.pr
  have HROW := Lib.hid hrow
  have hmod : ((what.toNat : Int)).tmod 10 = 4 := by
    have h1 : ((what.toNat % 10 : Nat) : Int) = (what.toNat : Int).tmod 10 := Int.ofNat_tmod _ _
    rw [← h1, hk]; rfl
  obtain ⟨xb, hxb⟩ : ∃ xb, w.heap.size = xb := ⟨_, rfl⟩
  rw [hxb] at HROW a0 a1 a2 a3 a4 a5
  have HXB := Lib.hid hxb
  clear h b1 hw1 hrow hk
  go_enter Try.func26, Try.ntmps26
  go_wp2_with fail
  rw [HW1.out]
  clear hxb
  refine wp_region_held (S := fun W => W.heap[pp]? = some (.cells #[.pointer (some ⟨bd, 0, none⟩), .pointer (some ⟨bs, 0, none⟩), .pointer (some ⟨eb, 0, none⟩), .pointer (some ⟨et, 0, none⟩)] 64 (0, 0)) ∧ W.heap[xb]? = some (.cells #[Value.int IntKind.u8 what.toNat, pv, Value.string name, Value.int IntKind.i64 x, Value.int IntKind.i64 y, Value.int IntKind.u8 flip.toNat] 25 (0, 0))) (by kernel_rfl) ?_
  have hS0 : w1.drew.heap[pp]? = some (.cells #[.pointer (some ⟨bd, 0, none⟩), .pointer (some ⟨bs, 0, none⟩), .pointer (some ⟨eb, 0, none⟩), .pointer (some ⟨et, 0, none⟩)] 64 (0, 0)) ∧ w1.drew.heap[xb]? = some (.cells #[Value.int IntKind.u8 what.toNat, pv, Value.string name, Value.int IntKind.i64 x, Value.int IntKind.i64 y, Value.int IntKind.u8 flip.toNat] 25 (0, 0)) := ⟨HD.out.pr, HROW.out⟩
  change wpAnyH _ _ _ _ _ _ _ _ w1.drew
  refine wpAnyH_take (i := 0) (v := ?_) rfl (by kernel_rfl) (by kernel_rfl) (by kernel_rfl) (fun _ _ _ h => h) (.inl ⟨by rfl, fun W hS => ?_⟩) hS0 ?_
  rotate_left
  · obtain ⟨s0, s1⟩ := hS; obtain ⟨e0, e1, e2, e3⟩ := pcell s0; obtain ⟨d0, d1, d2, d3, d4, d5⟩ := xcell s1; unfold execOp; go_simp; try with_reducible rfl
  refine wpAnyH_take (i := 1) (v := ?_) rfl (by kernel_rfl) (by kernel_rfl) (by kernel_rfl) (fun _ _ _ h => h) (.inl ⟨by rfl, fun W hS => ?_⟩) hS0 ?_
  rotate_left
  · obtain ⟨s0, s1⟩ := hS; obtain ⟨e0, e1, e2, e3⟩ := pcell s0; obtain ⟨d0, d1, d2, d3, d4, d5⟩ := xcell s1; unfold execOp; go_simp; try with_reducible rfl
  refine wpAnyH_take (i := 2) (v := ?_) rfl (by kernel_rfl) (by kernel_rfl) (by kernel_rfl) (fun _ _ _ h => h) (.inl ⟨by rfl, fun W hS => ?_⟩) hS0 ?_
  rotate_left
  · obtain ⟨s0, s1⟩ := hS; obtain ⟨e0, e1, e2, e3⟩ := pcell s0; obtain ⟨d0, d1, d2, d3, d4, d5⟩ := xcell s1; unfold execOp; go_simp; try with_reducible rfl
  refine wpAnyH_take (i := 3) (v := ?_) rfl (by kernel_rfl) (by kernel_rfl) (by kernel_rfl) (fun _ _ _ h => h) (.inl ⟨by rfl, fun W hS => ?_⟩) hS0 ?_
  rotate_left
  · obtain ⟨s0, s1⟩ := hS; obtain ⟨e0, e1, e2, e3⟩ := pcell s0; obtain ⟨d0, d1, d2, d3, d4, d5⟩ := xcell s1; unfold execOp; go_simp; try with_reducible rfl
  refine wpAnyH_take (i := 4) (v := ?_) rfl (by kernel_rfl) (by kernel_rfl) (by kernel_rfl) (fun _ _ _ h => h) (.inl ⟨by rfl, fun W hS => ?_⟩) hS0 ?_
  rotate_left
  · obtain ⟨s0, s1⟩ := hS; obtain ⟨e0, e1, e2, e3⟩ := pcell s0; obtain ⟨d0, d1, d2, d3, d4, d5⟩ := xcell s1; unfold execOp; go_simp; try with_reducible rfl
  refine wpAnyH_take (i := 5) (v := ?_) rfl (by kernel_rfl) (by kernel_rfl) (by kernel_rfl) (fun _ _ _ h => h) (.inl ⟨by rfl, fun W hS => ?_⟩) hS0 ?_
  rotate_left
  · obtain ⟨s0, s1⟩ := hS; obtain ⟨e0, e1, e2, e3⟩ := pcell s0; obtain ⟨d0, d1, d2, d3, d4, d5⟩ := xcell s1; unfold execOp; go_simp; try with_reducible rfl
  refine wpAnyH_take (i := 6) (v := ?_) rfl (by kernel_rfl) (by kernel_rfl) (by kernel_rfl) (fun _ _ _ h => h) (.inl ⟨by rfl, fun W hS => ?_⟩) hS0 ?_
  rotate_left
  · obtain ⟨s0, s1⟩ := hS; obtain ⟨e0, e1, e2, e3⟩ := pcell s0; obtain ⟨d0, d1, d2, d3, d4, d5⟩ := xcell s1; unfold execOp; go_simp; try with_reducible rfl
  refine wpAnyH_take (i := 7) (v := ?_) rfl (by kernel_rfl) (by kernel_rfl) (by kernel_rfl) (fun _ _ _ h => h) (.inl ⟨by rfl, fun W hS => ?_⟩) hS0 ?_
  rotate_left
  · obtain ⟨s0, s1⟩ := hS; obtain ⟨e0, e1, e2, e3⟩ := pcell s0; obtain ⟨d0, d1, d2, d3, d4, d5⟩ := xcell s1; unfold execOp; go_simp; try with_reducible rfl
  refine wpAnyH_all (rs := [8]) (by kernel_rfl) (by simp) ?_
  intro i hi
  obtain rfl : i = 8 := by simpa using hi
  refine op_at rfl rfl ?_
  go_simp
  refine (s_list ((HD.out.below ((Below.refl _ w1).drew)).sess) name x).mono ?_
  rintro e w2 ⟨v2, rfl, b2, own2⟩
  have HD2 := Lib.hid ((HD.out.below ((Below.refl _ w1).drew)).below b2)
  have HX2 := Lib.hid (row_below (show w1.drew.heap[xb]? = _ from HROW.out) b2 (Nat.le_refl _))
  have HB2 := Lib.hid (HBL.out.trans (((Below.refl B w1).drew).trans (b2.mono HD.out.sz)))
  obtain ⟨A2, c2, rfl⟩ := own_slice own2
  have OWN2 := Lib.hid own2
  clear b2 own2
  have hS2 := And.intro HD2.out.pr HX2.out
  refine ⟨hS2, ?_⟩
  refine wpAnyH_take (i := 9) (v := ?_) rfl (by kernel_rfl) (by kernel_rfl) (by kernel_rfl) (fun _ _ _ h => h) (.inl ⟨by rfl, fun W hS => ?_⟩) hS2 ?_
  rotate_left
  · obtain ⟨s0, s1⟩ := hS; obtain ⟨e0, e1, e2, e3⟩ := pcell s0; obtain ⟨d0, d1, d2, d3, d4, d5⟩ := xcell s1; unfold execOp; go_simp; try with_reducible rfl
  refine wpAnyH_take (i := 10) (v := ?_) rfl (by kernel_rfl) (by kernel_rfl) (by kernel_rfl) (fun _ _ _ h => h) (.inl ⟨by rfl, fun W hS => ?_⟩) hS2 ?_
  rotate_left
  · obtain ⟨s0, s1⟩ := hS; obtain ⟨e0, e1, e2, e3⟩ := pcell s0; obtain ⟨d0, d1, d2, d3, d4, d5⟩ := xcell s1; unfold execOp; go_simp; try with_reducible rfl
  refine wpAnyH_take (i := 12) (v := ?_) rfl (by kernel_rfl) (by kernel_rfl) (by kernel_rfl) (fun _ _ _ h => h) (.inl ⟨by rfl, fun W hS => ?_⟩) hS2 ?_
  rotate_left
  · obtain ⟨s0, s1⟩ := hS; obtain ⟨e0, e1, e2, e3⟩ := pcell s0; obtain ⟨d0, d1, d2, d3, d4, d5⟩ := xcell s1; unfold execOp; go_simp; try with_reducible rfl
  refine wpAnyH_take (i := 11) (v := ?_) rfl (by kernel_rfl) (by kernel_rfl) (by kernel_rfl) (fun _ _ _ h => h) (.inl ⟨by rfl, fun W hS => ?_⟩) hS2 ?_
  rotate_left
  · obtain ⟨s0, s1⟩ := hS; obtain ⟨e0, e1, e2, e3⟩ := pcell s0; obtain ⟨d0, d1, d2, d3, d4, d5⟩ := xcell s1; unfold execOp; go_simp; try with_reducible rfl
  refine wpAnyH_take (i := 13) (v := ?_) rfl (by kernel_rfl) (by kernel_rfl) (by kernel_rfl) (fun _ _ _ h => h) (.inl ⟨by rfl, fun W hS => ?_⟩) hS2 ?_
  rotate_left
  · obtain ⟨s0, s1⟩ := hS; obtain ⟨e0, e1, e2, e3⟩ := pcell s0; obtain ⟨d0, d1, d2, d3, d4, d5⟩ := xcell s1; unfold execOp; go_simp; try with_reducible rfl
  refine wpAnyH_done (by kernel_rfl) ?_ _
  go_wp2_with fail
  refine wp_region_held (S := fun W => W.heap[pp]? = some (.cells #[.pointer (some ⟨bd, 0, none⟩), .pointer (some ⟨bs, 0, none⟩), .pointer (some ⟨eb, 0, none⟩), .pointer (some ⟨et, 0, none⟩)] 64 (0, 0)) ∧ W.heap[xb]? = some (.cells #[Value.int IntKind.u8 what.toNat, pv, Value.string name, Value.int IntKind.i64 x, Value.int IntKind.i64 y, Value.int IntKind.u8 flip.toNat] 25 (0, 0))) (by kernel_rfl) ?_
  have hS0 : w2.drew.heap[pp]? = some (.cells #[.pointer (some ⟨bd, 0, none⟩), .pointer (some ⟨bs, 0, none⟩), .pointer (some ⟨eb, 0, none⟩), .pointer (some ⟨et, 0, none⟩)] 64 (0, 0)) ∧ w2.drew.heap[xb]? = some (.cells #[Value.int IntKind.u8 what.toNat, pv, Value.string name, Value.int IntKind.i64 x, Value.int IntKind.i64 y, Value.int IntKind.u8 flip.toNat] 25 (0, 0)) := ⟨HD2.out.pr, HX2.out⟩
  change wpAnyH _ _ _ _ _ _ _ _ w2.drew
  refine wpAnyH_take (i := 0) (v := ?_) rfl (by kernel_rfl) (by kernel_rfl) (by kernel_rfl) (fun _ _ _ h => h) (.inl ⟨by rfl, fun W hS => ?_⟩) hS0 ?_
  rotate_left
  · obtain ⟨s0, s1⟩ := hS; obtain ⟨e0, e1, e2, e3⟩ := pcell s0; obtain ⟨d0, d1, d2, d3, d4, d5⟩ := xcell s1; unfold execOp; go_simp; try with_reducible rfl
  refine wpAnyH_take (i := 1) (v := ?_) rfl (by kernel_rfl) (by kernel_rfl) (by kernel_rfl) (fun _ _ _ h => h) (.inl ⟨by rfl, fun W hS => ?_⟩) hS0 ?_
  rotate_left
  · obtain ⟨s0, s1⟩ := hS; obtain ⟨e0, e1, e2, e3⟩ := pcell s0; obtain ⟨d0, d1, d2, d3, d4, d5⟩ := xcell s1; unfold execOp; go_simp; try with_reducible rfl
  refine wpAnyH_take (i := 2) (v := ?_) rfl (by kernel_rfl) (by kernel_rfl) (by kernel_rfl) (fun _ _ _ h => h) (.inl ⟨by rfl, fun W hS => ?_⟩) hS0 ?_
  rotate_left
  · obtain ⟨s0, s1⟩ := hS; obtain ⟨e0, e1, e2, e3⟩ := pcell s0; obtain ⟨d0, d1, d2, d3, d4, d5⟩ := xcell s1; unfold execOp; go_simp; try with_reducible rfl
  refine wpAnyH_take (i := 3) (v := ?_) rfl (by kernel_rfl) (by kernel_rfl) (by kernel_rfl) (fun _ _ _ h => h) (.inl ⟨by rfl, fun W hS => ?_⟩) hS0 ?_
  rotate_left
  · obtain ⟨s0, s1⟩ := hS; obtain ⟨e0, e1, e2, e3⟩ := pcell s0; obtain ⟨d0, d1, d2, d3, d4, d5⟩ := xcell s1; unfold execOp; go_simp; try with_reducible rfl
  refine wpAnyH_take (i := 4) (v := ?_) rfl (by kernel_rfl) (by kernel_rfl) (by kernel_rfl) (fun _ _ _ h => h) (.inl ⟨by rfl, fun W hS => ?_⟩) hS0 ?_
  rotate_left
  · obtain ⟨s0, s1⟩ := hS; obtain ⟨e0, e1, e2, e3⟩ := pcell s0; obtain ⟨d0, d1, d2, d3, d4, d5⟩ := xcell s1; unfold execOp; go_simp; try with_reducible rfl
  refine wpAnyH_take (i := 5) (v := ?_) rfl (by kernel_rfl) (by kernel_rfl) (by kernel_rfl) (fun _ _ _ h => h) (.inl ⟨by rfl, fun W hS => ?_⟩) hS0 ?_
  rotate_left
  · obtain ⟨s0, s1⟩ := hS; obtain ⟨e0, e1, e2, e3⟩ := pcell s0; obtain ⟨d0, d1, d2, d3, d4, d5⟩ := xcell s1; unfold execOp; go_simp; try with_reducible rfl
  refine wpAnyH_take (i := 6) (v := ?_) rfl (by kernel_rfl) (by kernel_rfl) (by kernel_rfl) (fun _ _ _ h => h) (.inl ⟨by rfl, fun W hS => ?_⟩) hS0 ?_
  rotate_left
  · obtain ⟨s0, s1⟩ := hS; obtain ⟨e0, e1, e2, e3⟩ := pcell s0; obtain ⟨d0, d1, d2, d3, d4, d5⟩ := xcell s1; unfold execOp; go_simp; try with_reducible rfl
  refine wpAnyH_take (i := 7) (v := ?_) rfl (by kernel_rfl) (by kernel_rfl) (by kernel_rfl) (fun _ _ _ h => h) (.inl ⟨by rfl, fun W hS => ?_⟩) hS0 ?_
  rotate_left
  · obtain ⟨s0, s1⟩ := hS; obtain ⟨e0, e1, e2, e3⟩ := pcell s0; obtain ⟨d0, d1, d2, d3, d4, d5⟩ := xcell s1; unfold execOp; go_simp; try with_reducible rfl
  refine wpAnyH_all (rs := [8]) (by kernel_rfl) (by simp) ?_
  intro i hi
  obtain rfl : i = 8 := by simpa using hi
  refine op_at rfl rfl ?_
  go_simp
  obtain ⟨C2, hR2⟩ : ∃ C, Rep C A := (let ⟨_, _, hR⟩ := HD.out.d; ⟨_, hR⟩)
  refine (rlist_any w2.drew (HD2.out.below ((Below.refl _ w2).drew)).rs (HD2.out.below ((Below.refl _ w2).drew)).r hR2 name x).mono ?_
  rintro e w3 ⟨v3, rfl, b3, own3⟩
  have HD3 := Lib.hid ((HD2.out.below ((Below.refl _ w2).drew)).below b3)
  have HX3 := Lib.hid (row_below (show w2.drew.heap[xb]? = _ from HX2.out) b3 (Nat.le_refl _))
  have HB3 := Lib.hid (HB2.out.trans (((Below.refl B w2).drew).trans (b3.mono HD2.out.sz)))
  obtain ⟨A3, c3, rfl⟩ := own_slice own3
  have RD3 := Lib.hid (Rd_own own3)
  have RD2 := Lib.hid ((Rd_own OWN2.out).below (((Below.refl _ w2).drew).trans b3) (Nat.le_refl _))
  have HSH := Lib.hid (list_short hR2 name x)
  clear b3 own3
  have hS3 := And.intro HD3.out.pr HX3.out
  refine ⟨hS3, ?_⟩
  refine wpAnyH_take (i := 9) (v := ?_) rfl (by kernel_rfl) (by kernel_rfl) (by kernel_rfl) (fun _ _ _ h => h) (.inl ⟨by rfl, fun W hS => ?_⟩) hS3 ?_
  rotate_left
  · obtain ⟨s0, s1⟩ := hS; obtain ⟨e0, e1, e2, e3⟩ := pcell s0; obtain ⟨d0, d1, d2, d3, d4, d5⟩ := xcell s1; unfold execOp; go_simp; try with_reducible rfl
  refine wpAnyH_take (i := 10) (v := ?_) rfl (by kernel_rfl) (by kernel_rfl) (by kernel_rfl) (fun _ _ _ h => h) (.inl ⟨by rfl, fun W hS => ?_⟩) hS3 ?_
  rotate_left
  · obtain ⟨s0, s1⟩ := hS; obtain ⟨e0, e1, e2, e3⟩ := pcell s0; obtain ⟨d0, d1, d2, d3, d4, d5⟩ := xcell s1; unfold execOp; go_simp; try with_reducible rfl
  refine wpAnyH_take (i := 12) (v := ?_) rfl (by kernel_rfl) (by kernel_rfl) (by kernel_rfl) (fun _ _ _ h => h) (.inl ⟨by rfl, fun W hS => ?_⟩) hS3 ?_
  rotate_left
  · obtain ⟨s0, s1⟩ := hS; obtain ⟨e0, e1, e2, e3⟩ := pcell s0; obtain ⟨d0, d1, d2, d3, d4, d5⟩ := xcell s1; unfold execOp; go_simp; try with_reducible rfl
  refine wpAnyH_take (i := 11) (v := ?_) rfl (by kernel_rfl) (by kernel_rfl) (by kernel_rfl) (fun _ _ _ h => h) (.inl ⟨by rfl, fun W hS => ?_⟩) hS3 ?_
  rotate_left
  · obtain ⟨s0, s1⟩ := hS; obtain ⟨e0, e1, e2, e3⟩ := pcell s0; obtain ⟨d0, d1, d2, d3, d4, d5⟩ := xcell s1; unfold execOp; go_simp; try with_reducible rfl
  refine wpAnyH_take (i := 13) (v := ?_) rfl (by kernel_rfl) (by kernel_rfl) (by kernel_rfl) (fun _ _ _ h => h) (.inl ⟨by rfl, fun W hS => ?_⟩) hS3 ?_
  rotate_left
  · obtain ⟨s0, s1⟩ := hS; obtain ⟨e0, e1, e2, e3⟩ := pcell s0; obtain ⟨d0, d1, d2, d3, d4, d5⟩ := xcell s1; unfold execOp; go_simp; try with_reducible rfl
  refine wpAnyH_done (by kernel_rfl) ?_ _
  unfold iv
  go_wp2_with fail
  refine (sameStrings_any w3 _ _ _ RD2.out RD3.out HSH.out).mono ?_
  rintro e w4 ⟨rfl, b4⟩
  have HD4 := Lib.hid (HD3.out.below b4)
  have HB4 := Lib.hid (HB3.out.trans (b4.mono HD3.out.sz))
  clear b4
  go_wp2
  go_ret
  exact ⟨rfl, bs, et, A, { HD4.out with r := HD4.out.r.mono (Nat.le_succ _) }, Nat.le_succ _, HB4.out⟩
set_option maxRecDepth 1000000 in
set_option maxHeartbeats 4000000 in
theorem play_free (w : World) (s : Ac) (h : Duo w B bd bp bm bs eb et pp A m) (hk : s.what.toNat % 10 = 5) :
    Calls Try.prog 26 #[.pointer (some ⟨pp, 0, none⟩), .agg #[bv s.what, s.pv, .string s.name, .int .i64 s.x, .int .i64 s.y, bv s.flip]] w fun e w' => PlayR w B bd bp bm eb pp A m e w' := by
  obtain ⟨what, pv, puts, name, x, y, flip⟩ := s
  dsimp only at *
  unfold bv
  have hrow := heap_alloc_new w (Obj.cells #[Value.int IntKind.u8 what.toNat, pv, Value.string name, Value.int IntKind.i64 x, Value.int IntKind.i64 y, Value.int IntKind.u8 flip.toNat] 25)
  obtain ⟨w1, hw1⟩ : ∃ w1, w.alloc (Obj.cells #[Value.int IntKind.u8 what.toNat, pv, Value.string name, Value.int IntKind.i64 x, Value.int IntKind.i64 y, Value.int IntKind.u8 flip.toNat] 25) = w1 := ⟨_, rfl⟩
  have b1 : Below w.heap.size w w1 := by rw [← hw1]; exact (Below.refl _ w).alloc (Nat.le_refl _) _
  rw [hw1] at hrow
  have HW1 := Lib.hid hw1; have B1 := Lib.hid b1; have HD := Lib.hid (h.below b1); have HSZ := Lib.hid h.sz
  have HBL := Lib.hid (show Below B w w1 from b1.mono h.sz)
  obtain ⟨a0, a1, a2, a3, a4, a5⟩ := xcell hrow
  obtain ⟨p0, p1, p2, p3⟩ := pcell HD.out.pr
  have HROW := Lib.hid hrow
  have hmod : ((what.toNat : Int)).tmod 10 = 5 := by
    have h1 : ((what.toNat % 10 : Nat) : Int) = (what.toNat : Int).tmod 10 := Int.ofNat_tmod _ _
    rw [← h1, hk]; rfl
  obtain ⟨xb, hxb⟩ : ∃ xb, w.heap.size = xb := ⟨_, rfl⟩
  rw [hxb] at HROW a0 a1 a2 a3 a4 a5
  have HXB := Lib.hid hxb
  clear h b1 hw1 hrow hk
  go_enter Try.func26, Try.ntmps26
  obtain ⟨C2, hR2⟩ : ∃ C, Rep C A := (let ⟨_, _, hR⟩ := HD.out.d; ⟨_, hR⟩)
  have HREP := Lib.hid hR2
  clear hR2
  rw [← HW1.out] at p0 p1 p2 p3
  go_wp2_with fail
  rw [HW1.out]
  refine (s_free HD.out.sess).mono ?_
  rintro e w2 ⟨rfl, b2⟩
  have HD2 := Lib.hid (HD.out.below b2); have HB2 := Lib.hid (HBL.out.trans (b2.mono HD.out.sz))
  obtain ⟨q0, q1, q2, q3⟩ := pcell HD2.out.pr
  clear b2
  unfold iv
  go_wp2_with fail
  refine (rfreen_any w2 HD2.out.rs HD2.out.r HREP.out).mono ?_
  rintro e w3 ⟨rfl, b3⟩
  have HD3 := Lib.hid (HD2.out.below b3); have HB3 := Lib.hid (HB2.out.trans (b3.mono HD2.out.sz))
  obtain ⟨q0, q1, q2, q3⟩ := pcell HD3.out.pr
  clear b3
  unfold iv
  go_wp2_with fail
  refine (s_scrub HD3.out.sess).mono ?_
  rintro e w4 ⟨v4, rfl, b4, own4⟩
  have HD4 := Lib.hid (HD3.out.below b4); have HB4 := Lib.hid (HB3.out.trans (b4.mono HD3.out.sz))
  obtain ⟨q0, q1, q2, q3⟩ := pcell HD4.out.pr
  obtain ⟨A4, c4, rfl⟩ := own_slice own4
  have OWN4 := Lib.hid own4
  clear b4 own4
  unfold iv
  go_wp2_with fail
  refine (rscrub_any w4 HD4.out.rs HD4.out.r HREP.out).mono ?_
  rintro e w5 ⟨v5, rfl, b5, own5⟩
  have HD5 := Lib.hid (HD4.out.below b5); have HB5 := Lib.hid (HB4.out.trans (b5.mono HD4.out.sz))
  obtain ⟨A5, c5, rfl⟩ := own_slice own5
  have RD5 := Lib.hid (Rd_own own5)
  have RD4 := Lib.hid ((Rd_own OWN4.out).below b5 (Nat.le_refl _))
  have HSH := Lib.hid (scrub_short HREP.out)
  clear b5 own5
  unfold iv
  go_wp2_with fail
  refine (sameInts_any w5 _ _ A.scrub.1 A.scrub.1 RD4.out RD5.out HSH.out).mono ?_
  rintro e w6 ⟨rfl, b6⟩
  rw [decide_eq_true rfl]
  have HD6 := Lib.hid (HD5.out.below b6); have HB6 := Lib.hid (HB5.out.trans (b6.mono HD5.out.sz))
  clear b6
  go_wp2
  go_ret
  exact ⟨rfl, bs, et, A, { HD6.out with r := HD6.out.r.mono (Nat.le_succ _) }, Nat.le_succ _, HB6.out⟩
set_option maxRecDepth 1000000 in
set_option maxHeartbeats 4000000 in
theorem play_open (w : World) (s : Ac) (h : Duo w B bd bp bm bs eb et pp A m) (hk : s.what.toNat % 10 = 9) :
    Calls Try.prog 26 #[.pointer (some ⟨pp, 0, none⟩), .agg #[bv s.what, s.pv, .string s.name, .int .i64 s.x, .int .i64 s.y, bv s.flip]] w fun e w' => PlayR w B bd bp bm eb pp A m e w' := by
  obtain ⟨what, pv, puts, name, x, y, flip⟩ := s
  dsimp only at *
  unfold bv
  have hrow := heap_alloc_new w (Obj.cells #[Value.int IntKind.u8 what.toNat, pv, Value.string name, Value.int IntKind.i64 x, Value.int IntKind.i64 y, Value.int IntKind.u8 flip.toNat] 25)
  obtain ⟨w1, hw1⟩ : ∃ w1, w.alloc (Obj.cells #[Value.int IntKind.u8 what.toNat, pv, Value.string name, Value.int IntKind.i64 x, Value.int IntKind.i64 y, Value.int IntKind.u8 flip.toNat] 25) = w1 := ⟨_, rfl⟩
  have b1 : Below w.heap.size w w1 := by rw [← hw1]; exact (Below.refl _ w).alloc (Nat.le_refl _) _
  rw [hw1] at hrow
  have HW1 := Lib.hid hw1; have B1 := Lib.hid b1; have HD := Lib.hid (h.below b1); have HSZ := Lib.hid h.sz
  have HBL := Lib.hid (show Below B w w1 from b1.mono h.sz)
  obtain ⟨a0, a1, a2, a3, a4, a5⟩ := xcell hrow
  obtain ⟨p0, p1, p2, p3⟩ := pcell HD.out.pr
  have HROW := Lib.hid hrow
  have hmod : ((what.toNat : Int)).tmod 10 = 9 := by
    have h1 : ((what.toNat % 10 : Nat) : Int) = (what.toNat : Int).tmod 10 := Int.ofNat_tmod _ _
    rw [← h1, hk]; rfl
  obtain ⟨xb, hxb⟩ : ∃ xb, w.heap.size = xb := ⟨_, rfl⟩
  rw [hxb] at HROW a0 a1 a2 a3 a4 a5
  have HXB := Lib.hid hxb
  clear h b1 hw1 hrow hk
  go_enter Try.func26, Try.ntmps26
  have HN4 := Lib.hid (let ⟨_, _, hR⟩ := HD.out.d; (hR.n4 : 4 ≤ A.n))
  rw [← HW1.out] at p0 p1 p2 p3
  go_wp2_with fail
  rw [HW1.out]
  refine (s_openT HD.out.d).mono ?_
  rintro e w2 ⟨b2, hor⟩
  have HD2 := Lib.hid (HD.out.below b2); have HB2 := Lib.hid (HBL.out.trans (b2.mono HD.out.sz))
  obtain ⟨q0, q1, q2, q3⟩ := pcell HD2.out.pr
  clear b2
  rcases hor with ⟨hst, bs2, rfl, hs2⟩ | ⟨hst, rfl⟩
  · have HS2 := Lib.hid hs2; have HST := Lib.hid hst
    clear hs2 hst
    go_wp2_with fail
    refine (ropen_any w2 HD2.out.r (by have := HN4.out; omega)).mono ?_
    rintro e w3 ⟨b3, hor⟩
    obtain ⟨-, et2, rfl, ht3⟩ := hor.resolve_right (fun h => h.1 HST.out)
    have HD3 := Lib.hid (HD2.out.below b3); have HB3 := Lib.hid (HB2.out.trans (b3.mono HD2.out.sz))
    have HS3 := Lib.hid (show StT w3 bs2 bd from row_below HS2.out b3 (Nat.le_refl _)); have HT3 := Lib.hid ht3
    obtain ⟨q0, q1, q2, q3⟩ := pcell HD3.out.pr
    have f1 : w3.frozen? ⟨pp, 1, none⟩ = false := frozen_of_row _ _ _ _ _ HD3.out.pr
    have f3 : w3.frozen? ⟨pp, 3, none⟩ = false := frozen_of_row _ _ _ _ _ HD3.out.pr
    clear b3 ht3 hor
    go_wp2
    go_ret
    refine ⟨rfl, bs2, et2, A, { HD3.out.turn HS3.out HT3.out with r := (HD3.out.turn HS3.out HT3.out).r.mono (Nat.le_succ _) }, Nat.le_succ _, ?_⟩
    exact (HB3.out.setCell (p := ⟨pp, 1, none⟩) HD3.out.lop _).setCell (p := ⟨pp, 3, none⟩) HD3.out.lop _
  · have HST := Lib.hid hst
    have hsi : ((A.state 0 : Nat) : Int) ≠ 0 := by omega
    have hsb : (((A.state 0 : Nat) : Int) == 0) = false := by rw [beq_eq_false_iff_ne]; exact hsi
    have hne : (((A.state 0 : Nat) : Int) != ((A.state 0 : Nat) : Int)) = false := by simp
    clear hst hsi
    unfold iv
    generalize hz : A.state 0 = z at *
    have HZ := Lib.hid hz
    clear hz
    go_wp2_with fail
    refine (ropen_any w2 HD2.out.r (by have := HN4.out; omega)).mono ?_
    rintro e w3 ⟨b3, hor⟩
    obtain ⟨-, rfl⟩ := hor.resolve_left (fun h => HST.out (by rw [← HZ.out]; exact h.1))
    rw [HZ.out]
    have HD3 := Lib.hid (HD2.out.below b3); have HB3 := Lib.hid (HB2.out.trans (b3.mono HD2.out.sz))
    clear b3 hor
    unfold iv
    go_wp2
    go_ret
    exact ⟨rfl, bs, et, A, { HD3.out with r := HD3.out.r.mono (Nat.le_succ _) }, Nat.le_succ _, HB3.out⟩
end
end Go.Proofs.Ytcgapfmdpchemaa
