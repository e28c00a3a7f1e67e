/- The walks of NewDisk and Damage. -/
import Derived.Test.YtcgapfmdpchemaaWrite
namespace Go.Proofs.Ytcgapfmdpchemaa
open Go.RowKit
def newC (n : Nat) : Cn := { n := n, bytes := spl (List.replicate (256 * n) 0) 0 (headB 1 0 []), fuse := -1, down := false, flaws := fun _ => none }
theorem info81 : (Try.prog.info? 81).map (fun i => (i.zero, i.size, i.bytes)) = some (some (pg zp), 256, 256) := by kernel_rfl
theorem headB_length (c z : Nat) (l : List Nat) (hl : l.length ≤ 100 := by decide) : (headB c z l).length = 256 := by
  unfold headB
  rw [spl_length, spl_length, zp_length]
  · rw [zp_length]; simp only [List.length_append, les_length]; simp; omega
  · rw [spl_length, zp_length]
    · simp [le_length]
    · rw [zp_length]; simp only [List.length_append, les_length]; simp; omega
section
variable {ops : Array Oper} {rest : List Oper} {o : Oper} {a : Act} {w : World} {Q : Exit → Act → World → Prop}
theorem made_page (n : Nat) : madeCells (pg zp).cells (n * 256) = (bvs (List.replicate (256 * n) 0)).toArray := by
  have hz : (pg zp).cells.size = 256 := by show (bvs zp).toArray.size = 256; rw [List.size_toArray, bvs_length, zp_length]
  apply Array.ext
  · simp [size_madeCells, bvs, Nat.mul_comm]
  · intro i h1 h2
    have hm : i % 256 < 256 := Nat.mod_lt _ (by decide)
    simp only [madeCells, Array.getElem_map, Array.getElem_range, hz]
    have : (pg zp).cells[i % 256]? = some (bv 0) := by
      show (bvs zp).toArray[i % 256]? = _
      rw [List.getElem?_toArray, bvs, List.getElem?_map, zp, List.getElem?_replicate, if_pos hm]
      rfl
    rw [getElem!_def, this]
    simp [bvs]
/-- make([]page, n) -/
theorem mk67 (hgd : o.guard = none) (x y : Operand) (ho : o.op = .makeSlice 67 x y) (n : Nat) (hn : n ≤ 100000) (hx : a.eval x = .int .i64 n) (hy : a.eval y = .int .i64 n)
    (h : ∀ w', w'.heap[w.heap.size]? = some (.cells (bvs (List.replicate (256 * n) 0)).toArray 81 (0, 0)) → w'.heap.size = w.heap.size + 1 → Below w.heap.size w w' → wpList Try.prog ops Q rest (a.put o.dst (.slice (some ⟨w.heap.size, 0, none⟩) n n)) w') : wpList Try.prog ops Q (o :: rest) a w :=
  wpList_plain hgd fun K hK => by
    obtain ⟨i0, hi, hz0, hz1, hz2⟩ := info_parts info81
    have hr := run_make (P := Try.prog) w 67 81 i0 (pg zp) Try.underlying67 hi hz0 .i64 .i64 (n : Int) (n : Int) (by omega) (by omega) (by rw [hz2]; omega) (by omega)
    rw [hz1, Int.toNat_natCast, made_page] at hr
    unfold Oper.wp execOp
    simp only [ho, hx, hy, Sem.run_bind, hr, Result.andThen_ok, Sem.run_pure]
    exact hK _ _ (h _ (heap_alloc_new w _) (by simp) ((Below.refl _ w).alloc (Nat.le_refl _) _))
/-- a page stored into a row of bytes -/
theorem op_st81 {K : Act → World → Prop} (x y : Operand) (ho : o.op = .store 81 x y) {g off : Nat} (hx : a.eval x = .pointer (some ⟨g, off, none⟩))
    {P : List UInt8} (hy : a.eval y = pg P) (hP : P.length = 256) {L : List UInt8} {t : TypeId} (hg : w.heap[g]? = some (.cells (bvs L).toArray t (0, 0))) (hle : off + 256 ≤ L.length)
    (h : ∀ w', w'.heap[g]? = some (.cells (bvs (spl L off P)).toArray t (0, 0)) → Only g w w' → K (a.put o.dst undef) w') : o.wp Try.prog a w K Q := by
  have hs := run_storeCells_at Try.prog g off t (bvs P) 0 (bvs L).toArray w hg (by simp [bvs]; omega) (oneCell_bvs P)
  rw [Nat.add_zero] at hs
  have e1 : (bvs L).toArray.toList.take off ++ bvs P ++ (bvs L).toArray.toList.drop (off + (bvs P).length) = bvs (spl L off P) := by simp [bvs, spl]
  rw [e1] at hs
  have hz := run_size size81 w
  have hsz : (bvs P).toArray.size = 256 := by simp [bvs, hP]
  unfold Oper.wp execOp
  simp only [ho, hx, hy, Instr.storeAt, Instr.sureAddr, Sem.run_bind, Sem.run_pure, Result.andThen_ok, storeVar, pg, Value.cells, hz, hsz, ne_eq, not_true, if_false, hs, Oper.upon]
  exact h _ (setRow_heap w g _ _ t _ hg) (Only.setRow w g _)
end
set_option maxHeartbeats 400000 in
theorem newDisk_bad (w : World) (n : Int) (h : n < 4 ∨ 4096 < n) : Calls Try.prog 9 #[.int .i64 n] w fun e w' => e = .returned (.tuple #[.pointer none, .int .i64 2]) ∧ w = w' := by
  by_cases h4 : n < 4
  · go_enter Try.func9, Try.ntmps9
    go_wp2
    go_ret2
    exact ⟨rfl, rfl⟩
  · have h5 : 4096 < n := by omega
    go_enter Try.func9, Try.ntmps9
    go_wp2
    go_ret2
    exact ⟨rfl, rfl⟩
set_option maxRecDepth 1000000 in
set_option maxHeartbeats 1000000 in
theorem newDisk_ok (w : World) (n : Nat) (h4 : 4 ≤ n) (h5 : n ≤ 4096) : Calls Try.prog 9 #[.int .i64 n] w fun e w' => ∃ bd bp bm, e = .returned (.tuple #[.pointer (some ⟨bd, 0, none⟩), .int .i64 0]) ∧ DiskAt w' bd bp bm (newC n) ∧ Below w.heap.size w w' := by
  have h1 : ¬ (n : Int) < 4 := by omega
  have h2 : ¬ (4096 : Int) < (n : Int) := by omega
  have hmk := fun w => run_makeMap (P := Try.prog) 68 w
  go_enter Try.func9, Try.ntmps9
  go_wp2_with (refine mk67 rfl _ _ rfl n (by omega) rfl rfl ?_)
  intro w1 g1 s1 b1
  have G1 := Lib.hid g1; have S1 := Lib.hid s1; clear g1 s1
  go_wp2_with fail
  have hd2 : DiskAt ((w1.alloc (.map #[] 0)).alloc (.cells #[.slice (some ⟨w.heap.size, 0, none⟩) n n, .int .i64 (-1), .bool false, .map (some w1.heap.size)] 70)) (w1.heap.size + 1) w.heap.size w1.heap.size
      { n := n, bytes := List.replicate (256 * n) 0, fuse := -1, down := false, flaws := fun _ => none } := by
    have hlt : w.heap.size < w1.heap.size := by have := S1.out; omega
    refine ⟨?_, ?_, ⟨#[], 0, ?_, ?_⟩, by simp, by show 2 ≤ n; omega, h5⟩
    · have := heap_alloc_new (w1.alloc (.map #[] 0)) (.cells #[.slice (some ⟨w.heap.size, 0, none⟩) n n, .int .i64 (-1), .bool false, .map (some w1.heap.size)] 70)
      rw [World.size_alloc] at this
      exact this
    · rw [heap_alloc_old _ _ (by rw [World.size_alloc]; omega), heap_alloc_old _ _ hlt]; exact G1.out
    · rw [heap_alloc_old _ _ (by rw [World.size_alloc]; omega)]; exact heap_alloc_new _ _
    · exact ⟨by simp, fun k a f h => by simp at h, by simp⟩
  have b2 : Below w.heap.size w ((w1.alloc (.map #[] 0)).alloc (.cells #[.slice (some ⟨w.heap.size, 0, none⟩) n n, .int .i64 (-1), .bool false, .map (some w1.heap.size)] 70)) := (b1.alloc b1.size _).alloc (by rw [World.size_alloc]; have := b1.size; omega) _
  generalize (w1.alloc (.map #[] 0)).alloc (.cells #[.slice (some ⟨w.heap.size, 0, none⟩) n n, .int .i64 (-1), .bool false, .map (some w1.heap.size)] 70) = w2 at *
  generalize w1.heap.size + 1 = bd at *
  generalize w1.heap.size = bm at *
  have hbp := hd2.lt.2.1
  have hs2 := b2.size
  have hc0 : w2.cell? ⟨bd, 0, none⟩ = some (.slice (some ⟨w.heap.size, 0, none⟩) n n) := hd2.c0
  have hni : (0 : Int) < (n : Int) := by omega
  have hn0 : ¬ n = 0 := by omega
  refine wp_region_held (S := fun W => W.cell? ⟨bd, 0, none⟩ = some (.slice (some ⟨w.heap.size, 0, none⟩) n n)) (by kernel_rfl) ?_
  refine wpAnyH_take (i := 0) (v := .pointer (some ⟨bd, 0, none⟩)) rfl (by kernel_rfl) (by kernel_rfl) (by kernel_rfl) (fun _ _ _ h => h) (.inl ⟨by rfl, fun W hS => by kernel_rfl⟩) hc0 ?_
  refine wpAnyH_take (i := 1) (v := .pointer (some ⟨bd, 0, none⟩)) rfl (by kernel_rfl) (by kernel_rfl) (by kernel_rfl) (fun _ _ _ h => h) (.inl ⟨by rfl, fun W hS => by kernel_rfl⟩) hc0 ?_
  refine wpAnyH_take (i := 2) (v := .pointer (some ⟨bd, 0, none⟩)) rfl (by kernel_rfl) (by kernel_rfl) (by kernel_rfl) (fun _ _ _ h => h) (.inl ⟨by rfl, fun W hS => by kernel_rfl⟩) hc0 ?_
  refine wpAnyH_take (i := 3) (v := .slice (some ⟨w.heap.size, 0, none⟩) n n) rfl (by kernel_rfl) (by kernel_rfl) (by kernel_rfl) (fun _ _ _ h => h) (.inl ⟨by rfl, fun W hS => ?_⟩) hc0 ?_
  · unfold execOp
    go_simp
  refine wpAnyH_all (rs := [4]) (by kernel_rfl) (by simp) ?_
  intro i hi
  obtain rfl : i = 4 := by simpa using hi
  refine op_at rfl rfl ?_
  go_simp
  refine (head_any 1 0 (by decide) (by decide) [] (by decide) (by simp) (.slice none 0 0) _ ⟨none, 0, rfl, Nat.le_refl _, by decide, fun j hj => by simp [ivs] at hj⟩).mono ?_
  rintro e w3 ⟨rfl, b3⟩
  have hd3 : DiskAt w3 bd w.heap.size bm _ := hd2.drew.below b3 (Nat.le_refl _)
  refine ⟨hd3.c0, ?_⟩
  refine wpAnyH_take (i := 5) (v := .pointer (some ⟨w.heap.size, 0, none⟩)) rfl (by kernel_rfl) (by kernel_rfl) (by kernel_rfl) (fun _ _ _ h => h) (.inl ⟨by rfl, fun W hS => ?_⟩) hd3.c0 ?_
  · unfold execOp
    go_simp
  refine wpAnyH_all (rs := [6]) (by kernel_rfl) (by simp) ?_
  intro i hi
  obtain rfl : i = 6 := by simpa using hi
  refine op_at rfl rfl ?_
  refine op_st81 _ _ rfl rfl rfl (headB_length 1 0 [] (by decide)) hd3.p (by simp; omega) ?_
  intro w4 g4 o4
  have hd4 : DiskAt w4 bd w.heap.size bm (newC n) := by
    refine ⟨(o4.block _ hd3.ne.1).trans hd3.d, g4, ?_, ?_, by show 2 ≤ n; omega, h5⟩
    · obtain ⟨es, ck, hm, hf⟩ := hd3.m
      exact ⟨es, ck, (o4.block _ (Ne.symm hd3.ne.2.2)).trans hm, hf⟩
    · show (spl _ _ _).length = 256 * n
      rw [spl_length _ _ _ (by rw [headB_length 1 0 [] (by decide)]; simp; omega)]
      simp
  have b4 : Below w.heap.size w w4 := b2.trans (((Below.refl _ w2).drew.trans (b3.mono hs2)).trans (o4.below (Nat.le_refl _)))
  refine ⟨hd4.c0, ?_⟩
  refine wpAnyH_done (by kernel_rfl) ?_ _
  go_wp2
  go_ret2
  exact ⟨_, rfl, ⟨_, _, hd4⟩, b4⟩
end Go.Proofs.Ytcgapfmdpchemaa
