/- The walks of the pages' sums: sum, whole, made. -/
import Derived.Test.YtcgapfmdpchemaaW1
import Derived.Deep.RegionLaw
import Derived.OrdersHeld
import Derived.Stop.BytesEq
namespace Go.Proofs.Ytcgapfmdpchemaa
open Go.RowKit
def plainTo (L : List UInt8) : Nat → Nat
  | 0 => 0
  | k + 1 => plainTo L k + (L.getD k 0).toNat
def placedTo (L : List UInt8) : Nat → Nat
  | 0 => 0
  | k + 1 => placedTo L k + (L.getD k 0).toNat * (k + 1)
theorem plainTo_le (L : List UInt8) (k : Nat) : plainTo L k ≤ 255 * k := by
  induction k with
  | zero => simp [plainTo]
  | succ k ih => have := (L.getD k 0).toNat_lt; simp only [plainTo]; omega
theorem placedTo_le (L : List UInt8) (k : Nat) (hk : k ≤ 248) : placedTo L k ≤ 255 * 248 * k := by
  induction k with
  | zero => simp [placedTo]
  | succ k ih =>
    have h1 := (L.getD k 0).toNat_lt
    have h2 : (L.getD k 0).toNat * (k + 1) ≤ 255 * 248 := Nat.mul_le_mul (by omega) hk
    have := ih (by omega)
    simp only [placedTo]
    omega
/-- the sum of a page's bytes -/
def sumB (L : List UInt8) : List UInt8 := les 4 [plainTo L 248, placedTo L 248]
theorem sumB_length (L : List UInt8) : (sumB L).length = 8 := by simp [sumB, les_length]
set_option maxRecDepth 100000 in
set_option maxHeartbeats 1000000 in
theorem sum_any (L : List UInt8) (hL : L.length = 256) (w : World) :
    Calls Try.prog 70 #[pg L] w fun e w' => e = .returned (pg (sumB L)) ∧ Below w.heap.size w w' := by
  have HL := Lib.hid hL; clear hL
  go_enter Try.func70, Try.ntmps70
  have tok : True := trivial
  go_wp2_with (have _t := tok; refine bx81 rfl _ rfl rfl ?_; clear tok)
  generalize hw : (w.alloc (.cells (bvs L).toArray 81)).alloc (.cells #[.int .u8 0, .int .u8 0, .int .u8 0, .int .u8 0, .int .u8 0, .int .u8 0, .int .u8 0, .int .u8 0] 139) = w1
  have g1 : w1.heap[w.heap.size]? = some (.cells (bvs L).toArray 81 (0, 0)) := by subst hw; exact (heap_alloc_old _ _ (by simp)).trans (heap_alloc_new w _)
  have g2 : w1.heap[w.heap.size + 1]? = some (.cells (bvs z8).toArray 139 (0, 0)) := by subst hw; have := heap_alloc_new (w.alloc (.cells (bvs L).toArray 81)) (.cells (bvs z8).toArray 139); rw [World.size_alloc] at this; exact this
  have b1 : Below w.heap.size w w1 := by subst hw; exact ((Below.refl _ w).alloc (Nat.le_refl _) _).alloc (by simp) _
  have s1 : w.heap.size + 2 ≤ w1.heap.size := by subst hw; simp
  clear hw
  have hcell : ∀ k, (hk : k < 248) → w1.cell? ⟨w.heap.size, k, none⟩ = some (bv (L.getD k 0)) := fun k hk => by
    rw [cell_of_row _ _ _ _ _ _ g1]
    have := HL.out
    simp [bvs, List.getD_eq_getElem?_getD, List.getElem?_eq_getElem (show k < L.length by omega)]
  have G1 := Lib.hid g1; clear g1
  have G2 := Lib.hid g2; clear g2
  have HC := Lib.hid hcell; clear hcell
  go_loop [3, 4, 9] (fun p q i => ∃ k : Nat, k ≤ 248 ∧ i = .int .i64 k ∧ p = .int .u32 (plainTo L k : Nat) ∧ q = .int .u32 (placedTo L k : Nat)) (fun _ _ i => 248 - (intOf i).toNat)
  case atStart => exact ⟨0, by omega, rfl, rfl, rfl⟩
  case round =>
    obtain ⟨k, hk, rfl, rfl, rfl⟩ := hrel
    have hp := plainTo_le L k
    have hq := placedTo_le L k hk
    by_cases hlt : k < 248
    · have hc := HC.out k hlt
      have hb := (L.getD k 0).toNat_lt
      have e1 : plainTo L (k + 1) = plainTo L k + (L.getD k 0).toNat := rfl
      have e2 : placedTo L (k + 1) = placedTo L k + (L.getD k 0).toNat * (k + 1) := rfl
      have hm : (L.getD k 0).toNat * (k + 1) ≤ 255 * 248 := Nat.mul_le_mul (by omega) (by omega)
      unfold bv at hc
      generalize hB : (L.getD k 0).toNat = B at *
      generalize hP : plainTo L k = p at *
      generalize hQ : placedTo L k = q at *
      have E1 := Lib.hid e1; have E2 := Lib.hid e2; clear e1 e2 hB hP hQ
      have hm2 : (B : Int) * ((k : Int) + 1) ≤ 63240 := by
        have : ((B * (k + 1) : Nat) : Int) ≤ 63240 := by omega
        simpa using this
      have hm3 : 0 ≤ (B : Int) * ((k : Int) + 1) := Int.mul_nonneg (by omega) (by omega)
      go_wp2
      go_round
      case rel => exact ⟨k + 1, by omega, by go_num, by rw [E1.out]; go_num, by rw [E2.out]; simp⟩
      case measure => simp [intOf]; omega
    · obtain rfl : k = 248 := by omega
      clear HC
      have hp' : plainTo L 248 ≤ 63240 := by omega
      have hq' : placedTo L 248 ≤ 15683520 := by omega
      have e1 : IntKind.i64.wrap ((plainTo L 248 : Nat) : Int) = (plainTo L 248 : Nat) := IntWalk.i64_in _ (by omega)
      have e2 : IntKind.i64.wrap ((placedTo L 248 : Nat) : Int) = (placedTo L 248 : Nat) := IntWalk.i64_in _ (by omega)
      have h8 : (les 4 [plainTo L 248, placedTo L 248]).length = 8 := by simp [les_length]
      have H8 := Lib.hid h8; clear h8
      have g2d : w1.drew.heap[w.heap.size + 1]? = some (.cells (bvs z8).toArray 139 (0, 0)) := G2.out
      have G2D := Lib.hid g2d; clear g2d
      go_wp2
      go_region_law (first | (refine step_of rfl (op_cp_u8 _ _ rfl rfl rfl (Rd_own o2) rfl G3.out (by rw [H8.out]; exact Nat.le_refl 8) (by rw [H8.out]; exact Nat.le_refl 8) ?_); intro w3 g3 c3) | (go_simp; go_at_call 56; refine (numbers4 _ [plainTo L 248, placedTo L 248] (by simp) (by simp; omega) _ (Rd.drew (Rd_new w1 [iv (plainTo L 248), iv (placedTo L 248)] 3 _ 2 rfl))).mono ?_; rintro e w2 ⟨v2, rfl, o2, b2⟩; have G3 := Lib.hid ((b2.block (w.heap.size + 1) (by simp; omega)).trans ((heap_alloc_old w1 _ (show w.heap.size + 1 < w1.heap.size by omega)).trans G2.out))))
      have hspl : spl z8 0 (les 4 [plainTo L 248, placedTo L 248]) = sumB L := by
        have := H8.out
        unfold spl sumB
        rw [this]
        simp [z8]
      rw [hspl] at g3
      have G4 := Lib.hid g3; clear g3 hspl
      have hl8 : (sumB L).length = 8 := sumB_length L
      have HL8 := Lib.hid hl8; clear hl8
      have htk : ((sumB L).drop 0).take 8 = sumB L := by rw [List.drop_zero, List.take_of_length_le (by rw [HL8.out]; exact Nat.le_refl 8)]
      have HTK := Lib.hid htk; clear htk
      have hsz8 : (bvs (sumB L)).toArray.size = 8 := by simp only [List.size_toArray, bvs_length]; exact HL8.out
      have HSZ := Lib.hid hsz8; clear hsz8
      have tok2 : True := trivial
      go_wp2_with (first | (have _t := tok2; refine ldv agg139 size139 rfl _ rfl rfl G4.out (by rw [HL8.out]; exact Nat.le_refl 8) ?_; clear tok2; rw [HTK.out]) | (refine stv size139 rfl _ _ rfl rfl rfl HL8.out G4.out HSZ.out ?_))
      intro w4 g5 c4
      have G5 := Lib.hid g5; clear g5
      go_wp2
      refine bodyPost_ret (v := pg (sumB L)) ?_ rfl ⟨rfl, ?_⟩
      · exact results_cell_row rfl _ _ (w.heap.size + 1) 139 _ (0, 0) _ rfl G5.out Try.underlying139 rfl (by rw [size139]; exact congrArg some HSZ.out.symm)
      · refine (b1.trans (((Below.refl w.heap.size w1).alloc (by omega) (.cells [iv (plainTo L 248), iv (placedTo L 248)].toArray 3)).trans ?_)).trans ((c3.below (by omega)).trans (c4.below (by omega)))
        exact (Below.refl _ _).drew.trans (b2.mono (by simp; omega))
theorem ld_run {ty n : Nat} (ha : ∀ w, (isAgg ty).run Try.prog w = .ok true w) (hsz : (Try.prog.info? ty).map (·.size) = some n) (w : World) {g off : Nat} {L : List UInt8} {t : TypeId} {fr : Nat × Nat} (hg : w.heap[g]? = some (.cells (bvs L).toArray t fr)) (hle : off + n ≤ L.length) :
    (loadVar ty ⟨g, off, none⟩).run Try.prog w = .ok (pg ((L.drop off).take n)) w :=
  run_loadAgg ha hsz w g off (bvs ((L.drop off).take n)) (by simp [bvs]; omega) (fun j v hv => by
    rw [cell_of_row w g _ _ t fr hg]
    simp only [bvs, List.map_take, List.map_drop, List.getElem?_take, List.getElem?_drop, List.getElem?_toArray] at hv ⊢
    split at hv
    · exact hv
    · cases hv)
theorem exec_load {ρ : Operand → Value} {o : Oper} {ty : TypeId} {x : Operand} {ad : Addr} {v : Value} {W : World} (ho : o.op = .load ty x) (hx : ρ x = .pointer (some ad)) (h : (loadVar ty ad).run Try.prog W = .ok v W) : (execOp ρ o).run Try.prog W = .ok (.value v) W := by
  unfold execOp
  simp only [ho, hx, Instr.loadAt, Instr.sureAddr, Sem.run_bind, Sem.run_pure, Result.andThen_ok, h]
theorem exec_eql139 {ρ : Operand → Value} {o : Oper} {x y : Operand} {X Y : List UInt8} {W : World} (ho : o.op = .binOp .eql 139 x y 139) (hx : ρ x = pg X) (hy : ρ y = pg Y) (h1 : X.length = 8) (h2 : Y.length = 8) : (execOp ρ o).run Try.prog W = .ok (.value (.bool (X == Y))) W := by
  have hr := run_eql_bytes (P := Try.prog) W 139 5 8 Try.underlying139 Try.underlying5 (fun w => run_size (by kernel_rfl) w) X Y h1 h2
  have hg : (Try.prog.eqGuardType Try.prog.depth 139) = false := by kernel_rfl
  unfold execOp
  have hr' : (binOp .eql 139 (.agg (bvs X).toArray) (.agg (bvs Y).toArray)).run Try.prog W = .ok (.bool (X == Y)) W := hr
  simp [ho, hx, hy, pg, eqGuard, hg, hr']
theorem op_at {ops : Array Oper} {Q : Exit → Act → World → Prop} {K : Act → World → Prop} {a : Act} {w : World} {i : Nat} {o : Oper} (ho : ops[i]? = some o) (hg : o.guard = none) (h : o.wp Try.prog a w K Q) : wpOp Try.prog ops Q i K a w := by
  unfold wpOp
  rw [ho]
  simp only [Region.wanted, hg, if_true]
  exact .inl h
set_option maxRecDepth 100000 in
set_option maxHeartbeats 1000000 in
theorem whole_any (L : List UInt8) (hL : L.length = 256) (w : World) :
    Calls Try.prog 45 #[pg L] w fun e w' => e = .returned (.bool (sumB L == L.drop 248)) ∧ Below w.heap.size w w' := by
  have HL := Lib.hid hL; clear hL
  go_enter Try.func45, Try.ntmps45
  have tok : True := trivial
  go_wp2_with (have _t := tok; refine bx81 rfl _ rfl rfl ?_; clear tok)
  generalize hw : (w.alloc (.cells (bvs L).toArray 81)) = w1
  have g1 : w1.heap[w.heap.size]? = some (.cells (bvs L).toArray 81 (0, 0)) := by subst hw; exact heap_alloc_new w _
  have b1 : Below w.heap.size w w1 := by subst hw; exact (Below.refl _ w).alloc (Nat.le_refl _) _
  have s1 : w.heap.size + 1 ≤ w1.heap.size := by subst hw; simp
  clear hw
  refine wp_region_held (S := fun W => W.heap[w.heap.size]? = some (.cells (bvs L).toArray 81 (0, 0))) (by kernel_rfl) ?_
  refine wpAnyH_take (i := 0) (v := pg L) rfl (by kernel_rfl) (by kernel_rfl) (by kernel_rfl) (fun _ _ _ h => h) (.inl ⟨by rfl, fun W hS => ?_⟩) g1 ?_
  · refine exec_load rfl rfl ?_
    have := ld_run agg81 size81 W hS (off := 0) (by rw [HL.out]; exact Nat.le_refl 256)
    rwa [List.drop_zero, List.take_of_length_le (by rw [HL.out]; exact Nat.le_refl 256)] at this
  refine wpAnyH_take (i := 2) (v := .slice (some ⟨w.heap.size, 248, none⟩) 8 8) rfl (by kernel_rfl) (by kernel_rfl) (by kernel_rfl) (fun _ _ _ h => h) (.inl ⟨by rfl, fun W hS => by kernel_rfl⟩) g1 ?_
  refine wpAnyH_take (i := 3) (v := .pointer (some ⟨w.heap.size, 248, none⟩)) rfl (by kernel_rfl) (by kernel_rfl) (by kernel_rfl) (fun _ _ _ h => h) (.inl ⟨by rfl, fun W hS => by kernel_rfl⟩) g1 ?_
  refine wpAnyH_take (i := 4) (v := pg (L.drop 248)) rfl (by kernel_rfl) (by kernel_rfl) (by kernel_rfl) (fun _ _ _ h => h) (.inl ⟨by rfl, fun W hS => ?_⟩) g1 ?_
  · refine exec_load rfl rfl ?_
    have := ld_run agg139 size139 W hS (off := 248) (by rw [HL.out]; exact Nat.le_refl 256)
    rwa [List.take_of_length_le (by rw [List.length_drop, HL.out]; exact Nat.le_refl 8)] at this
  refine wpAnyH_all (rs := [1]) (by kernel_rfl) (by simp) ?_
  intro i hi
  obtain rfl : i = 1 := by simpa using hi
  refine op_at rfl rfl ?_
  go_simp
  refine (sum_any L HL.out _).mono ?_
  rintro e w2 ⟨rfl, b2⟩
  have g2 : w2.heap[w.heap.size]? = some (.cells (bvs L).toArray 81 (0, 0)) := (b2.block _ (by simp; omega)).trans g1
  refine ⟨g2, ?_⟩
  refine wpAnyH_take (i := 5) (v := .bool (sumB L == L.drop 248)) rfl (by kernel_rfl) (by kernel_rfl) (by kernel_rfl) (fun _ _ _ h => h) (.inl ⟨by rfl, fun W hS => exec_eql139 rfl rfl rfl (sumB_length L) (by rw [List.length_drop, HL.out])⟩) g2 ?_
  refine wpAnyH_take (i := 6) (v := .bool (sumB L == L.drop 248)) rfl (by kernel_rfl) (by kernel_rfl) (by kernel_rfl) (fun _ _ _ h => h) (.inl ⟨by rfl, fun W hS => by kernel_rfl⟩) g2 ?_
  refine wpAnyH_done (by kernel_rfl) ?_ _
  go_wp2
  go_ret
  exact ⟨rfl, b1.trans ((Below.refl _ w1).drew.trans (b2.mono (by simp; omega)))⟩
/-- the page of some bytes -/
def madeB (l : List UInt8) : List UInt8 := spl (spl zp 0 l) 248 (sumB (spl zp 0 l))
set_option maxRecDepth 100000 in
set_option maxHeartbeats 1000000 in
theorem made_any (l : List UInt8) (hl : l.length ≤ 248) (v : Value) (w : World) (hv : Rd w v l.length (bvs l)) :
    Calls Try.prog 65 #[v] w fun e w' => e = .returned (pg (madeB l)) ∧ Below w.heap.size w w' := by
  go_enter Try.func65, Try.ntmps65
  have tok1 : True := trivial
  have tok2 : True := trivial
  have hz256 : zp.length = 256 := zp_length
  have hXa : l.length ≤ 256 := by omega
  have hXb : 0 + l.length ≤ zp.length := by omega
  have hs1 : (spl zp 0 l).length = 256 := by rw [spl_length _ _ _ hXb]; exact zp_length
  have hs3 : 248 + (sumB (spl zp 0 l)).length ≤ (spl zp 0 l).length := by rw [sumB_length]; omega
  have hs4 : (madeB l).length = 256 := by unfold madeB; rw [spl_length _ _ _ hs3]; exact hs1
  have hs5 : (sumB (spl zp 0 l)).length ≤ 8 := by rw [sumB_length]; omega
  have hz : (bvs zp).toArray.size = 256 := by simp [bvs, zp_length]
  have HZ := Lib.hid hz; clear hz
  have HS1 := Lib.hid hs1; have HS4 := Lib.hid hs4; clear hs1 hs4 hz256
  go_wp2_with (first | (have _t := tok1; refine al81n rfl rfl ?_; intro w1 h1 hs1 hb1; clear tok1; have H1 := Lib.hid h1; clear h1) | (have _t := tok2; refine al81n rfl rfl ?_))
  intro w2 h2 hs2 hb2
  have H2 := Lib.hid h2; clear h2
  clear tok2
  have F2 := Lib.hid ((hb2.block w.heap.size (by omega)).trans H1.out)
  have hb0 : Below w.heap.size w w2 := hb1.trans (hb2.mono (by omega))
  have r2 := hv.below hb0 (Nat.le_refl _)
  clear hb1 hb2 H1
  go_wp2_with (refine cp_u8 rfl _ _ rfl rfl rfl r2 rfl H2.out hXa hXb ?_)
  intro w3 g3 c3
  have G3 := Lib.hid g3; clear g3
  have hs3' : w2.heap.size ≤ w3.heap.size := Nat.le_of_eq c3.size.symm
  have d3 : Below w1.heap.size w2 w3 := c3.below (Nat.le_refl _)
  clear r2 H2
  go_wp2_with (refine ld81v rfl _ rfl rfl G3.out HS1.out ?_)
  refine (sum_any _ HS1.out _).mono ?_
  rintro e w4 ⟨rfl, b4⟩
  have d4 : Below w1.heap.size w2 w4 := d3.trans (b4.mono (by omega))
  have G4 := Lib.hid ((b4.block w1.heap.size (by omega)).trans G3.out)
  have hs4' := b4.size
  go_wp2_with (refine aln zero139_eq rfl rfl ?_)
  intro w5 h5 hs5' b5
  have H5 := Lib.hid h5; clear h5
  have d5 : Below w1.heap.size w2 w5 := d4.trans (b5.mono (by omega))
  have G5 := Lib.hid ((b5.block w1.heap.size (by omega)).trans G4.out)
  have hl8 : (sumB (spl zp 0 l)).length = 8 := sumB_length _
  have HL8 := Lib.hid hl8; clear hl8
  have hz8 : (bvs z8).toArray.size = 8 := rfl
  have HZ8 := Lib.hid hz8; clear hz8
  clear G4 G3
  go_wp2_with (refine stv size139 rfl _ _ rfl rfl rfl HL8.out H5.out HZ8.out ?_)
  intro w6 g6 c6
  have d6 : Below w1.heap.size w2 w6 := d5.trans (c6.below (by omega))
  have G6 := Lib.hid ((c6.block w1.heap.size (by omega)).trans G5.out)
  have r6 : Rd w6.drew (.slice (some ⟨w4.heap.size, 0, none⟩) 8 8) 8 (bvs (sumB (spl zp 0 l))) := ⟨_, _, rfl, Nat.le_refl _, by decide, fun j hj => ⟨_, _, rfl, by
    rw [Nat.zero_add]
    have := cell_of_row w6.drew w4.heap.size j _ _ _ g6
    rw [this]
    simp [bvs] at hj ⊢
    simp [hj]⟩⟩
  clear g6 H5 G5
  have HR := Lib.hid r6; clear r6
  go_wp2
  go_region_law (refine step_of rfl (op_cp_u8 _ _ rfl rfl rfl HR.out HL8.out.symm G6.out hs5 hs3 ?_); intro w7 g7 c7)
  have d7 : Below w1.heap.size w2 w7 := d6.trans ((Below.refl _ w6).drew.trans (c7.below (Nat.le_refl _)))
  have G7 := Lib.hid (show w7.heap[w1.heap.size]? = some (.cells (bvs (madeB l)).toArray 81 (0, 0)) from g7); clear g7
  have F7 := Lib.hid ((d7.block w.heap.size (by omega)).trans F2.out)
  have tok : True := trivial
  clear HR G6
  go_wp2_with (first | (have _t := tok; refine ld81v rfl _ rfl rfl G7.out HS4.out ?_; clear tok) | (refine st81 rfl _ _ rfl rfl rfl HS4.out F7.out HZ.out ?_))
  intro w8 g8 c8
  have G8 := Lib.hid g8; clear g8
  go_wp2
  refine bodyPost_ret (v := pg (madeB l)) ?_ rfl ⟨rfl, hb0.trans ((d7.mono (by omega)).trans (c8.below (Nat.le_refl _)))⟩
  exact results_cell_row rfl _ _ w.heap.size 81 _ (0, 0) _ rfl G8.out Try.underlying81 rfl (by rw [size81, List.size_toArray, bvs_length]; exact congrArg some HS4.out.symm)
end Go.Proofs.Ytcgapfmdpchemaa
