/- The walks of the laws' small helpers: put, SameInts. -/
import Derived.Test.YtcgapfmdpchemaaRefused
namespace Go.Proofs.Ytcgapfmdpchemaa
open Go.RowKit
set_option maxHeartbeats 400000 in
theorem put_any (a b : ByteArray) (w : World) : Calls Try.prog 23 #[.string a, .string b] w fun e w' => ∃ v, e = .returned v ∧ PutsAt w' v [⟨a, b, false⟩] ∧ Below w.heap.size w w' := by
  go_enter Try.func23, Try.ntmps23
  go_wp2
  go_ret
  refine ⟨_, rfl, ?_, (Below.refl _ w).alloc (Nat.le_refl _) _⟩
  exact Rd_new w [.string a, .string b, .bool false] 46 _ 1 rfl
set_option maxRecDepth 1000000 in
set_option maxHeartbeats 1000000 in
theorem sameInts_any (w : World) (u v : Value) (xs ys : List Nat) (hu : Rd w u xs.length (ivs xs)) (hv : Rd w v ys.length (ivs ys)) (hx : xs.length ≤ 1000000) : Calls Try.prog 30 #[u, v] w fun e w' => e = .returned (.bool (decide (xs = ys))) ∧ Below w.heap.size w w' := by
  obtain ⟨A, c, rfl, hnc, hcm, hcx⟩ := hu
  obtain ⟨B, d, rfl, hnd, hdm, hcy⟩ := hv
  by_cases hl : xs.length = ys.length
  · have hls : ((xs.length : Int) != (ys.length : Int)) = false := by rw [bne_eq_false_iff_eq]; omega
    have HL := Lib.hid hl; clear hl
    go_enter Try.func30, Try.ntmps30
    go_wp2
    go_loopw [5] (fun i wr => ∃ k : Nat, k ≤ xs.length ∧ i = .int .i64 k ∧ Below w.heap.size w wr ∧ Hid (xs.take k = ys.take k)) (fun i _ => xs.length - (intOf i).toNat)
    case atStart => exact ⟨0, by omega, rfl, Below.refl _ _, Lib.hid (by simp)⟩
    case round =>
      obtain ⟨k, hk, rfl, hbr, HE⟩ := hrel
      by_cases hlt : k < xs.length
      · have hlty : k < ys.length := by rw [← HL.out]; exact hlt
        obtain ⟨b1, o1, rfl, hc1⟩ := hcx k (by rw [ivs_length]; exact hlt)
        obtain ⟨b2, o2, rfl, hc2⟩ := hcy k (by rw [ivs_length]; exact hlty)
        have e1 : wr.cell? ⟨b1, o1 + k, none⟩ = some (.int .i64 xs[k]) := by rw [hbr.cell (p := ⟨b1, o1 + k, none⟩) (block_lt_of_cell hc1), hc1]; simp [ivs, iv]
        have e2 : wr.cell? ⟨b2, o2 + k, none⟩ = some (.int .i64 ys[k]) := by rw [hbr.cell (p := ⟨b2, o2 + k, none⟩) (block_lt_of_cell hc2), hc2]; simp [ivs, iv]
        have t1 : xs.take (k + 1) = xs.take k ++ [xs[k]] := List.take_succ_eq_append_getElem hlt
        have t2 : ys.take (k + 1) = ys.take k ++ [ys[k]] := List.take_succ_eq_append_getElem hlty
        have hne : xs[k] ≠ ys[k] → xs ≠ ys := fun h1 h2 => h1 (by simp only [h2])
        generalize xs[k] = p at *
        generalize ys[k] = q at *
        have T1 := Lib.hid t1; have T2 := Lib.hid t2; have HNE := Lib.hid hne
        have hki : (k : Int) < (xs.length : Int) := by omega
        have hkj : (k : Int) < (ys.length : Int) := by omega
        clear t1 t2 hne hcx hcy hc1 hc2
        by_cases hpq : p = q
        · have hpb : ((p : Int) != (q : Int)) = false := by rw [bne_eq_false_iff_eq, hpq]
          have HPQ := Lib.hid hpq; clear hpq
          go_wp2
          go_region
          go_wp2
          go_roundw
          case rel => exact ⟨k + 1, by omega, by go_num, (hbr : Below w.heap.size w wr).trans ((Below.refl _ wr).drew), Lib.hid (by rw [T1.out, T2.out, HE.out, HPQ.out])⟩
          case measure => simp [intOf]; omega
        · have hpb : ((p : Int) != (q : Int)) = true := by rw [bne_iff_ne]; omega
          have HPQ := Lib.hid hpq; clear hpq
          go_wp2
          go_region
          go_wp2
          go_ret
          exact ⟨by rw [decide_eq_false (HNE.out HPQ.out)]; rfl, hbr.trans ((Below.refl _ wr).drew)⟩
      · obtain rfl : k = xs.length := by omega
        have he : xs = ys := by
          have := HE.out
          rw [List.take_length, HL.out, List.take_length] at this
          exact this
        have HEQ := Lib.hid he; clear he
        go_wp2
        go_ret
        exact ⟨by rw [decide_eq_true HEQ.out]; rfl, hbr⟩
  · have hls : ((xs.length : Int) != (ys.length : Int)) = true := by rw [bne_iff_ne]; omega
    have HL := Lib.hid (show xs ≠ ys from fun h => hl (by rw [h])); clear hl
    go_enter Try.func30, Try.ntmps30
    go_wp2
    go_ret
    exact ⟨by rw [decide_eq_false HL.out]; rfl, Below.refl _ _⟩
end Go.Proofs.Ytcgapfmdpchemaa
