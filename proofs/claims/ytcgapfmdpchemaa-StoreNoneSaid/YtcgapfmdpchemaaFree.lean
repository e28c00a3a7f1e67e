/- The walks of Free, Scrub and List. -/
import Derived.Test.YtcgapfmdpchemaaGet
namespace Go.Proofs.Ytcgapfmdpchemaa
open Go.RowKit
/-- how many of them are free -/
def freeNum (L : List Bool) : Nat := (L.filter (! ·)).length
theorem usedB_length (n : Nat) (hn : 2 ≤ n) (index : List Nat) (es : List DE) : (usedB n index es).length = n := by
  have : ∀ (es : List DE) (L : List Bool), (es.foldl (fun L e => mark L e.pages) L).length = L.length := by
    intro es
    induction es with
    | nil => intro L; rfl
    | cons e es ih => intro L; rw [List.foldl_cons, ih, mark_length]
  unfold usedB
  rw [this, mark_length]
  simp; omega
theorem freeNum_snoc (L : List Bool) (k : Nat) (hk : k < L.length) : freeNum (L.take (k + 1)) = freeNum (L.take k) + (if L[k] then 0 else 1) := by
  rw [List.take_succ_eq_append_getElem hk, freeNum, List.filter_append, List.length_append]
  unfold freeNum
  cases L[k] <;> simp
def freeR (C : Cn) (index : List Nat) (es : List DE) : Nat × Nat :=
  if stateB C index 0 ≠ 0 then (0, stateB C index 0) else (freeNum (usedB C.n index es), 0)
set_option maxRecDepth 1000000 in
set_option maxHeartbeats 1000000 in
theorem free_any {bs bd bp bm : Nat} {C : Cn} {size : Nat} {index : List Nat} {es : List DE} (w : World) (hs : StoreAt w bs bd) (h : DiskAt w bd bp bm C) (hd : Dir C size index es) :
    Calls Try.prog 13 #[.pointer (some ⟨bs, 0, none⟩)] w fun e w' => e = .returned (.tuple #[iv (freeR C index es).1, iv (freeR C index es).2]) ∧ Below w.heap.size w w' := by
  go_enter Try.func13, Try.ntmps13
  go_wp2_with fail
  refine (begin_any w hs h hd 0 (by decide)).mono ?_
  rintro e w1 ⟨b1, v, ix, rfl, hb⟩
  by_cases hst : stateB C index 0 = 0
  · obtain ⟨ps, hrow, hps, hix⟩ := hb hst
    rw [hst]
    have hres : freeR C index es = (freeNum (usedB C.n index es), 0) := by unfold freeR; rw [hst]; rfl
    have HRES := Lib.hid hres
    clear hst hb hres
    go_wp2_with fail
    have hpn : ∀ p ∈ ps, ∀ q ∈ p.1.pages, q < C.n := fun p hp q hq => hd.pg p.1 (by rw [← hps]; exact List.mem_map_of_mem hp) q hq
    refine (used_any w1 (hs.below b1 (Nat.le_refl _)) (h.below b1 (Nat.le_refl _)) ps v ix hrow.rd hix hd.ix hpn (_size := size)).mono ?_
    rintro e w2 ⟨g, rfl, hg, hrw, b2⟩
    rw [hps] at hrw
    have hul := usedB_length C.n h.two index es
    generalize hU : usedB C.n index es = U at *
    have HU := Lib.hid hul; have HRW := Lib.hid hrw; clear hul hrw hU
    have d2 := b1.trans (b2.mono b1.size)
    have hsmall := h.small
    go_wp2_with fail
    go_loop [7, 23] (fun c i => ∃ k : Nat, k ≤ C.n ∧ i = .int .i64 k ∧ c = .int .i64 (freeNum (U.take k) : Nat)) (fun _ i => C.n - (intOf i).toNat)
    case atStart => exact ⟨0, by omega, rfl, rfl⟩
    case round =>
      obtain ⟨k, hk, rfl, rfl⟩ := hrel
      by_cases hlt : k < C.n
      · have hku : k < U.length := by rw [HU.out]; exact hlt
        have hcell : w2.cell? ⟨g, k, none⟩ = some (.bool U[k]) := by rw [cell_of_row _ _ _ _ _ _ HRW.out]; simp [bls, hku]
        have hfs := freeNum_snoc U k hku
        have hfl : freeNum (U.take k) ≤ k := by
          unfold freeNum
          exact Nat.le_trans (List.length_filter_le _ _) (List.length_take_le _ _)
        generalize hF : freeNum (U.take k) = f at *
        have HFS := Lib.hid hfs
        have hki : (k : Int) < (C.n : Int) := by omega
        clear hfs
        cases hb : U[k]
        · rw [hb] at hcell
          go_wp2
          go_round
          case rel => exact ⟨k + 1, by omega, by go_num, by rw [HFS.out, hb]; go_num⟩
          case measure => simp [intOf]; omega
        · rw [hb] at hcell
          go_wp2
          go_round
          case rel => exact ⟨k + 1, by omega, by go_num, by rw [HFS.out, hb]; rfl⟩
          case measure => simp [intOf]; omega
      · obtain rfl : k = C.n := by omega
        have hut : U.take C.n = U := List.take_of_length_le (by rw [HU.out]; exact Nat.le_refl _)
        rw [hut]
        have HUT := Lib.hid hut; clear hut
        go_wp2
        go_ret2
        exact ⟨by rw [HRES.out]; rfl, d2⟩
  · have hst0 : ¬ ((stateB C index 0 : Nat) : Int) = 0 := by omega
    have hres : freeR C index es = (0, stateB C index 0) := by unfold freeR; rw [if_pos hst]
    have HRES := Lib.hid hres
    clear hres
    go_wp2
    go_ret2
    exact ⟨by rw [HRES.out]; rfl, b1⟩
end Go.Proofs.Ytcgapfmdpchemaa
