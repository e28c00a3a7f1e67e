/- The walks of Free, Scrub and List. -/
import Derived.Test.YtcgapfmdpchemaaGet
namespace Go.Proofs.Ytcgapfmdpchemaa
open Go.RowKit
/-- how many of them are free -/
def freeNum (L : List Bool) : Nat := (L.filter (! ·)).length
theorem usedB_length (n : Nat) (hn : 2 ≤ n) (index : List Nat) (es : List DE) : (usedB n index es).length = n := by
  have : ∀ (es : List DE) (L : List Bool), (es.foldl (fun L e => mark L e.pages) L).length = L.length := by
    intro es
    induction es with
    | nil => intro L; rfl
    | cons e es ih => intro L; rw [List.foldl_cons, ih, mark_length]
  unfold usedB
  rw [this, mark_length]
  simp; omega
theorem freeNum_snoc (L : List Bool) (k : Nat) (hk : k < L.length) : freeNum (L.take (k + 1)) = freeNum (L.take k) + (if L[k] then 0 else 1) := by
  rw [List.take_succ_eq_append_getElem hk, freeNum, List.filter_append, List.length_append]
  unfold freeNum
  cases L[k] <;> simp
def freeR (C : Cn) (index : List Nat) (es : List DE) : Nat × Nat :=
  if stateB C index 0 ≠ 0 then (0, stateB C index 0) else (freeNum (usedB C.n index es), 0)
set_option maxRecDepth 1000000 in
set_option maxHeartbeats 1000000 in
theorem free_any {bs bd bp bm : Nat} {C : Cn} {size : Nat} {index : List Nat} {es : List DE} (w : World) (hs : StoreAt w bs bd) (h : DiskAt w bd bp bm C) (hd : Dir C size index es) :
    Calls Try.prog 13 #[.pointer (some ⟨bs, 0, none⟩)] w fun e w' => e = .returned (.tuple #[iv (freeR C index es).1, iv (freeR C index es).2]) ∧ Below w.heap.size w w' := by
  go_enter Try.func13, Try.ntmps13
  go_wp2_with fail
  refine (begin_any w hs h hd 0 (by decide)).mono ?_
  rintro e w1 ⟨b1, v, ix, rfl, hb⟩
  by_cases hst : stateB C index 0 = 0
  · obtain ⟨ps, hrow, hps, hix⟩ := hb hst
    rw [hst]
    have hres : freeR C index es = (freeNum (usedB C.n index es), 0) := by unfold freeR; rw [hst]; rfl
    have HRES := Lib.hid hres
    clear hst hb hres
    go_wp2_with fail
    have hpn : ∀ p ∈ ps, ∀ q ∈ p.1.pages, q < C.n := fun p hp q hq => hd.pg p.1 (by rw [← hps]; exact List.mem_map_of_mem hp) q hq
    refine (used_any w1 (hs.below b1 (Nat.le_refl _)) (h.below b1 (Nat.le_refl _)) ps v ix hrow.rd hix hd.ix hpn (_size := size)).mono ?_
    rintro e w2 ⟨g, rfl, hg, hrw, b2⟩
    rw [hps] at hrw
    have hul := usedB_length C.n h.two index es
    generalize hU : usedB C.n index es = U at *
    have HU := Lib.hid hul; have HRW := Lib.hid hrw; clear hul hrw hU
    have d2 := b1.trans (b2.mono b1.size)
    have hsmall := h.small
    go_wp2_with fail
    go_loop [7, 23] (fun c i => ∃ k : Nat, k ≤ C.n ∧ i = .int .i64 k ∧ c = .int .i64 (freeNum (U.take k) : Nat)) (fun _ i => C.n - (intOf i).toNat)
    case atStart => exact ⟨0, by omega, rfl, rfl⟩
    case round =>
      obtain ⟨k, hk, rfl, rfl⟩ := hrel
      by_cases hlt : k < C.n
      · have hku : k < U.length := by rw [HU.out]; exact hlt
        have hcell : w2.cell? ⟨g, k, none⟩ = some (.bool U[k]) := by rw [cell_of_row _ _ _ _ _ _ HRW.out]; simp [bls, hku]
        have hfs := freeNum_snoc U k hku
        have hfl : freeNum (U.take k) ≤ k := by
          unfold freeNum
          exact Nat.le_trans (List.length_filter_le _ _) (List.length_take_le _ _)
        generalize hF : freeNum (U.take k) = f at *
        have HFS := Lib.hid hfs
        have hki : (k : Int) < (C.n : Int) := by omega
        clear hfs
        cases hb : U[k]
        · rw [hb] at hcell
          go_wp2
          go_round
          case rel => exact ⟨k + 1, by omega, by go_num, by rw [HFS.out, hb]; go_num⟩
          case measure => simp [intOf]; omega
        · rw [hb] at hcell
          go_wp2
          go_round
          case rel => exact ⟨k + 1, by omega, by go_num, by rw [HFS.out, hb]; rfl⟩
          case measure => simp [intOf]; omega
      · obtain rfl : k = C.n := by omega
        have hut : U.take C.n = U := List.take_of_length_le (by rw [HU.out]; exact Nat.le_refl _)
        rw [hut]
        have HUT := Lib.hid hut; clear hut
        go_wp2
        go_ret2
        exact ⟨by rw [HRES.out]; rfl, d2⟩
  · have hst0 : ¬ ((stateB C index 0 : Nat) : Int) = 0 := by omega
    have hres : freeR C index es = (0, stateB C index 0) := by unfold freeR; rw [if_pos hst]
    have HRES := Lib.hid hres
    clear hres
    go_wp2
    go_ret2
    exact ⟨by rw [HRES.out]; rfl, b1⟩
end Go.Proofs.Ytcgapfmdpchemaa
/- The walks of Scrub and List. -/
namespace Go.Proofs.Ytcgapfmdpchemaa
open Go.RowKit
/-- the used pages among the first k that are damaged -/
def scrubTo (C : Cn) (U : List Bool) (k : Nat) : List Nat := (List.range k).filter fun i => U.getD i false && decide (1 < i) && !wholeB (C.page i)
theorem scrubTo_succ (C : Cn) (U : List Bool) (k : Nat) : scrubTo C U (k + 1) = scrubTo C U k ++ (if (U.getD k false && decide (1 < k) && !wholeB (C.page k)) = true then [k] else []) := by
  unfold scrubTo
  rw [List.range_succ, List.filter_append]
  congr 1
  by_cases h : (U.getD k false && decide (1 < k) && !wholeB (C.page k)) = true
  · rw [if_pos h, List.filter_cons_of_pos (by simpa using h)]; rfl
  · rw [if_neg h, List.filter_cons_of_neg (by simpa using h)]; rfl
theorem scrubTo_length (C : Cn) (U : List Bool) (k : Nat) : (scrubTo C U k).length ≤ k := by
  unfold scrubTo
  exact Nat.le_trans (List.length_filter_le _ _) (by simp)
def scrubR (C : Cn) (index : List Nat) (es : List DE) : List Nat × Nat :=
  if stateB C index 0 ≠ 0 then ([], stateB C index 0) else (scrubTo C (usedB C.n index es) C.n, 0)
theorem op_ld81d {o : Oper} {a : Act} {w : World} {Q : Exit → Act → World → Prop} {K : Act → World → Prop} {bd bp bm q : Nat} {C : Cn} (hD : DiskAt w bd bp bm C) (hq : q < C.n) (x : Operand) (ho : o.op = .load 81 x) (hx : a.eval x = .pointer (some ⟨bp, q * 256, none⟩))
    (h : K (a.put o.dst (pg (C.page q))) w) : o.wp Try.prog a w K Q := by
  have hr := ld_run agg81 size81 w hD.p (off := q * 256) (by rw [hD.len]; omega)
  unfold Oper.wp execOp
  simp only [ho, hx, Instr.loadAt, Instr.sureAddr, Sem.run_bind, Sem.run_pure, Result.andThen_ok, hr]
  exact h
set_option maxRecDepth 1000000 in
set_option maxHeartbeats 1000000 in
theorem scrub_any {bs bd bp bm : Nat} {C : Cn} {size : Nat} {index : List Nat} {es : List DE} (w : World) (hs : StoreAt w bs bd) (h : DiskAt w bd bp bm C) (hd : Dir C size index es) :
    Calls Try.prog 22 #[.pointer (some ⟨bs, 0, none⟩)] w fun e w' => ∃ v, e = .returned (.tuple #[v, iv (scrubR C index es).2]) ∧ Below w.heap.size w w' ∧ w'.ownsRow w.heap.size 3 1 v (scrubR C index es).1.length (ivs (scrubR C index es).1) := by
  go_enter Try.func22, Try.ntmps22
  go_wp2_with fail
  refine (begin_any w hs h hd 0 (by decide)).mono ?_
  rintro e w1 ⟨b1, v, ix, rfl, hb⟩
  by_cases hst : stateB C index 0 = 0
  · obtain ⟨ps, hrow, hps, hix⟩ := hb hst
    rw [hst]
    have hres : scrubR C index es = (scrubTo C (usedB C.n index es) C.n, 0) := by unfold scrubR; rw [hst]; rfl
    have HRES := Lib.hid hres
    clear hst hb hres
    go_wp2_with fail
    have hpn : ∀ p ∈ ps, ∀ q ∈ p.1.pages, q < C.n := fun p hp q hq => hd.pg p.1 (by rw [← hps]; exact List.mem_map_of_mem hp) q hq
    refine (used_any w1 (hs.below b1 (Nat.le_refl _)) (h.below b1 (Nat.le_refl _)) ps v ix hrow.rd hix hd.ix hpn (_size := size)).mono ?_
    rintro e w2 ⟨g, rfl, hgs, hrw, b2⟩
    rw [hps] at hrw
    have hul := usedB_length C.n h.two index es
    generalize hU : usedB C.n index es = U at *
    have HU := Lib.hid hul; have HRW := Lib.hid hrw; clear hul hrw hU
    have d2 := b1.trans (b2.mono b1.size)
    have hg := (Array.getElem?_eq_some_iff.1 HRW.out).1
    have hsmall := h.small
    have hd2 := h.below d2 (Nat.le_refl _)
    have hs2 := hs.below d2 (Nat.le_refl _)
    have hw2 : w.heap.size ≤ w2.heap.size := d2.size
    clear hrow hix
    go_wp2_with fail
    go_loopw [7, 24] (fun o i wr => ∃ k : Nat, k ≤ C.n ∧ i = .int .i64 k ∧ wr.ownsRow w2.heap.size 3 1 o (scrubTo C U k).length (ivs (scrubTo C U k)) ∧ Below w2.heap.size w2 wr) (fun _ i _ => C.n - (intOf i).toNat)
    case atStart => exact ⟨0, by omega, rfl, World.ownsRow_nil _ _ _ _, Below.refl _ _⟩
    case round =>
      obtain ⟨k, hk, rfl, own, hbr⟩ := hrel
      by_cases hlt : k < C.n
      · have hku : k < U.length := by rw [HU.out]; exact hlt
        have hrow := (hbr.block g hg).trans HRW.out
        have hcell : wr.cell? ⟨g, k, none⟩ = some (.bool (U.getD k false)) := by rw [cell_of_row _ _ _ _ _ _ hrow]; simp [bls, hku]
        have hdr := hd2.below hbr (Nat.le_refl _)
        have hsr := hs2.below hbr (Nat.le_refl _)
        have hss := scrubTo_succ C U k
        have hsl := scrubTo_length C U k
        have hki : (k : Int) < (C.n : Int) := by omega
        generalize hS : scrubTo C U k = S at *
        generalize hB : U.getD k false = B at *
        have HSS := Lib.hid hss
        clear hss hS hrow hB
        have hc0 := hdr.c0
        have hsr0 : wr.cell? ⟨bs, 0, none⟩ = some (.pointer (some ⟨bd, 0, none⟩)) := hsr
        have hpl := C.page_length h.len hlt
        have HPL := Lib.hid hpl; clear hpl
        cases B
        · go_wp2
          go_roundw
          case rel => exact ⟨k + 1, by omega, by go_num, by rw [HSS.out]; simpa using own, hbr⟩
          case measure => simp [intOf]; omega
        · by_cases h1k : 1 < k
          · have h1ki : (1 : Int) < (k : Int) := by omega
            go_wp2_with fail
            refine op_ld81d hdr hlt _ rfl rfl ?_
            go_wp2_with fail
            refine (whole_any _ HPL.out _).mono ?_
            rintro e w3 ⟨rfl, b3⟩
            rw [show (sumB (C.page k) == (C.page k).drop 248) = wholeB (C.page k) from rfl]
            have own3 := own_below own b3 (Nat.le_refl _)
            have d3 := hbr.trans (b3.mono hbr.size)
            cases hW : wholeB (C.page k)
            · have HW := Lib.hid hW; clear hW
              have hs1 : S.length + 1 ≤ 1000000000 := by omega
              go_wp2_with (at_builtin; refine app_one el51 rfl _ _ rfl rfl own3 rfl rfl rfl hs1 d3.size ?_)
              intro v4 w4 o4 _ b4
              go_wp2
              go_roundw
              case rel => exact ⟨k + 1, by omega, by go_num, by rw [HSS.out, HW.out]; simpa [h1k, ivs, iv] using o4, d3.trans b4⟩
              case measure => simp [intOf]; omega
            · have HW := Lib.hid hW; clear hW
              go_wp2
              go_roundw
              case rel => exact ⟨k + 1, by omega, by go_num, by rw [HSS.out, HW.out]; simpa using own3, d3⟩
              case measure => simp [intOf]; omega
          · have h1ki : ¬ (1 : Int) < (k : Int) := by omega
            go_wp2
            go_roundw
            case rel => exact ⟨k + 1, by omega, by go_num, by rw [HSS.out]; simpa [h1k] using own, hbr⟩
            case measure => simp [intOf]; omega
      · obtain rfl : k = C.n := by omega
        go_wp2
        go_ret2
        exact ⟨_, by rw [HRES.out]; rfl, d2.trans (hbr.mono hw2), by rw [HRES.out]; exact own_base own hw2⟩
  · have hst0 : ¬ ((stateB C index 0 : Nat) : Int) = 0 := by omega
    have hres : scrubR C index es = ([], stateB C index 0) := by unfold scrubR; rw [if_pos hst]
    have HRES := Lib.hid hres
    clear hres
    go_wp2
    go_ret2
    exact ⟨_, by rw [HRES.out]; rfl, b1, by rw [HRES.out]; exact World.ownsRow_nil _ _ _ _⟩
end Go.Proofs.Ytcgapfmdpchemaa
