/- The walks of write, Open, Damage. -/
import Derived.Test.YtcgapfmdpchemaaMap
namespace Go.Proofs.Ytcgapfmdpchemaa
open Go.RowKit
set_option maxHeartbeats 400000 in
/-- Pick: some number below b -/
theorem pick_any (b : Nat) (hb : 0 < b) (hb2 : b < 100000) (x : Int) (w : World) : Calls Try.prog 20 #[.int .i64 x, .int .i64 b] w fun e w' => (∃ r : Nat, r < b ∧ e = .returned (iv r)) ∧ w = w' := by
  go_enter Try.func20, Try.ntmps20
  go_wp2
  go_ret
  refine ⟨⟨((wrap64 (x.tmod b + b)).tmod b).toNat, ?_, ?_⟩, rfl⟩
  all_goals
    have h1 := Int.tmod_lt_of_pos x (show (0 : Int) < (b : Int) by omega)
    have h2 : -(b : Int) < x.tmod b := by
      have h3 := Int.tmod_lt_of_pos (-x) (show (0 : Int) < (b : Int) by omega)
      rw [Int.neg_tmod] at h3
      omega
    have e1 : wrap64 (x.tmod b + b) = x.tmod b + b := by unfold wrap64; omega
    have h4 : 0 ≤ (x.tmod b + b).tmod b := Int.tmod_nonneg _ (by omega)
    have h5 := Int.tmod_lt_of_pos (x.tmod b + b) (show (0 : Int) < (b : Int) by omega)
    rw [e1]
  · omega
  · show Ending.returned (.int .i64 _) = .returned (iv _)
    unfold iv
    rw [Int.toNat_of_nonneg h4, ← e1]
set_option maxHeartbeats 400000 in
theorem open_nil (w : World) : Calls Try.prog 10 #[.pointer none] w fun e w' => e = .returned (.tuple #[.pointer none, .int .i64 1]) ∧ w = w' := by
  go_enter Try.func10, Try.ntmps10
  go_wp2_with fail
  refine (none_nil w).mono ?_
  rintro e w' ⟨rfl, rfl⟩
  go_wp2
  go_ret2
  exact ⟨rfl, rfl⟩
set_option maxHeartbeats 400000 in
theorem open_zero {bd : Nat} (w : World) (h : w.cell? ⟨bd, 0, none⟩ = some (.slice none 0 0)) : Calls Try.prog 10 #[.pointer (some ⟨bd, 0, none⟩)] w fun e w' => e = .returned (.tuple #[.pointer none, .int .i64 1]) ∧ w = w' := by
  go_enter Try.func10, Try.ntmps10
  go_wp2_with fail
  refine (none_zero w h).mono ?_
  rintro e w' ⟨rfl, rfl⟩
  go_wp2
  go_ret2
  exact ⟨rfl, rfl⟩
set_option maxRecDepth 1000000 in
set_option maxHeartbeats 1000000 in
theorem open_any {bd bp bm : Nat} {C : Cn} {size : Nat} {index : List Nat} {es : List DE} (w : World) (h : DiskAt w bd bp bm C) (hd : Dir C size index es) :
    Calls Try.prog 10 #[.pointer (some ⟨bd, 0, none⟩)] w fun e w' => Below w.heap.size w w' ∧
      ((stateB C index 0 = 0 ∧ ∃ bs, e = .returned (.tuple #[.pointer (some ⟨bs, 0, none⟩), .int .i64 0]) ∧ StoreAt w' bs bd) ∨
       (stateB C index 0 ≠ 0 ∧ e = .returned (.tuple #[.pointer none, iv (stateB C index 0)]))) := by
  go_enter Try.func10, Try.ntmps10
  go_wp2_with fail
  refine (none_no w h).mono ?_
  rintro e w' ⟨rfl, rfl⟩
  go_wp2_with fail
  have hs : StoreAt (w.alloc (.cells #[.pointer (some ⟨bd, 0, none⟩)] 73)) w.heap.size bd := cell_one_new _ _ _ 0 _ rfl
  have b0 : Below w.heap.size w (w.alloc (.cells #[.pointer (some ⟨bd, 0, none⟩)] 73)) := (Below.refl _ w).alloc (Nat.le_refl _) _
  refine (begin_any _ hs (h.below b0 (Nat.le_refl _)) hd 0 (by decide)).mono ?_
  rintro e w1 ⟨b1, v, ix, rfl, hb⟩
  have d1 := b0.trans (b1.mono (by simp))
  clear hb
  by_cases hst : stateB C index 0 = 0
  · have HST := Lib.hid hst
    rw [hst]
    have hs1 := hs.below b1 (Nat.le_refl _)
    clear hst
    go_wp2
    go_ret2
    exact ⟨d1, .inl ⟨HST.out, _, rfl, hs1⟩⟩
  · have hst0 : ¬ ((stateB C index 0 : Nat) : Int) = 0 := by omega
    have HST := Lib.hid hst
    clear hst
    go_wp2
    go_ret2
    exact ⟨d1, .inr ⟨HST.out, rfl⟩⟩
section
variable {ops : Array Oper} {rest : List Oper} {o : Oper} {a : Act} {w : World} {Q : Exit → Act → World → Prop}
theorem del_flaw {bd bp bm : Nat} {C : Cn} (h : DiskAt w bd bp bm C) (k : Nat) (hgd : o.guard = none) (m x : Operand) (ho : o.op = .call { callee := .builtin .delete, args := #[m, x], argTypes := #[68, 3] }) (hm : a.eval m = .map (some bm)) (hx : a.eval x = .int .i64 k)
    (hk : ∀ w', DiskAt w' bd bp bm { C with flaws := healF C.flaws k } → Only bm w w' → wpList Try.prog ops Q rest (a.put o.dst (.tuple #[])) w') : wpList Try.prog ops Q (o :: rest) a w :=
  wpList_plain hgd fun K hK => by
    obtain ⟨w', hr, h1, h2⟩ := run_heal h k o.type
    unfold Oper.wp execOp
    have hr' : (Builtin.delete_ #[68, 3] o.type #[.map (some bm), .int .i64 k]).run Try.prog w = .ok (.tuple #[]) w' := hr
    simp only [ho, resolve, invoke, builtin, Sem.run_bind, Sem.run_pure, Result.andThen_ok, List.map_toArray, List.map_cons, List.map_nil, hm, hx, hr']
    exact hK _ _ (hk w' h1 h2)
end
theorem Only3.ofOnly {a b c g : Nat} {w w' : World} (h : Only g w w') (hg : g = a ∨ g = b ∨ g = c) : Only3 a b c w w' :=
  ⟨h.os, h.tape, h.output, by rw [h.size]; exact Nat.le_refl _, fun k _ h1 h2 h3 => h.block k (by rcases hg with rfl | rfl | rfl <;> assumption)⟩
/-- a byte of the disk turned -/
theorem DiskAt.setByte {w : World} {bd bp bm : Nat} {C : Cn} (h : DiskAt w bd bp bm C) (j : Nat) (b : UInt8) : DiskAt (w.setCell ⟨bp, j, none⟩ (bv b)) bd bp bm { C with bytes := C.bytes.set j b } := by
  obtain ⟨h1, h2, h3⟩ := h.ne
  refine ⟨?_, ?_, ?_, by simpa using h.len, h.two, h.small⟩
  · rw [heap_setCell_other w _ _ _ (by exact h1)]; exact h.d
  · rw [heap_setCell_same w bp j _ 81 _ h.p]
    simp [bvs, List.map_set]
  · obtain ⟨es, ck, hm, r⟩ := h.m
    exact ⟨es, ck, by rw [heap_setCell_other w _ _ _ (by exact h3.symm)]; exact hm, r⟩
/-- the disk behind k bytes of a page that is written -/
def Cn.wr (C : Cn) (q : Nat) (P : List UInt8) (k : Nat) : Cn :=
  { C with bytes := spl C.bytes (q * 256) (P.take k), fuse := if C.fuse < 0 then C.fuse else C.fuse - k, flaws := if k = 0 then C.flaws else healF C.flaws q }
theorem spl_nil (L : List UInt8) (off : Nat) : spl L off [] = L := by simp [spl]
theorem spl_set (L P : List UInt8) (off k : Nat) (hk : k < P.length) (hL : off + k < L.length) : (spl L off (P.take k)).set (off + k) P[k] = spl L off (P.take (k + 1)) := by
  have h1 : (P.take k).length = k := by rw [List.length_take]; omega
  have h2 : (L.take off).length = off := by rw [List.length_take]; omega
  have h4 : P.take (k + 1) = P.take k ++ [P[k]] := List.take_succ_eq_append_getElem hk
  rw [h4]
  unfold spl
  rw [List.length_append, h1, List.length_singleton]
  have h3 : L.drop (off + k) = L[off + k] :: L.drop (off + (k + 1)) := by rw [← Nat.add_assoc]; exact List.drop_eq_getElem_cons hL
  rw [h3, List.set_append_right _ _ (by rw [List.length_append, h1, h2]; exact Nat.le_refl _), List.length_append, h1, h2, Nat.sub_self, List.set_cons_zero]
  simp only [List.append_assoc, List.singleton_append]
theorem notAgg5 (w : World) : (isAgg 5).run Try.prog w = .ok false w := by
  unfold isAgg
  rw [Sem.run_bind, run_underlying Try.underlying5 w]
  rfl
theorem run_index81 (P : List UInt8) (k : Nat) (hk : k < P.length) (h256 : k < 256) (w : World) : (Instr.index 81 (pg P) (.int .i64 k)).run Try.prog w = .ok (bv P[k]) w := by
  have hz := run_size size5 w
  have h1 : (k : Int) < 256 := by omega
  have h2 : (0 : Int) ≤ (k : Int) := by omega
  have h3 : ¬ 256 ≤ k := by omega
  simp [Instr.index, asIntOf, run_underlying Try.underlying81, pg, hz, part, bvs, hk, h2, h3]
theorem Cn.wr_byte (C : Cn) (q : Nat) (P : List UInt8) (k : Nat) (hk : k < P.length) (hL : q * 256 + k < C.bytes.length) :
    ({ ({ C.wr q P k with fuse := (C.wr q P (k + 1)).fuse, flaws := (C.wr q P (k + 1)).flaws } : Cn) with bytes := (C.wr q P k).bytes.set (q * 256 + k) P[k] } : Cn) = C.wr q P (k + 1) := by
  simp only [Cn.wr, spl_set _ _ _ _ hk hL]
set_option maxRecDepth 1000000 in
set_option maxHeartbeats 1000000 in
theorem write_any {bd bp bm : Nat} {C : Cn} (w : World) (h : DiskAt w bd bp bm C) (hfb : C.fuse ≤ 9223372036854775807) (q : Nat) (hq : q < C.n) (P : List UInt8) (hP : P.length = 256) :
    Calls Try.prog 42 #[.pointer (some ⟨bd, 0, none⟩), .int .i64 q, pg P] w fun e w' => Only3 bd bp bm w w' ∧
      (((C.fuse < 0 ∨ 256 ≤ C.fuse) ∧ DiskAt w' bd bp bm (C.wr q P 256) ∧ ∃ v, e = .returned v) ∨
       (0 ≤ C.fuse ∧ C.fuse < 256 ∧ DiskAt w' bd bp bm { C.wr q P C.fuse.toNat with down := true } ∧ e = .panicked [{ v := .iface 101 (.agg #[]), recovered := false }])) := by
  have HP := Lib.hid hP; clear hP
  go_enter Try.func42, Try.ntmps42
  have tok : True := trivial
  have hg := heap_alloc_new w (.cells (bvs P).toArray 81)
  have h0 : DiskAt (w.alloc (.cells (bvs P).toArray 81)) bd bp bm C := h.below ((Below.refl _ w).alloc (Nat.le_refl _) _) (Nat.le_refl _)
  have o0 : Only3 bd bp bm w (w.alloc (.cells (bvs P).toArray 81)) := .of_below ((Below.refl _ w).alloc (Nat.le_refl _) _)
  have HG := Lib.hid hg; clear hg
  go_wp2_with (first | (have _t := tok; refine bx81 rfl _ rfl rfl ?_; clear tok) | (refine ld81v rfl _ rfl rfl HG.out HP.out ?_))
  generalize w.alloc (.cells (bvs P).toArray 81) = w0 at *
  clear HG
  go_loopw [9] (fun i wr => ∃ k : Nat, k ≤ 256 ∧ i = .int .i64 k ∧ (C.fuse < 0 ∨ k ≤ C.fuse) ∧ DiskAt wr bd bp bm (C.wr q P k) ∧ Only3 bd bp bm w wr) (fun i _ => 256 - (intOf i).toNat)
  case atStart => exact ⟨0, by omega, rfl, by omega, by have e1 : C.wr q P 0 = C := by { simp [Cn.wr, spl_nil] }; rw [e1]; exact h0, o0⟩
  case round =>
    obtain ⟨k, hk, rfl, hf, hd, ho⟩ := hrel
    have c0 : wr.cell? ⟨bd, 0, none⟩ = some (.slice (some ⟨bp, 0, none⟩) C.n C.n) := hd.c0
    have c1 := hd.c1
    have c2 := hd.c2
    have c3 := hd.c3
    have f1 := hd.fz 1
    have f2 := hd.fz 2
    have hqi : (q : Int) < (C.n : Int) := by omega
    have hlen := h.len
    have hLB : q * 256 + k < C.bytes.length ∨ k = 256 := by omega
    have HLEN := Lib.hid hlen; clear hlen
    by_cases hlt : k < 256
    · have hkP : k < P.length := by rw [HP.out]; exact hlt
      have hix := fun W => run_index81 P k hkP hlt W
      have fin : ∀ W, DiskAt W bd bp bm { C.wr q P k with fuse := (C.wr q P (k + 1)).fuse, flaws := (C.wr q P (k + 1)).flaws } → Only3 bd bp bm w W →
          DiskAt (W.setCell ⟨bp, q * 256 + k, none⟩ (bv P[k])) bd bp bm (C.wr q P (k + 1)) ∧ Only3 bd bp bm w (W.setCell ⟨bp, q * 256 + k, none⟩ (bv P[k])) := fun W hW hO => by
        have h1 := hW.setByte (q * 256 + k) P[k]
        rw [Cn.wr_byte C q P k hkP (by omega)] at h1
        exact ⟨h1, hO.setCell _ _ (.inr (.inl rfl))⟩
      have hbyte : ∀ W, DiskAt W bd bp bm { C.wr q P k with fuse := (C.wr q P (k + 1)).fuse, flaws := (C.wr q P (k + 1)).flaws } → ∃ u, W.cell? ⟨bp, q * 256 + k, none⟩ = some u ∧ W.frozen? ⟨bp, q * 256 + k, none⟩ = false ∧ W.cell? ⟨bd, 0, none⟩ = some (.slice (some ⟨bp, 0, none⟩) C.n C.n) := fun W hW => by
        have hl : q * 256 + k < (C.wr q P k).bytes.length := by have := hd.len; rw [this]; show _ < 256 * C.n; omega
        refine ⟨bv (C.wr q P k).bytes[q * 256 + k], ?_, frozen_of_row _ _ _ _ _ hW.p, hW.c0⟩
        rw [cell_of_row _ _ _ _ _ _ hW.p]
        simp [bvs, hl]
      have FIN := Lib.hid fin; have HBYTE := Lib.hid hbyte; clear fin hbyte
      generalize hV : P[k] = v at *
      unfold bv at hix FIN
      clear hV
      by_cases hC : C.fuse = k
      · have hF : (C.wr q P k).fuse = 0 := by
          unfold Cn.wr
          have : ¬ C.fuse < 0 := by omega
          simp only [this, if_false]; omega
        rw [hF] at c1
        have HC := Lib.hid hC; clear hC
        have HF := Lib.hid hF; clear hF
        clear hf
        go_wp2_with fail
        refine ⟨rfl, ho.setCell ⟨bd, 2, none⟩ _ (.inl rfl), .inr ⟨by have := HC.out; omega, by have := HC.out; omega, ?_, rfl⟩⟩
        have e1 : C.fuse.toNat = k := by have := HC.out; omega
        rw [e1]
        exact hd.setDown true
      · have HC := Lib.hid hC; clear hC
        by_cases hneg : C.fuse < 0
        · have hF : (C.wr q P k).fuse = C.fuse := by unfold Cn.wr; simp [hneg]
          have hF1 : (C.wr q P (k + 1)).fuse = (C.wr q P k).fuse := by unfold Cn.wr; simp [hneg]
          rw [hF] at c1
          have hz : ¬ C.fuse = 0 := by omega
          have hp : ¬ 0 < C.fuse := by omega
          have HN := Lib.hid hneg
          generalize hfu : C.fuse = F at *
          have HF := Lib.hid hfu
          have HF1 := Lib.hid hF1
          clear hfu hF hF1 hneg hf
          by_cases hk0 : k = 0
          · subst hk0
            have hix0 : ∀ W : World, (Instr.index 81 (pg P) (.int .i64 0)).run Try.prog W = .ok (.int .u8 v.toNat) W := hix
            clear hix
            go_wp2_with (refine del_flaw hd q rfl _ _ rfl rfl rfl ?_)
            intro w1 h1 hO1
            have e1 : ({ C.wr q P 0 with fuse := (C.wr q P (0 + 1)).fuse, flaws := (C.wr q P (0 + 1)).flaws } : Cn) = { C.wr q P 0 with flaws := healF (C.wr q P 0).flaws q } := by rw [HF1.out]; rfl
            have h1' : DiskAt w1 bd bp bm { C.wr q P 0 with fuse := (C.wr q P (0 + 1)).fuse, flaws := (C.wr q P (0 + 1)).flaws } := by rw [e1]; exact h1
            obtain ⟨u, cu, fu, c0'⟩ := HBYTE.out w1 h1'
            rw [Nat.add_zero] at cu fu
            have hfin := FIN.out w1 h1' (ho.trans (Only3.ofOnly hO1 (.inr (.inr rfl))))
            rw [Nat.add_zero] at hfin
            have HFIN := Lib.hid hfin; have H1 := Lib.hid h1
            clear hfin h1 h1' e1 c0 c1 c2 c3 f1 f2
            go_wp2
            go_roundw
            case rel => exact ⟨1, by omega, rfl, .inl HN.out, HFIN.out.1, HFIN.out.2⟩
            case measure => simp [intOf]
          · have hk0i : ¬ (k : Int) = 0 := by omega
            have e1 : ({ C.wr q P k with fuse := (C.wr q P (k + 1)).fuse, flaws := (C.wr q P (k + 1)).flaws } : Cn) = C.wr q P k := by
              rw [HF1.out]
              simp [Cn.wr, hk0]
            have h1' : DiskAt wr bd bp bm { C.wr q P k with fuse := (C.wr q P (k + 1)).fuse, flaws := (C.wr q P (k + 1)).flaws } := by rw [e1]; exact hd
            obtain ⟨u, cu, fu, c0'⟩ := HBYTE.out wr h1'
            have hfin := FIN.out wr h1' ho
            have HFIN := Lib.hid hfin
            clear hfin h1' e1
            go_wp2
            go_roundw
            case rel => exact ⟨k + 1, by omega, by go_num, .inl HN.out, HFIN.out.1, HFIN.out.2⟩
            case measure => simp [intOf]; omega
        · obtain ⟨f, hfe⟩ : ∃ f : Nat, C.fuse = k + 1 + f := ⟨(C.fuse - k - 1).toNat, by have := HC.out; omega⟩
          have hF : (C.wr q P k).fuse = (f : Int) + 1 := by unfold Cn.wr; simp only [hneg, if_false]; omega
          have hF1 : (C.wr q P (k + 1)).fuse = (f : Int) := by unfold Cn.wr; simp only [hneg, if_false]; omega
          rw [hF] at c1
          have hz : ¬ (f : Int) + 1 = 0 := by omega
          have hp : (0 : Int) < (f : Int) + 1 := by omega
          have hw1 : wrap64 (f : Int) = f := by unfold wrap64; omega
          have hw2 : IntKind.i64.wrap (f : Int) = f := IntWalk.i64_in _ (by omega)
          have hdB := hd.setFuse f
          have hoB := ho.setCell ⟨bd, 1, none⟩ (.int .i64 f) (.inl rfl)
          have HFE := Lib.hid hfe
          have HF1 := Lib.hid hF1; have HN := Lib.hid hneg
          clear hfe hF hF1 hneg hf hfb
          by_cases hk0 : k = 0
          · subst hk0
            have hix0 : ∀ W : World, (Instr.index 81 (pg P) (.int .i64 0)).run Try.prog W = .ok (.int .u8 v.toNat) W := hix
            clear hix
            go_wp2_with (refine del_flaw hdB q rfl _ _ rfl rfl rfl ?_)
            intro w1 h1 hO1
            have e1 : ({ C.wr q P 0 with fuse := (C.wr q P (0 + 1)).fuse, flaws := (C.wr q P (0 + 1)).flaws } : Cn) = { ({ C.wr q P 0 with fuse := (f : Int) } : Cn) with flaws := healF (C.wr q P 0).flaws q } := by rw [HF1.out]; rfl
            have h1' : DiskAt w1 bd bp bm { C.wr q P 0 with fuse := (C.wr q P (0 + 1)).fuse, flaws := (C.wr q P (0 + 1)).flaws } := by rw [e1]; exact h1
            obtain ⟨u, cu, fu, c0'⟩ := HBYTE.out w1 h1'
            rw [Nat.add_zero] at cu fu
            have hfin := FIN.out w1 h1' (hoB.trans (Only3.ofOnly hO1 (.inr (.inr rfl))))
            rw [Nat.add_zero] at hfin
            have HFIN := Lib.hid hfin; have H1 := Lib.hid h1
            clear hfin h1 h1' e1 c0 c1 c2 c3 f1 f2
            go_wp2
            go_roundw
            case rel => exact ⟨1, by omega, rfl, .inr (by have := HFE.out; omega), HFIN.out.1, HFIN.out.2⟩
            case measure => simp [intOf]
          · have hk0i : ¬ (k : Int) = 0 := by omega
            have e1 : ({ C.wr q P k with fuse := (C.wr q P (k + 1)).fuse, flaws := (C.wr q P (k + 1)).flaws } : Cn) = { C.wr q P k with fuse := (f : Int) } := by
              rw [HF1.out]
              simp [Cn.wr, hk0]
            have h1' : DiskAt (wr.setCell ⟨bd, 1, none⟩ (.int .i64 f)) bd bp bm { C.wr q P k with fuse := (C.wr q P (k + 1)).fuse, flaws := (C.wr q P (k + 1)).flaws } := by rw [e1]; exact hdB
            obtain ⟨u, cu, fu, c0'⟩ := HBYTE.out _ h1'
            have hfin := FIN.out _ h1' hoB
            have HFIN := Lib.hid hfin
            clear hfin h1' e1
            go_wp2
            go_roundw
            case rel => exact ⟨k + 1, by omega, by go_num, .inr (by have := HFE.out; omega), HFIN.out.1, HFIN.out.2⟩
            case measure => simp [intOf]; omega
    · obtain rfl : k = 256 := by omega
      have HF := Lib.hid hf
      clear c0 c1 c2 c3 f1 f2 hf
      go_wp2
      go_end0
      exact ⟨ho, .inl ⟨HF.out, hd, _, rfl⟩⟩
end Go.Proofs.Ytcgapfmdpchemaa
