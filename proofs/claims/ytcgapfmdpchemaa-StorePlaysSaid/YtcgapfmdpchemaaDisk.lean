/- How a disk of package store lies in memory, and the walks of its smallest methods: none, Fail, Restart, Down; newest; read. -/
import Derived.Test.YtcgapfmdpchemaaW1
namespace Go.Proofs.Ytcgapfmdpchemaa
open Go.RowKit

/-- what a disk holds: its pages' bytes one behind the other, the fuse, whether it is down, and which pages are damaged (at which byte, which bits) -/
structure Cn where
  n : Nat
  bytes : List UInt8
  fuse : Int
  down : Bool
  flaws : Nat → Option (Nat × UInt8)
/-- the entries of the map of the flaws: the keys apart, each with its flaw -/
def FlawsIn (es : List MapEntry) (f : Nat → Option (Nat × UInt8)) : Prop :=
  (∀ e ∈ es, ∃ k at_ fl, e.key = iv k ∧ e.val = .agg #[iv at_, bv fl] ∧ f k = some (at_, fl)) ∧
  (∀ k at_ fl, f k = some (at_, fl) → ∃ e ∈ es, e.key = iv k) ∧
  es.Pairwise (fun x y => x.key ≠ y.key)
structure DiskAt (w : World) (bd bp bm : Nat) (C : Cn) : Prop where
  d : w.heap[bd]? = some (.cells #[.slice (some ⟨bp, 0, none⟩) C.n C.n, .int .i64 C.fuse, .bool C.down, .map (some bm)] 70 (0, 0))
  p : w.heap[bp]? = some (.cells (bvs C.bytes).toArray 81 (0, 0))
  m : ∃ es clock, w.heap[bm]? = some (.map es clock) ∧ FlawsIn es.toList C.flaws
  len : C.bytes.length = 256 * C.n
  two : 2 ≤ C.n
  small : C.n ≤ 4096
section
variable {w w' : World} {bd bp bm B : Nat} {C : Cn}
theorem DiskAt.lt (h : DiskAt w bd bp bm C) : bd < w.heap.size ∧ bp < w.heap.size ∧ bm < w.heap.size := by
  obtain ⟨es, ck, hm, _⟩ := h.m
  exact ⟨(Array.getElem?_eq_some_iff.1 h.d).1, (Array.getElem?_eq_some_iff.1 h.p).1, (Array.getElem?_eq_some_iff.1 hm).1⟩
theorem DiskAt.ne (h : DiskAt w bd bp bm C) : bd ≠ bp ∧ bd ≠ bm ∧ bp ≠ bm := by
  obtain ⟨es, ck, hm, _⟩ := h.m
  refine ⟨?_, ?_, ?_⟩
  · rintro rfl; have := h.d.symm.trans h.p; simp at this
  · rintro rfl; have := h.d.symm.trans hm; simp at this
  · rintro rfl; have := h.p.symm.trans hm; simp at this
/-- a disk stays where its three blocks stay -/
theorem DiskAt.kept (h : DiskAt w bd bp bm C) (h1 : w'.heap[bd]? = w.heap[bd]?) (h2 : w'.heap[bp]? = w.heap[bp]?) (h3 : w'.heap[bm]? = w.heap[bm]?) : DiskAt w' bd bp bm C :=
  ⟨h1.trans h.d, h2.trans h.p, by obtain ⟨es, ck, hm, r⟩ := h.m; exact ⟨es, ck, h3.trans hm, r⟩, h.len, h.two, h.small⟩
theorem DiskAt.below (h : DiskAt w bd bp bm C) (hb : Below B w w') (hB : w.heap.size ≤ B) : DiskAt w' bd bp bm C :=
  h.kept (hb.block _ (Nat.lt_of_lt_of_le h.lt.1 hB)) (hb.block _ (Nat.lt_of_lt_of_le h.lt.2.1 hB)) (hb.block _ (Nat.lt_of_lt_of_le h.lt.2.2 hB))
theorem DiskAt.drew (h : DiskAt w bd bp bm C) : DiskAt w.drew bd bp bm C := ⟨h.d, h.p, h.m, h.len, h.two, h.small⟩
theorem DiskAt.c0 (h : DiskAt w bd bp bm C) : w.cell? ⟨bd, 0, none⟩ = some (.slice (some ⟨bp, 0, none⟩) C.n C.n) := by rw [cell_of_row _ _ _ _ _ _ h.d]; rfl
theorem DiskAt.c1 (h : DiskAt w bd bp bm C) : w.cell? ⟨bd, 1, none⟩ = some (.int .i64 C.fuse) := by rw [cell_of_row _ _ _ _ _ _ h.d]; rfl
theorem DiskAt.c2 (h : DiskAt w bd bp bm C) : w.cell? ⟨bd, 2, none⟩ = some (.bool C.down) := by rw [cell_of_row _ _ _ _ _ _ h.d]; rfl
theorem DiskAt.c3 (h : DiskAt w bd bp bm C) : w.cell? ⟨bd, 3, none⟩ = some (.map (some bm)) := by rw [cell_of_row _ _ _ _ _ _ h.d]; rfl
theorem DiskAt.fz (h : DiskAt w bd bp bm C) (j : Nat) : w.frozen? ⟨bd, j, none⟩ = false := frozen_of_row _ _ _ _ _ h.d
/-- the fuse set -/
theorem DiskAt.setFuse (h : DiskAt w bd bp bm C) (n : Int) : DiskAt (w.setCell ⟨bd, 1, none⟩ (.int .i64 n)) bd bp bm { C with fuse := n } := by
  obtain ⟨hne1, hne2, _⟩ := h.ne
  refine ⟨?_, ?_, ?_, h.len, h.two, h.small⟩
  · rw [heap_setCell_same w bd 1 _ 70 _ h.d]; rfl
  · rw [heap_setCell_other w _ _ _ (by exact hne1.symm)]; exact h.p
  · obtain ⟨es, ck, hm, r⟩ := h.m
    exact ⟨es, ck, by rw [heap_setCell_other w _ _ _ (by exact hne2.symm)]; exact hm, r⟩
theorem DiskAt.setDown (h : DiskAt w bd bp bm C) (b : Bool) : DiskAt (w.setCell ⟨bd, 2, none⟩ (.bool b)) bd bp bm { C with down := b } := by
  obtain ⟨hne1, hne2, _⟩ := h.ne
  refine ⟨?_, ?_, ?_, h.len, h.two, h.small⟩
  · rw [heap_setCell_same w bd 2 _ 70 _ h.d]; rfl
  · rw [heap_setCell_other w _ _ _ (by exact hne1.symm)]; exact h.p
  · obtain ⟨es, ck, hm, r⟩ := h.m
    exact ⟨es, ck, by rw [heap_setCell_other w _ _ _ (by exact hne2.symm)]; exact hm, r⟩
end
/-- what a call does to memory that was there: nothing but at three blocks -/
structure Only3 (a b c : Nat) (w w' : World) : Prop where
  os : w'.os = w.os
  tape : w'.tape = w.tape
  output : w'.output = w.output
  size : w.heap.size ≤ w'.heap.size
  block : ∀ k, k < w.heap.size → k ≠ a → k ≠ b → k ≠ c → w'.heap[k]? = w.heap[k]?
theorem Only3.trans {a b c : Nat} {x y z : World} (h : Only3 a b c x y) (k : Only3 a b c y z) : Only3 a b c x z :=
  ⟨k.os.trans h.os, k.tape.trans h.tape, k.output.trans h.output, Nat.le_trans h.size k.size, fun i hi h1 h2 h3 => (k.block i (Nat.lt_of_lt_of_le hi h.size) h1 h2 h3).trans (h.block i hi h1 h2 h3)⟩
theorem Only3.refl (a b c : Nat) (w : World) : Only3 a b c w w := ⟨rfl, rfl, rfl, Nat.le_refl _, fun _ _ _ _ _ => rfl⟩
theorem Only3.of_below {a b c : Nat} {x y : World} (h : Below x.heap.size x y) : Only3 a b c x y := ⟨h.os, h.tape, h.output, h.size, fun k hk _ _ _ => h.block k hk⟩
theorem Only3.setCell {a b c : Nat} {x w : World} (h : Only3 a b c x w) (ad : Addr) (u : Value) (ha : ad.block = a ∨ ad.block = b ∨ ad.block = c) : Only3 a b c x (w.setCell ad u) :=
  h.trans ⟨rfl, rfl, rfl, by simp [World.setCell], fun k _ h1 h2 h3 => heap_setCell_other w ad k u (by rcases ha with ha | ha | ha <;> rw [ha] <;> assumption)⟩
theorem Only3.drew {a b c : Nat} {x w : World} (h : Only3 a b c x w) : Only3 a b c x w.drew := ⟨h.os, h.tape, h.output, h.size, h.block⟩
/-- page number q -/
def Cn.page (C : Cn) (q : Nat) : List UInt8 := (C.bytes.drop (q * 256)).take 256
theorem Cn.page_length (C : Cn) (hl : C.bytes.length = 256 * C.n) {q : Nat} (hq : q < C.n) : (C.page q).length = 256 := by
  simp only [Cn.page, List.length_take, List.length_drop, hl]; omega

section
variable {ops : Array Oper} {rest : List Oper} {o : Oper} {a : Act} {w : World} {Q : Exit → Act → World → Prop}
/-- a page of the disk loaded by value -/
theorem ld81d {bd bp bm q : Nat} {C : Cn} (hD : DiskAt w bd bp bm C) (hq : q < C.n) (hgd : o.guard = none) (x : Operand) (ho : o.op = .load 81 x) (hx : a.eval x = .pointer (some ⟨bp, q * 256, none⟩))
    (h : wpList Try.prog ops Q rest (a.put o.dst (pg (C.page q))) w) : wpList Try.prog ops Q (o :: rest) a w :=
  ld81 hgd x ho hx hD.p (by rw [hD.len]; omega) h
end
set_option maxHeartbeats 400000 in
theorem none_no {bd bp bm : Nat} {C : Cn} (w : World) (h : DiskAt w bd bp bm C) : Calls Try.prog 32 #[.pointer (some ⟨bd, 0, none⟩)] w fun e w' => e = .returned (.bool false) ∧ w = w' := by
  have h0 := h.c0
  have hnil := fun w => Lib.run_eql_slice_nil (P := Try.prog) w 67 81 (some ⟨bp, 0, none⟩) C.n C.n 0 0 Try.underlying67
  clear h
  go_enter Try.func32, Try.ntmps32
  go_wp2
  go_ret
  exact ⟨rfl, rfl⟩
set_option maxHeartbeats 400000 in
theorem none_nil (w : World) : Calls Try.prog 32 #[.pointer none] w fun e w' => e = .returned (.bool true) ∧ w = w' := by
  go_enter Try.func32, Try.ntmps32
  go_wp2
  go_ret
  exact ⟨rfl, rfl⟩
set_option maxHeartbeats 400000 in
theorem none_zero {bd : Nat} (w : World) (h : w.cell? ⟨bd, 0, none⟩ = some (.slice none 0 0)) : Calls Try.prog 32 #[.pointer (some ⟨bd, 0, none⟩)] w fun e w' => e = .returned (.bool true) ∧ w = w' := by
  have hnil := fun w => Lib.run_eql_slice_nil (P := Try.prog) w 67 81 none 0 0 0 0 Try.underlying67
  go_enter Try.func32, Try.ntmps32
  go_wp2
  go_ret
  exact ⟨rfl, rfl⟩
set_option maxHeartbeats 400000 in
/-- Fail: a fuse below 0 is refused -/
theorem fail_arg {bd bp bm : Nat} {C : Cn} (w : World) (h : DiskAt w bd bp bm C) (n : Int) (hn : n < 0) : Calls Try.prog 14 #[.pointer (some ⟨bd, 0, none⟩), .int .i64 n] w fun e w' => e = .returned (.int .i64 2) ∧ w = w' := by
  go_enter Try.func14, Try.ntmps14
  go_wp2_with fail
  refine (none_no w h).mono ?_
  rintro e w' ⟨rfl, rfl⟩
  go_wp2
  go_ret
  exact ⟨rfl, rfl⟩
set_option maxHeartbeats 400000 in
theorem fail_ok {bd bp bm : Nat} {C : Cn} (w : World) (h : DiskAt w bd bp bm C) (n : Int) (hn : ¬ n < 0) : Calls Try.prog 14 #[.pointer (some ⟨bd, 0, none⟩), .int .i64 n] w fun e w' => e = .returned (.int .i64 0) ∧ DiskAt w' bd bp bm { C with fuse := n } ∧ Only3 bd bp bm w w' := by
  have h1 := h.c1
  have hf := h.fz 1
  go_enter Try.func14, Try.ntmps14
  go_wp2_with fail
  refine (none_no w h).mono ?_
  rintro e w' ⟨rfl, rfl⟩
  go_wp2
  go_ret
  exact ⟨rfl, h.setFuse n, (Only3.refl bd bp bm w).setCell ⟨bd, 1, none⟩ _ (.inl rfl)⟩
set_option maxHeartbeats 400000 in
theorem restart_ok {bd bp bm : Nat} {C : Cn} (w : World) (h : DiskAt w bd bp bm C) : Calls Try.prog 17 #[.pointer (some ⟨bd, 0, none⟩)] w fun e w' => e = .returned (.int .i64 0) ∧ DiskAt w' bd bp bm { C with fuse := -1, down := false } ∧ Only3 bd bp bm w w' := by
  have h1 := h.c1
  have h2 := h.c2
  have hf := h.fz 1
  have hf2 := h.fz 2
  go_enter Try.func17, Try.ntmps17
  go_wp2_with fail
  refine (none_no w h).mono ?_
  rintro e w' ⟨rfl, rfl⟩
  go_wp2
  go_ret
  exact ⟨rfl, (h.setDown false).setFuse (-1), ((Only3.refl bd bp bm w).setCell ⟨bd, 2, none⟩ _ (.inl rfl)).setCell ⟨bd, 1, none⟩ _ (.inl rfl)⟩
set_option maxHeartbeats 400000 in
theorem down_ok {bd bp bm : Nat} {C : Cn} (w : World) (h : DiskAt w bd bp bm C) : Calls Try.prog 15 #[.pointer (some ⟨bd, 0, none⟩)] w fun e w' => e = .returned (.bool C.down) ∧ w = w' := by
  have h2 := h.c2
  go_enter Try.func15, Try.ntmps15
  go_wp2_with fail
  refine (none_no w h).mono ?_
  rintro e w' ⟨rfl, rfl⟩
  go_wp2
  go_ret
  exact ⟨rfl, rfl⟩
/-- the number at a page's beginning, and at its end -/
def headNum (C : Cn) (q : Nat) : Nat := num (((C.page q).drop 0).take 4)
def endNum (C : Cn) (q : Nat) : Nat := num (((C.page q).drop 252).take 4).reverse
/-- the head that counts among the first k pages -/
def newestTo (C : Cn) : Nat → List UInt8 × Nat × Nat
  | 0 => (zp, 0, 0)
  | k + 1 => if (newestTo C k).2.2 < headNum C k ∧ headNum C k = endNum C k then (C.page k, k, headNum C k) else newestTo C k
theorem newestTo_length {w : World} {bd bp bm : Nat} {C : Cn} (h : DiskAt w bd bp bm C) {k : Nat} (hk : k ≤ 2) : ((newestTo C k).1).length = 256 := by
  induction k with
  | zero => exact zp_length
  | succ k ih =>
    simp only [newestTo]
    split
    · exact C.page_length h.len (by have := h.two; omega)
    · exact ih (by omega)
theorem results_page_two {fn : Func} {p t u : Tmp} (h : fn.results = #[.cell p 81, .tmp t, .tmp u]) (tmps : Array Value) (w : World) (g : Nat) {L : List UInt8}
    (hp : tmps.getD p undef = .pointer (some ⟨g, 0, none⟩)) (hg : w.heap[g]? = some (.cells (bvs L).toArray 81 (0, 0))) (hl : L.length = 256) :
    (results fn tmps).run Try.prog w = .ok (.tuple #[pg L, tmps.getD t undef, tmps.getD u undef]) w := by
  have hp' : tmps[p]?.getD undef = .pointer (some ⟨g, 0, none⟩) := by simpa using hp
  have hr := run_loadVar_row (P := Try.prog) w g 81 81 (bvs L).toArray (0, 0) _ hg Try.underlying81 rfl (by rw [size81, List.size_toArray, bvs_length, hl])
  simp [results, h, hp', asAddr, hr, pg]
theorem headNum_lt (C : Cn) (q : Nat) : headNum C q < 4294967296 := Nat.lt_of_lt_of_le (num_lt _) (Nat.le_trans (Nat.pow_le_pow_right (by decide) (by simp; omega : _ ≤ 4)) (by decide))
theorem newestTo_lt (C : Cn) (k : Nat) : (newestTo C k).2.2 < 4294967296 := by
  induction k with
  | zero => simp [newestTo]
  | succ k ih => simp only [newestTo]; split; exact headNum_lt C k; exact ih
set_option maxRecDepth 100000 in
set_option maxHeartbeats 1000000 in
theorem newest_any {bd bp bm : Nat} {C : Cn} (w : World) (h : DiskAt w bd bp bm C) : Calls Try.prog 43 #[.pointer (some ⟨bd, 0, none⟩)] w fun e w' =>
    e = .returned (.tuple #[pg (newestTo C 2).1, iv (newestTo C 2).2.1, iv (newestTo C 2).2.2]) ∧ Below w.heap.size w w' := by
  go_enter Try.func43, Try.ntmps43
  have tok : True := trivial
  go_wp2_with (have _t := tok; refine al81n rfl rfl ?_)
  intro w1 h1 hs1 hb1
  clear tok
  have H1 := Lib.hid h1; clear h1
  go_wp2
  go_loopw [3, 4, 9] (fun pl ch i wr => ∃ k : Nat, k ≤ 2 ∧ i = .int .i64 k ∧ pl = iv (newestTo C k).2.1 ∧ ch = iv (newestTo C k).2.2 ∧ Hid (wr.heap[w.heap.size]? = some (.cells (bvs (newestTo C k).1).toArray 81 (0, 0))) ∧ Below w.heap.size w wr ∧ w.heap.size + 1 ≤ wr.heap.size)
    (fun _ _ i _ => 2 - (intOf i).toNat)
  case atStart => exact ⟨0, by omega, rfl, rfl, rfl, H1, hb1, hs1⟩
  case round =>
    obtain ⟨k, hk, rfl, rfl, rfl, hp, hbr, hsr⟩ := hrel
    have hlt := newestTo_lt C k
    generalize hN : (newestTo C k).2.2 = N at *
    have HN := Lib.hid hN; clear hN
    have hd := h.below hbr (Nat.le_refl _)
    by_cases hk2 : k < 2
    · have hc0 := hd.c0
      have h2n : (k : Int) < (C.n : Int) := by have := h.two; omega
      have hpl := C.page_length h.len (show k < C.n by omega)
      have HPL := Lib.hid hpl; clear hpl
      have hz256 : (bvs zp).toArray.size = 256 := by simp [bvs, zp_length]
      have HZ := Lib.hid hz256; clear hz256
      have tok1 : True := trivial
      have tok2 : True := trivial
      have hkn : k < C.n := by omega
      unfold iv
      go_wp2_with (first | (have _t := tok1; refine ld81d hd hkn rfl _ rfl rfl ?_; clear tok1) | (have _t := tok2; refine al81n rfl rfl ?_))
      intro w2 h2 hs2 hb2
      clear tok2
      have H2 := Lib.hid h2; clear h2
      go_wp2_with (refine st81 rfl _ _ rfl rfl rfl HPL.out H2.out HZ.out ?_)
      intro w3 h3 c3
      have H3 := Lib.hid h3; clear h3 H2
      have d3 : Below wr.heap.size wr w3 := hb2.trans (c3.below (Nat.le_refl _))
      have hs3 : w2.heap.size ≤ w3.heap.size := Nat.le_of_eq c3.size.symm
      have hd3 : DiskAt w3 bd bp bm C := hd.below d3 (Nat.le_refl _)
      have hl4 : (((C.page k).drop 0).take 4).length = 4 := by have := HPL.out; simp; omega
      have hl5 : (((C.page k).drop 252).take 4).length = 4 := by have := HPL.out; simp; omega
      have HL4 := Lib.hid hl4; have HL5 := Lib.hid hl5; clear hl4 hl5
      go_wp2_with fail
      refine (number_rd HL4.out (by decide) _ _ (Rd_sub H3.out 0 4 256 (by rw [HPL.out]; decide))).mono ?_
      rintro e w' ⟨rfl, rfl⟩
      rw [show num (((C.page k).drop 0).take 4) = headNum C k from rfl]
      have hhl := headNum_lt C k
      generalize hH : headNum C k = H at *
      have HH := Lib.hid hH; clear hH
      unfold iv
      go_wp2_with fail
      refine (clone_rd HL5.out (by decide) (by decide) _ _ (Rd_sub H3.out 252 4 4 (by rw [HPL.out]; decide))).mono ?_
      rintro e w5 ⟨v5, rfl, o5, b5⟩
      have hs5 := b5.size
      go_wp2_with fail
      refine (rev4l HL5.out _ o5).mono ?_
      rintro e w6 ⟨rfl, o6, b6⟩
      have hs6 := b6.size
      clear o5
      have hsz3 : wr.heap.size + 1 ≤ w3.heap.size := by omega
      have d6 : Below wr.heap.size wr w6 := d3.trans ((b5.mono (by omega)).trans (b6.mono (by omega)))
      have H6 := Lib.hid ((b6.block wr.heap.size (by omega)).trans ((b5.block wr.heap.size (by omega)).trans H3.out))
      have P6 := Lib.hid ((d6.block w.heap.size (by omega)).trans hp.out)
      have hs6' : wr.heap.size + 1 ≤ w6.heap.size := by omega
      have hb6 : Below w.heap.size w w6 := hbr.trans (d6.mono (by omega))
      have hlast : newestTo C (k + 1) = if (newestTo C k).2.2 < headNum C k ∧ headNum C k = endNum C k then (C.page k, k, headNum C k) else newestTo C k := rfl
      rw [HN.out, HH.out] at hlast
      have HLast := Lib.hid hlast; clear hlast
      by_cases hNH : N < H
      · go_wp2_with fail
        refine (number_rd (by rw [List.length_reverse, HL5.out]) (by decide) _ _ (Rd_own o6)).mono ?_
        rintro e w' ⟨rfl, rfl⟩
        rw [show num (((C.page k).drop 252).take 4).reverse = endNum C k from rfl]
        generalize hE : endNum C k = E at *
        have HE := Lib.hid hE; clear hE
        unfold iv
        by_cases hHE : H = E
        · have hb : ((H : Int) == (E : Int)) = true := by rw [hHE]; exact beq_self_eq_true _
          have tok3 : True := trivial
          have hz256' : (bvs (newestTo C k).1).toArray.size = 256 := by
            simp only [List.size_toArray, bvs_length]
            exact newestTo_length h hk
          have HZ' := Lib.hid hz256'; clear hz256'
          have HHE := Lib.hid hHE; clear hHE
          go_wp2_with (first | (have _t := tok3; refine ld81v rfl _ rfl rfl H6.out HPL.out ?_; clear tok3) | (refine st81 rfl _ _ rfl rfl rfl HPL.out P6.out HZ'.out ?_))
          intro w7 h7 c7
          have H7 := Lib.hid h7; clear h7
          have hs7 : w6.heap.size ≤ w7.heap.size := Nat.le_of_eq c7.size.symm
          have hb7 : Below w.heap.size w w7 := hb6.trans (c7.below (Nat.le_refl _))
          go_wp2
          go_roundw
          case rel =>
            have e1 : newestTo C (k + 1) = (C.page k, k, H) := by rw [HLast.out, if_pos ⟨hNH, HHE.out⟩]
            refine ⟨k + 1, by omega, by go_num, ?_, ?_, ?_, hb7, by omega⟩
            · rw [e1]
            · rw [e1]
            · rw [e1]; exact H7
          case measure => simp [intOf]; omega
        · have hb : ((H : Int) == (E : Int)) = false := by rw [beq_eq_false_iff_ne]; omega
          have HHE := Lib.hid hHE; clear hHE
          go_wp2
          go_roundw
          case rel =>
            have e1 : newestTo C (k + 1) = newestTo C k := by rw [HLast.out, if_neg (fun x => HHE.out x.2)]
            refine ⟨k + 1, by omega, by go_num, ?_, ?_, ?_, hb6, by omega⟩
            · rw [e1]
            · rw [e1, HN.out]
            · rw [e1]; exact P6
          case measure => simp [intOf]; omega
      · go_wp2
        go_roundw
        case rel =>
          have e1 : newestTo C (k + 1) = newestTo C k := by rw [HLast.out, if_neg (fun x => hNH x.1)]
          refine ⟨k + 1, by omega, by go_num, ?_, ?_, ?_, hb6, by omega⟩
          · rw [e1]
          · rw [e1, HN.out]
          · rw [e1]; exact P6
        case measure => simp [intOf]; omega
    · obtain rfl : k = 2 := by omega
      have hl2 : ((newestTo C 2).1).length = 256 := by
        exact newestTo_length h (Nat.le_refl 2)
      have HL2 := Lib.hid hl2; clear hl2
      have hz' : (bvs (newestTo C 2).1).toArray.size = 256 := by simp only [List.size_toArray, bvs_length]; exact HL2.out
      have HZ' := Lib.hid hz'; clear hz'
      have tok3 : True := trivial
      unfold iv
      go_wp2_with (first | (have _t := tok3; refine ld81v rfl _ rfl rfl hp.out HL2.out ?_; clear tok3) | (refine st81 rfl _ _ rfl rfl rfl HL2.out hp.out HZ'.out ?_))
      intro w7 h7 c7
      have H7 := Lib.hid h7; clear h7
      have hb7 : Below w.heap.size w w7 := hbr.trans (c7.below (Nat.le_refl _))
      go_wp2
      refine bodyPost_ret (v := .tuple #[pg (newestTo C 2).1, iv (newestTo C 2).2.1, iv (newestTo C 2).2.2]) ?_ rfl ⟨rfl, hb7⟩
      have hn := HN.out
      subst hn
      exact results_page_two (fn := Try.f43) rfl _ w7 w.heap.size rfl H7.out HL2.out
end Go.Proofs.Ytcgapfmdpchemaa
/- The walk of read. -/
namespace Go.Proofs.Ytcgapfmdpchemaa
open Go.RowKit
def wholeB (L : List UInt8) : Bool := sumB L == L.drop 248
def rooms (C : Cn) (ns : List Nat) : List UInt8 := ns.flatMap fun q => (C.page q).take 248
theorem rooms_length (C : Cn) (hl : C.bytes.length = 256 * C.n) (ns : List Nat) (h : ∀ q ∈ ns, q < C.n) : (rooms C ns).length = 248 * ns.length := by
  induction ns with
  | nil => rfl
  | cons q ns ih =>
    have hq := C.page_length hl (h q (by simp))
    have := ih fun q hq => h q (by simp [hq])
    rw [show rooms C (q :: ns) = (C.page q).take 248 ++ rooms C ns from rfl, List.length_append, List.length_take, hq, this, List.length_cons]
    omega
theorem rooms_snoc (C : Cn) (ns : List Nat) (k : Nat) (h : k < ns.length) : rooms C (ns.take (k + 1)) = rooms C (ns.take k) ++ (C.page ns[k]).take 248 := by
  unfold rooms
  rw [List.take_succ_eq_append_getElem h, List.flatMap_append, List.flatMap_cons, List.flatMap_nil, List.append_nil]
def ReadPost (C : Cn) (ns : List Nat) (size : Nat) (w : World) (e : Ending) (w' : World) : Prop :=
  Below w.heap.size w w' ∧
  (((∀ q ∈ ns, wholeB (C.page q) = true) ∧ ∃ v, e = .returned (.tuple #[v, .bool true]) ∧ Rd w' v size (bvs ((rooms C ns).take size))) ∨
   ((∃ q ∈ ns, wholeB (C.page q) = false) ∧ e = .returned (.tuple #[.slice none 0 0, .bool false])))
set_option maxRecDepth 100000 in
set_option maxHeartbeats 1000000 in
theorem read_any {bd bp bm : Nat} {C : Cn} (w : World) (h : DiskAt w bd bp bm C) (ns : List Nat) (hns : ∀ q ∈ ns, q < C.n) (hn : ns.length ≤ 1000) (size : Nat) (hsz : size ≤ 248 * ns.length) (v : Value)
    (hv : Rd w v ns.length (ivs ns)) :
    Calls Try.prog 44 #[.pointer (some ⟨bd, 0, none⟩), .int .i64 size, v] w (ReadPost C ns size w) := by
  have hv0 := hv
  obtain ⟨a, c, rfl, _, _, _⟩ := hv0
  go_enter Try.func44, Try.ntmps44
  go_wp2
  go_loopw [8, 13] (fun b i wr => ∃ k : Nat, k ≤ ns.length ∧ i = .int .i64 k ∧ Hid (∀ q ∈ ns.take k, wholeB (C.page q) = true) ∧ Below w.heap.size w wr ∧
      wr.ownsRow w.heap.size 5 1 b (rooms C (ns.take k)).length (bvs (rooms C (ns.take k))))
    (fun _ i _ => ns.length - (intOf i).toNat)
  case atStart => exact ⟨0, by omega, rfl, by intro q hq; simp at hq, Below.refl _ _, World.ownsRow_nil _ _ _ _⟩
  case round =>
    obtain ⟨k, hk, rfl, hwh, hbr, hown⟩ := hrel
    have hd := h.below hbr (Nat.le_refl _)
    have hvr := hv.below hbr (Nat.le_refl _)
    by_cases hlt : k < ns.length
    · obtain ⟨a', c', he, _, _, hcells⟩ := hvr
      cases he
      obtain ⟨b, off, rfl, hcell⟩ := hcells k (by rw [ivs_length]; exact hlt)
      have hcell' : wr.cell? ⟨b, off + k, none⟩ = some (.int .i64 ns[k]) := by rw [hcell]; simp [ivs, iv]
      clear hcell hcells
      have hq := hns _ (List.getElem_mem hlt)
      have hsn := rooms_snoc C ns k hlt
      have htk : ∀ q, q ∈ ns.take (k + 1) → q ∈ ns.take k ∨ q = ns[k] := fun q hq => by
        rw [List.take_succ_eq_append_getElem hlt, List.mem_append, List.mem_singleton] at hq; exact hq
      have hmem := List.getElem_mem hlt
      generalize hQ : ns[k] = q at *
      have HTK := Lib.hid htk; have HSN := Lib.hid hsn; have HQ := Lib.hid hQ; have HM := Lib.hid hmem; clear htk hsn hQ hmem
      have hc0 := hd.c0
      have hqi : (q : Int) < (C.n : Int) := by omega
      have hpl := C.page_length h.len hq
      have HPL := Lib.hid hpl; clear hpl
      have hrl := rooms_length C h.len (ns.take k) fun q hq => hns q (List.mem_of_mem_take hq)
      have HRL := Lib.hid hrl; clear hrl
      go_wp2_with (refine ld81d hd hq rfl _ rfl rfl ?_)
      refine (whole_any _ HPL.out _).mono ?_
      rintro e w1 ⟨rfl, b1⟩
      rw [show (sumB (C.page q) == (C.page q).drop 248) = wholeB (C.page q) from rfl]
      have hd1 := hd.below b1 (Nat.le_refl _)
      have hb1 : Below w.heap.size w w1 := hbr.trans (b1.mono hbr.size)
      have hown1 := own_below hown b1 (Nat.le_refl _)
      have hc01 := hd1.c0
      clear hc0
      cases hW : wholeB (C.page q)
      · go_wp2
        go_ret2
        exact ⟨hb1, .inr ⟨⟨q, HM.out, hW⟩, rfl⟩⟩
      · have HW := Lib.hid hW; clear hW
        have hsub : Rd w1 (.slice (some ⟨bp, q * 256, none⟩) 248 256) 248 (bvs ((C.page q).take 248)) := by
          have := Rd_sub hd1.p (q * 256) 248 256 (by rw [hd1.len]; omega)
          rwa [show (C.page q).take 248 = (C.bytes.drop (q * 256)).take 248 by rw [Cn.page, List.take_take]; rfl]
        have hl1 : (bvs ((C.page q).take 248)).length = 248 * 1 := by rw [bvs_length, List.length_take, HPL.out]; rfl
        have hl2 : (rooms C (ns.take k)).length + 248 ≤ 1000000000 := by rw [HRL.out]; have := List.length_take_le k ns; omega
        have HL1 := Lib.hid hl1; clear hl1
        go_wp2_with (at_builtin; refine app_rd el97 rfl _ _ rfl rfl hown1 rfl hsub HL1.out (oneCell_bvs _) hl2 hb1.size ?_)
        intro v2 w2 o2 _ b2
        go_wp2
        go_roundw
        case rel =>
          refine ⟨k + 1, by omega, by go_num, ?_, hb1.trans b2, ?_⟩
          · intro x hx
            rcases HTK.out x hx with hx | rfl
            · exact hwh.out x hx
            · exact HW.out
          · have e1 := HSN.out
            rw [e1, List.length_append, bvs_append, List.length_take, HPL.out]
            exact o2
        case measure => simp [intOf]; omega
    · obtain rfl : k = ns.length := by omega
      rw [List.take_length] at hwh hown
      have hrl := rooms_length C h.len ns hns
      rcases hown.2 with ⟨rfl, h0⟩ | ⟨g, cap, cur, rfl, hg1, hg2, hg3, hg4, hg5, hg6⟩
      · have hz : size = 0 := by omega
        subst hz
        clear hrl h0
        go_wp2
        go_ret2
        exact ⟨hbr, .inl ⟨hwh.out, _, rfl, ⟨_, _, rfl, Nat.le_refl _, by decide, fun j hj => by simp [bvs] at hj⟩⟩⟩
      · have hcap : size ≤ cap := by omega
        have hcap' : (size : Int) ≤ (cap : Int) := by omega
        have hcm : cap ≤ 9223372036854775807 := by unfold maxLen at hg4; omega
        have HR := Lib.hid hrl; clear hrl
        have HO := Lib.hid hown; clear hown
        have H2 := Lib.hid hg2; have H5 := Lib.hid hg5; have H6 := Lib.hid hg6; clear hg2 hg5 hg6
        clear hg3
        go_wp2
        go_ret2
        refine ⟨hbr, .inl ⟨hwh.out, _, rfl, ?_⟩⟩
        have := (Rd_own HO.out).front size cap hcap hg4
        rwa [show (bvs (rooms C ns)).take size = bvs ((rooms C ns).take size) from by simp [bvs]] at this
end Go.Proofs.Ytcgapfmdpchemaa
