/- The walk of Damage. -/
import Derived.Test.YtcgapfmdpchemaaMap
namespace Go.Proofs.Ytcgapfmdpchemaa
open Go.RowKit
theorem bits_xor_u8 (a b : UInt8) : bits .xor .u8 (a.toNat : Int) (b.toNat : Int) = ((a ^^^ b).toNat : Int) := by
  have ha := a.toNat_lt
  have hb := b.toNat_lt
  have hx : a.toNat ^^^ b.toNat < 2 ^ 8 := Nat.xor_lt_two_pow ha hb
  have h1 : (BitVec.ofInt 8 (a.toNat : Int)).toNat = a.toNat := by
    rw [BitVec.ofInt_natCast, BitVec.toNat_ofNat]; exact Nat.mod_eq_of_lt (by omega)
  have h2 : (BitVec.ofInt 8 (b.toNat : Int)).toNat = b.toNat := by
    rw [BitVec.ofInt_natCast, BitVec.toNat_ofNat]; exact Nat.mod_eq_of_lt (by omega)
  show IntKind.u8.wrap ((BitVec.ofInt 8 (a.toNat : Int) ^^^ BitVec.ofInt 8 (b.toNat : Int)).toNat : Int) = _
  rw [BitVec.toNat_xor, h1, h2, IntKind.wrap_u8, UInt8.toNat_xor]
  omega
def badB (n : Nat) (x y : Int) (f : UInt8) : Prop := x < 2 ∨ (n : Int) ≤ x ∨ y < 0 ∨ 256 ≤ y ∨ f = 0
/-- the disk with bits of a byte changed -/
def Cn.hurt (C : Cn) (q a : Nat) (f : UInt8) : Cn :=
  { C with bytes := C.bytes.set (q * 256 + a) (C.bytes.getD (q * 256 + a) 0 ^^^ f),
           flaws := if ((C.flaws q).getD (0, 0)).2 = f then healF C.flaws q else hurtF C.flaws q a (((C.flaws q).getD (0, 0)).2 ^^^ f) }
theorem heal_hurt (g : Nat → Option (Nat × UInt8)) (q a : Nat) (f : UInt8) : healF (hurtF g q a f) q = healF g q := by
  funext k
  unfold healF hurtF
  by_cases h : k = q <;> simp [h]
set_option maxHeartbeats 400000 in
theorem damage_bad {bd bp bm : Nat} {C : Cn} (w : World) (h : DiskAt w bd bp bm C) (x y : Int) (f : UInt8) (hb : badB C.n x y f) :
    Calls Try.prog 19 #[.pointer (some ⟨bd, 0, none⟩), .int .i64 x, .int .i64 y, bv f] w fun e w' => e = .returned (.int .i64 2) ∧ w = w' := by
  have c0 := h.c0
  have hn := none_no w h
  unfold bv
  by_cases h1 : x < 2
  · go_enter Try.func19, Try.ntmps19
    go_wp2_with fail
    refine hn.mono ?_
    rintro e w' ⟨rfl, rfl⟩
    go_wp2
    go_ret
    exact ⟨rfl, rfl⟩
  · by_cases h2 : (C.n : Int) ≤ x
    · go_enter Try.func19, Try.ntmps19
      go_wp2_with fail
      refine hn.mono ?_
      rintro e w' ⟨rfl, rfl⟩
      go_wp2
      go_ret
      exact ⟨rfl, rfl⟩
    · by_cases h3 : y < 0
      · go_enter Try.func19, Try.ntmps19
        go_wp2_with fail
        refine hn.mono ?_
        rintro e w' ⟨rfl, rfl⟩
        go_wp2
        go_ret
        exact ⟨rfl, rfl⟩
      · by_cases h4 : 256 ≤ y
        · go_enter Try.func19, Try.ntmps19
          go_wp2_with fail
          refine hn.mono ?_
          rintro e w' ⟨rfl, rfl⟩
          go_wp2
          go_ret
          exact ⟨rfl, rfl⟩
        · have h5 : (f.toNat : Int) = 0 := by
            rcases hb with h | h | h | h | rfl
            · exact absurd h h1
            · exact absurd h h2
            · exact absurd h h3
            · exact absurd h h4
            · rfl
          rw [h5]
          go_enter Try.func19, Try.ntmps19
          go_wp2_with fail
          refine hn.mono ?_
          rintro e w' ⟨rfl, rfl⟩
          go_wp2
          go_ret
          exact ⟨rfl, rfl⟩
set_option maxRecDepth 1000000 in
set_option maxHeartbeats 1000000 in
theorem damage_ok {bd bp bm : Nat} {C : Cn} (w : World) (h : DiskAt w bd bp bm C) (q a : Nat) (hq2 : 2 ≤ q) (hq : q < C.n) (ha : a < 256) (f : UInt8) (hf : f ≠ 0) :
    Calls Try.prog 19 #[.pointer (some ⟨bd, 0, none⟩), .int .i64 q, .int .i64 a, bv f] w fun e w' => Only3 bd bp bm w w' ∧
      ((∃ a' f', C.flaws q = some (a', f') ∧ a' ≠ a ∧ e = .returned (.int .i64 8) ∧ DiskAt w' bd bp bm C) ∨
       ((∀ a' f', C.flaws q = some (a', f') → a' = a) ∧ e = .returned (.int .i64 0) ∧ DiskAt w' bd bp bm (C.hurt q a f))) := by
  have c0 := h.c0
  have c3 := h.c3
  have hn := none_no w h
  have hlk := run_flaw h q
  unfold iv at hlk
  have h1 : ¬ (q : Int) < 2 := by omega
  have h2 : ¬ (C.n : Int) ≤ (q : Int) := by omega
  have h3 : ¬ (a : Int) < 0 := by omega
  have h4 : ¬ (256 : Int) ≤ (a : Int) := by omega
  have h5 : ¬ (f.toNat : Int) = 0 := by
    intro h0
    have h6 : f.toNat = 0 := by omega
    exact hf (UInt8.toNat_inj.1 h6)
  have h5b : ((f.toNat : Int) == 0) = false := by simpa using h5
  by_cases htw : ∃ a' f', C.flaws q = some (a', f') ∧ a' ≠ a
  · obtain ⟨a', f', hfl, hne⟩ := htw
    rw [hfl] at hlk
    simp only [Option.getD_some, Option.isSome_some] at hlk
    have hnei : ((a' : Int) != (a : Int)) = true := by simpa using (show ¬ (a' : Int) = (a : Int) by omega)
    have HFL := Lib.hid hfl; clear hfl
    unfold bv at hlk ⊢
    go_enter Try.func19, Try.ntmps19
    go_wp2_with fail
    refine hn.mono ?_
    rintro e w' ⟨rfl, rfl⟩
    go_wp2
    go_ret
    exact ⟨.of_below ((Below.refl _ w).alloc (Nat.le_refl _) _), .inl ⟨a', f', HFL.out, hne, rfl, h.below ((Below.refl _ w).alloc (Nat.le_refl _) _) (Nat.le_refl _)⟩⟩
  · have hall : ∀ a' f', C.flaws q = some (a', f') → a' = a := fun a' f' hfl => Classical.byContradiction fun hne => htw ⟨a', f', hfl, hne⟩
    have hprc : ((C.flaws q).isSome = false) ∨ ((C.flaws q).isSome = true ∧ ((C.flaws q).getD (0, 0)).1 = a) := by
      cases hfl : C.flaws q with
      | none => exact .inl rfl
      | some x => exact .inr ⟨rfl, hall x.1 x.2 hfl⟩
    have hres : C.hurt q a f = { C with bytes := C.bytes.set (q * 256 + a) (C.bytes.getD (q * 256 + a) 0 ^^^ f), flaws := if ((C.flaws q).getD (0, 0)).2 = f then healF C.flaws q else hurtF C.flaws q a (((C.flaws q).getD (0, 0)).2 ^^^ f) } := rfl
    generalize hfl : (C.flaws q).getD (0, 0) = fl at *
    generalize hso : (C.flaws q).isSome = so at *
    obtain ⟨a', f'⟩ := fl
    have HFL := Lib.hid hfl; have HSO := Lib.hid hso; have HRES := Lib.hid hres; have HALL := Lib.hid hall; clear hfl hso hres htw hall
    have hlen := h.len
    have hja : q * 256 + a < C.bytes.length := by omega
    have hg0 := heap_alloc_new w (.cells #[.int .i64 (a' : Int), .int .u8 (f'.toNat : Int)] 108)
    have b0 : Below w.heap.size w (w.alloc (.cells #[.int .i64 (a' : Int), .int .u8 (f'.toNat : Int)] 108)) := (Below.refl _ w).alloc (Nat.le_refl _) _
    have h0 := h.below b0 (Nat.le_refl _)
    have hvar : ∀ W : World, W.heap[w.heap.size]? = some (.cells #[.int .i64 (a' : Int), .int .u8 (f'.toNat : Int)] 108 (0, 0)) → W.cell? ⟨w.heap.size, 1, none⟩ = some (.int .u8 (f'.toNat : Int)) := fun W hW => by rw [cell_of_row _ _ _ _ _ _ hW]; rfl
    have HVAR := Lib.hid hvar; clear hvar
    have hcb : ∀ W : World, DiskAt W bd bp bm C → W.cell? ⟨bp, q * 256 + a, none⟩ = some (.int .u8 ((C.bytes.getD (q * 256 + a) 0).toNat : Int)) ∧ W.frozen? ⟨bp, q * 256 + a, none⟩ = false := fun W hW => by
      refine ⟨?_, frozen_of_row _ _ _ _ _ hW.p⟩
      rw [cell_of_row _ _ _ _ _ _ hW.p]
      simp [bvs, hja, bv]
    have HCB := Lib.hid hcb; clear hcb
    have hxor := bits_xor_u8 (C.bytes.getD (q * 256 + a) 0) f
    generalize hB : C.bytes.getD (q * 256 + a) 0 = B at *
    have hxor2 := bits_xor_u8 f' f
    have HLEN := Lib.hid hlen; clear hlen hB
    unfold bv at hlk ⊢
    have hqi : (q : Int) < (C.n : Int) := by omega
    have hai : (a : Int) < 256 := by omega
    have done : ∀ W : World, DiskAt W bd bp bm { C with bytes := C.bytes.set (q * 256 + a) (B ^^^ f), flaws := hurtF C.flaws q a (f' ^^^ f) } → Only3 bd bp bm w W → f' ≠ f → DiskAt W bd bp bm (C.hurt q a f) := fun W hW hO hne => by
      rw [HRES.out]; simp only [hne, if_false]; exact hW
    have DONE := Lib.hid done; clear done
    rcases hprc with rfl | ⟨rfl, hfa⟩
    · go_enter Try.func19, Try.ntmps19
      go_wp2_with fail
      refine hn.mono ?_
      rintro e w' ⟨rfl, rfl⟩
      go_wp2
      have o0 : Only3 bd bp bm w (w.alloc (.cells #[.int .i64 (a' : Int), .int .u8 (f'.toNat : Int)] 108)) := .of_below b0
      generalize hW0 : w.alloc (.cells #[.int .i64 (a' : Int), .int .u8 (f'.toNat : Int)] 108) = w0 at *
      obtain ⟨cb, fb⟩ := HCB.out w0 h0
      have cv := HVAR.out w0 hg0
      have c00 := h0.c0
      have h1 : DiskAt (w0.setCell ⟨bp, q * 256 + a, none⟩ (.int .u8 ((B.toNat ^^^ f.toNat : Nat) : Int))).drew bd bp bm { C with bytes := C.bytes.set (q * 256 + a) (B ^^^ f) } := by
        have := (h0.setByte (q * 256 + a) (B ^^^ f)).drew
        rwa [show bv (B ^^^ f) = .int .u8 ((B.toNat ^^^ f.toNat : Nat) : Int) by simp [bv]] at this
      have o1 := (o0.setCell ⟨bp, q * 256 + a, none⟩ (.int .u8 ((B.toNat ^^^ f.toNat : Nat) : Int)) (.inr (.inl rfl))).drew
      have hv1 : (w0.setCell ⟨bp, q * 256 + a, none⟩ (.int .u8 ((B.toNat ^^^ f.toNat : Nat) : Int))).drew.heap[w.heap.size]? = some (.cells #[.int .i64 (a' : Int), .int .u8 (f'.toNat : Int)] 108 (0, 0)) :=
        (heap_setCell_other w0 ⟨bp, q * 256 + a, none⟩ w.heap.size _ (by show w.heap.size ≠ bp; have := h.lt; omega)).trans hg0
      have HG := Lib.hid hg0; have HW0 := Lib.hid hW0; have H1 := Lib.hid h1; have HV1 := Lib.hid hv1
      clear hg0 hW0 c0 c3 hlk h0 h1 hv1
      go_region
      go_wp2
      generalize (w0.setCell ⟨bp, q * 256 + a, none⟩ (.int .u8 ((B.toNat ^^^ f.toNat : Nat) : Int))).drew = w1 at *
      clear cb fb cv c00
      obtain ⟨w2, hupd, hd2, ho2⟩ := run_hurt H1.out.drew q a (f' ^^^ f)
      have hupd' : (Instr.mapUpdate 68 (.map (some bm)) (.int .i64 (q : Int)) (.agg #[.int .i64 (a : Int), .int .u8 ((f'.toNat ^^^ f.toNat : Nat) : Int)])).run Try.prog w1.drew = .ok () w2 := by
        rwa [show bv (f' ^^^ f) = .int .u8 ((f'.toNat ^^^ f.toNat : Nat) : Int) by simp [bv]] at hupd
      have cv1 := HVAR.out w1 HV1.out
      have c13 := H1.out.c3
      have hlt := h.lt
      have hv2 := (ho2.block w.heap.size (by omega)).trans HV1.out
      have cv2 := HVAR.out w2 hv2
      have c23 := hd2.c3
      have o2 := o1.drew.trans (Only3.ofOnly ho2 (.inr (.inr rfl)))
      have HD2 := Lib.hid hd2; have HV2 := Lib.hid hv2
      clear hupd hd2 hv2 ho2
      go_region
      by_cases hff : f' = f
      · have hffb : ((f'.toNat : Int) == (f.toNat : Int)) = true := by rw [hff]; simp
        have HFF := Lib.hid hff; clear hff
        go_wp2_with (refine del_flaw HD2.out q rfl _ _ rfl rfl rfl ?_)
        intro w3 hd3 ho3
        go_wp2
        go_ret
        refine ⟨o2.trans (Only3.ofOnly ho3 (.inr (.inr rfl))), .inr ⟨HALL.out, rfl, ?_⟩⟩
        rw [HRES.out]
        simp only [HFF.out, if_true]
        rw [← heal_hurt C.flaws q a (f' ^^^ f)]
        exact hd3
      · have hffb : ((f'.toNat : Int) == (f.toNat : Int)) = false := by
          rw [beq_eq_false_iff_ne]
          intro he
          exact hff (UInt8.toNat_inj.1 (by omega))
        have HFF := Lib.hid hff; clear hff
        go_wp2
        go_ret
        exact ⟨o2, .inr ⟨HALL.out, rfl, DONE.out _ HD2.out o2 HFF.out⟩⟩
    · have hfai : ((a' : Int) != (a : Int)) = false := by rw [bne_eq_false_iff_eq]; have : a' = a := hfa; omega
      clear hfa
      go_enter Try.func19, Try.ntmps19
      go_wp2_with fail
      refine hn.mono ?_
      rintro e w' ⟨rfl, rfl⟩
      go_wp2
      have o0 : Only3 bd bp bm w (w.alloc (.cells #[.int .i64 (a' : Int), .int .u8 (f'.toNat : Int)] 108)) := .of_below b0
      generalize hW0 : w.alloc (.cells #[.int .i64 (a' : Int), .int .u8 (f'.toNat : Int)] 108) = w0 at *
      obtain ⟨cb, fb⟩ := HCB.out w0 h0
      have cv := HVAR.out w0 hg0
      have c00 := h0.c0
      have h1 : DiskAt (w0.setCell ⟨bp, q * 256 + a, none⟩ (.int .u8 ((B.toNat ^^^ f.toNat : Nat) : Int))).drew bd bp bm { C with bytes := C.bytes.set (q * 256 + a) (B ^^^ f) } := by
        have := (h0.setByte (q * 256 + a) (B ^^^ f)).drew
        rwa [show bv (B ^^^ f) = .int .u8 ((B.toNat ^^^ f.toNat : Nat) : Int) by simp [bv]] at this
      have o1 := (o0.setCell ⟨bp, q * 256 + a, none⟩ (.int .u8 ((B.toNat ^^^ f.toNat : Nat) : Int)) (.inr (.inl rfl))).drew
      have hv1 : (w0.setCell ⟨bp, q * 256 + a, none⟩ (.int .u8 ((B.toNat ^^^ f.toNat : Nat) : Int))).drew.heap[w.heap.size]? = some (.cells #[.int .i64 (a' : Int), .int .u8 (f'.toNat : Int)] 108 (0, 0)) :=
        (heap_setCell_other w0 ⟨bp, q * 256 + a, none⟩ w.heap.size _ (by show w.heap.size ≠ bp; have := h.lt; omega)).trans hg0
      have HG := Lib.hid hg0; have HW0 := Lib.hid hW0; have H1 := Lib.hid h1; have HV1 := Lib.hid hv1
      clear hg0 hW0 c0 c3 hlk h0 h1 hv1
      go_region
      go_wp2
      generalize (w0.setCell ⟨bp, q * 256 + a, none⟩ (.int .u8 ((B.toNat ^^^ f.toNat : Nat) : Int))).drew = w1 at *
      clear cb fb cv c00
      obtain ⟨w2, hupd, hd2, ho2⟩ := run_hurt H1.out.drew q a (f' ^^^ f)
      have hupd' : (Instr.mapUpdate 68 (.map (some bm)) (.int .i64 (q : Int)) (.agg #[.int .i64 (a : Int), .int .u8 ((f'.toNat ^^^ f.toNat : Nat) : Int)])).run Try.prog w1.drew = .ok () w2 := by
        rwa [show bv (f' ^^^ f) = .int .u8 ((f'.toNat ^^^ f.toNat : Nat) : Int) by simp [bv]] at hupd
      have cv1 := HVAR.out w1 HV1.out
      have c13 := H1.out.c3
      have hlt := h.lt
      have hv2 := (ho2.block w.heap.size (by omega)).trans HV1.out
      have cv2 := HVAR.out w2 hv2
      have c23 := hd2.c3
      have o2 := o1.drew.trans (Only3.ofOnly ho2 (.inr (.inr rfl)))
      have HD2 := Lib.hid hd2; have HV2 := Lib.hid hv2
      clear hupd hd2 hv2 ho2
      go_region
      by_cases hff : f' = f
      · have hffb : ((f'.toNat : Int) == (f.toNat : Int)) = true := by rw [hff]; simp
        have HFF := Lib.hid hff; clear hff
        go_wp2_with (refine del_flaw HD2.out q rfl _ _ rfl rfl rfl ?_)
        intro w3 hd3 ho3
        go_wp2
        go_ret
        refine ⟨o2.trans (Only3.ofOnly ho3 (.inr (.inr rfl))), .inr ⟨HALL.out, rfl, ?_⟩⟩
        rw [HRES.out]
        simp only [HFF.out, if_true]
        rw [← heal_hurt C.flaws q a (f' ^^^ f)]
        exact hd3
      · have hffb : ((f'.toNat : Int) == (f.toNat : Int)) = false := by
          rw [beq_eq_false_iff_ne]
          intro he
          exact hff (UInt8.toNat_inj.1 (by omega))
        have HFF := Lib.hid hff; clear hff
        go_wp2
        go_ret
        exact ⟨o2, .inr ⟨HALL.out, rfl, DONE.out _ HD2.out o2 HFF.out⟩⟩
end Go.Proofs.Ytcgapfmdpchemaa
