/- The walk of List. -/
import Derived.Test.YtcgapfmdpchemaaFree
namespace Go.Proofs.Ytcgapfmdpchemaa
open Go.RowKit
theorem flat_drop (ps : List (DE × Value)) (i : Nat) : (ps.flatMap peCells).drop (i * 3) = (ps.drop i).flatMap peCells := by
  induction i generalizing ps with
  | zero => simp
  | succ i ih =>
    cases ps with
    | nil => simp
    | cons p ps =>
      rw [List.drop_succ_cons, ← ih, List.flatMap_cons, Nat.add_mul, Nat.one_mul, Nat.add_comm, ← List.drop_drop]
      congr 1
theorem EntRd.suffix {w : World} {A : Option Addr} {n c : Nat} {ps : List (DE × Value)} (h : EntRd w (.slice A n c) ps) (i r q : Nat) (hn : n = i + r) (hc : c = i + q) : EntRd w (.slice (cut A i c 3) r q) (ps.drop i) ∧ (ps.drop i).length = r := by
  obtain ⟨hr, ha⟩ := h
  have hr0 := hr
  obtain ⟨A', c', he, hnc, hcm, _⟩ := hr0
  cases he
  have hl : (ps.drop i).length = r := by rw [List.length_drop]; omega
  refine ⟨⟨?_, fun p hp => ha p (List.mem_of_mem_drop hp)⟩, hl⟩
  have := Rd_cut hr (s := 3) (peCells_length ps) i r c q (by omega) hc (by omega) (Nat.le_refl _)
  rw [flat_drop, List.take_of_length_le (by rw [peCells_length, hl]; exact Nat.le_refl _)] at this
  rwa [hl]
def strs (l : List DE) : List Value := l.map fun e => .string e.name
def argL (most : Int) : Nat := if most < 0 ∨ 1000 < most then 2 else 0
def listR (C : Cn) (index : List Nat) (es : List DE) (from_ : ByteArray) (most : Int) : List DE × Nat :=
  if stateB C index (argL most) ≠ 0 then ([], stateB C index (argL most)) else ((es.drop (atB es from_)).take most.toNat, 0)
set_option maxRecDepth 1000000 in
set_option maxHeartbeats 1000000 in
theorem list_any {bs bd bp bm : Nat} {C : Cn} {size : Nat} {index : List Nat} {es : List DE} (w : World) (hs : StoreAt w bs bd) (h : DiskAt w bd bp bm C) (hd : Dir C size index es) (from_ : ByteArray) (most : Int) :
    Calls Try.prog 28 #[.pointer (some ⟨bs, 0, none⟩), .string from_, .int .i64 most] w fun e w' => ∃ v, e = .returned (.tuple #[v, iv (listR C index es from_ most).2]) ∧ Below w.heap.size w w' ∧ w'.ownsRow w.heap.size 9 1 v (listR C index es from_ most).1.length (strs (listR C index es from_ most).1) := by
  by_cases harg : argL most = 0
  · obtain ⟨m, rfl, hm⟩ : ∃ m : Nat, most = m ∧ m ≤ 1000 := by
      unfold argL at harg
      by_cases hc : most < 0 ∨ 1000 < most
      · rw [if_pos hc] at harg; cases harg
      · exact ⟨most.toNat, by omega, by omega⟩
    have hm0 : ¬ (m : Int) < 0 := by omega
    have hm1 : ¬ (1000 : Int) < (m : Int) := by omega
    have HARG := Lib.hid harg; clear harg
    go_enter Try.func28, Try.ntmps28
    go_wp2_with fail
    refine (begin_any w hs h hd 0 (by decide)).mono ?_
    rintro e w1 ⟨b1, v, ix, rfl, hb⟩
    by_cases hst : stateB C index 0 = 0
    · obtain ⟨ps, hrow, hps, hix⟩ := hb hst
      rw [hst]
      have hres : listR C index es from_ m = ((es.drop (atB es from_)).take m, 0) := by unfold listR; rw [HARG.out, hst]; simp
      have HRES := Lib.hid hres; clear hst hb hres
      have hasc : Asc (ents ps) := by rw [hps]; exact hd.asc
      have hmany : ps.length ≤ 24800 := by have := hd.many; rwa [← hps, ents_length] at this
      go_wp2_with fail
      refine (find_any w1 v ps hrow.rd hasc (by omega) from_).mono ?_
      rintro e w2 ⟨rfl, b2⟩
      have hal : atB (ents ps) from_ ≤ ps.length := by have : atB (ents ps) from_ ≤ (ents ps).length := List.findIdx_le_length; rwa [ents_length] at this
      have hr2 := hrow.rd.below b2 (Nat.le_refl _)
      obtain ⟨A, c, rfl, hnc, hcm, -⟩ := hr2.rd
      have hdr : es.drop (atB es from_) = ents (ps.drop (atB (ents ps) from_)) := by rw [← hps]; simp [ents]
      generalize hI : atB (ents ps) from_ = i at *
      obtain ⟨r, hr⟩ : ∃ r, ps.length = i + r := ⟨ps.length - i, by omega⟩
      obtain ⟨q, hq⟩ : ∃ q, c = i + q := ⟨c - i, by omega⟩
      obtain ⟨hsuf, hsl⟩ := hr2.suffix i r q hr hq
      generalize hP : ps.drop i = qs at *
      rw [hdr] at HRES
      have d2 := b1.trans (b2.mono b1.size)
      generalize hA1 : cut A i c 3 = A1 at *
      have HA1 := Lib.hid hA1
      have HR := Lib.hid hr; have HQ := Lib.hid hq; have HSL := Lib.hid hsl
      clear hr2 hdr hI hP hA1 hrow hix hps hr hq hsl
      unfold iv
      go_wp2_with (refine sl_l Try.underlying83 size94 rfl _ _ rfl rfl i r q rfl rfl HR.out HQ.out ?_; rw [HA1.out])
      have hw2 : w.heap.size ≤ w2.heap.size := d2.size
      have hrb : r ≤ 24800 := by have := HR.out; omega
      go_loopw [13, 42] (fun o i wr => ∃ k : Nat, k ≤ r ∧ i = .int .i64 k ∧ wr.ownsRow w2.heap.size 9 1 o (((ents qs).take k).take m).length (strs (((ents qs).take k).take m)) ∧ Below w2.heap.size w2 wr) (fun _ i _ => r - (intOf i).toNat)
      case atStart => exact ⟨0, by omega, rfl, by rw [List.take_zero, List.take_nil]; exact World.ownsRow_nil _ _ _ _, Below.refl _ _⟩
      case round =>
        obtain ⟨k, hk, rfl, own, hbr⟩ := hrel
        by_cases hlt : k < r
        · have hkq : k < qs.length := by rw [HSL.out]; exact hlt
          have hr3 := hsuf.below hbr (Nat.le_refl _)
          obtain ⟨b, off, c', he, h0, h1, h2⟩ := hr3.cells hkq
          rw [HSL.out] at he
          cases he
          obtain ⟨A2, c2, hsl, -⟩ := hr3.at_ _ (List.getElem_mem hkq)
          have hkl : k < (ents qs).length := by rw [ents_length]; exact hkq
          have htk : (ents qs).take (k + 1) = (ents qs).take k ++ [qs[k].1] := by rw [List.take_succ_eq_append_getElem hkl, ents_at]
          have hll : ((ents qs).take k).length = k := by rw [List.length_take]; omega
          rw [hsl] at h2
          generalize hE : qs[k].1 = e at *
          have HTK := Lib.hid htk; have HLL := Lib.hid hll; have HLT := Lib.hid hlt
          have HBR := hbr
          have hki : (k : Int) < (r : Int) := by omega
          clear htk hll hsl hE hsuf hr3
          unfold iv at h1
          have own0 := own.alloc (.cells #[.string e.name, .int .i64 e.size, .slice A2 e.pages.length c2] 94)
          have b0 : Below w2.heap.size w2 (wr.alloc (.cells #[.string e.name, .int .i64 e.size, .slice A2 e.pages.length c2] 94)) := hbr.alloc hbr.size _
          have c0 : (wr.alloc (.cells #[.string e.name, .int .i64 e.size, .slice A2 e.pages.length c2] 94)).cell? ⟨wr.heap.size, 0, none⟩ = some (.string e.name) := (cells3 (heap_alloc_new wr _)).1
          have hgw : wr.heap.size + 1 = (wr.alloc (.cells #[.string e.name, .int .i64 e.size, .slice A2 e.pages.length c2] 94)).heap.size := by simp
          have HGW := Lib.hid hgw; clear hgw
          by_cases hfull : k < m
          · have e1 : (((ents qs).take k).take m).length = k := by rw [List.length_take, HLL.out]; omega
            have e2 : (((ents qs).take (k + 1)).take m) = ((ents qs).take k).take m ++ [e] := by
              have ha : ((ents qs).take k).take m = (ents qs).take k := List.take_of_length_le (by rw [HLL.out]; omega)
              have hb : ((ents qs).take k ++ [e]).take m = (ents qs).take k ++ [e] := List.take_of_length_le (by rw [List.length_append, HLL.out]; simp; omega)
              rw [HTK.out, ha, hb]
            have hl1 : (((ents qs).take k).take m).length + 1 ≤ 1000000000 := by omega
            have hki2 : ((((ents qs).take k).take m).length : Int) < (m : Int) := by omega
            generalize hT : ((ents qs).take k).take m = T at *
            have E1 := Lib.hid e1; have E2 := Lib.hid e2; clear e1 e2 hT
            obtain ⟨A3, c3, hv3⟩ : ∃ A3 c3, u13 = .slice A3 T.length c3 := by
              rcases own.2 with ⟨rfl, h0⟩ | ⟨g, cap, cur, rfl, _⟩
              · exact ⟨none, 0, by rw [h0]⟩
              · exact ⟨_, _, rfl⟩
            subst hv3
            go_wp2_with (at_builtin; refine app_one el75 rfl _ _ rfl rfl own0 HGW.out rfl rfl hl1 b0.size ?_)
            intro v4 w4 o4 _ b4
            go_wp2
            go_roundw
            case rel => exact ⟨k + 1, HLT.out, by go_num, by rw [E2.out]; simpa [strs] using o4, b0.trans b4⟩
            case measure => have := HLT.out; simp [intOf]; omega
          · have e1 : (((ents qs).take k).take m).length = m := by rw [List.length_take, HLL.out]; omega
            have e2 : (((ents qs).take (k + 1)).take m) = ((ents qs).take k).take m := by
              have ha : ((ents qs).take k ++ [e]).take m = ((ents qs).take k).take m := List.take_append_of_le_length (by rw [HLL.out]; omega)
              rw [HTK.out, ha]
            have hki2 : ¬ ((((ents qs).take k).take m).length : Int) < (m : Int) := by omega
            generalize hT : ((ents qs).take k).take m = T at *
            have E1 := Lib.hid e1; have E2 := Lib.hid e2; clear e1 e2 hT
            obtain ⟨A3, c3, hv3⟩ : ∃ A3 c3, u13 = .slice A3 T.length c3 := by
              rcases own.2 with ⟨rfl, h0⟩ | ⟨g, cap, cur, rfl, _⟩
              · exact ⟨none, 0, by rw [h0]⟩
              · exact ⟨_, _, rfl⟩
            subst hv3
            go_wp2
            go_roundw
            case rel => exact ⟨k + 1, HLT.out, by go_num, by rw [E2.out]; exact own0, b0⟩
            case measure => have := HLT.out; simp [intOf]; omega
        · obtain rfl : k = r := by omega
          have ha : (ents qs).take k = ents qs := List.take_of_length_le (by rw [ents_length, HSL.out]; exact Nat.le_refl _)
          rw [ha] at own
          go_wp2
          go_ret2
          exact ⟨_, by rw [HRES.out]; rfl, d2.trans (hbr.mono hw2), by rw [HRES.out]; exact own_base own hw2⟩
    · have hst0 : ¬ ((stateB C index 0 : Nat) : Int) = 0 := by omega
      have hres : listR C index es from_ m = ([], stateB C index 0) := by unfold listR; rw [HARG.out, if_pos hst]
      have HRES := Lib.hid hres; clear hres
      go_wp2
      go_ret2
      exact ⟨_, by rw [HRES.out]; rfl, b1, by rw [HRES.out]; exact World.ownsRow_nil _ _ _ _⟩
  · have harg2 : argL most = 2 := by
      unfold argL at harg ⊢
      by_cases hc : most < 0 ∨ 1000 < most
      · rw [if_pos hc]
      · rw [if_neg hc] at harg; exact absurd rfl harg
    have hres : listR C index es from_ most = ([], stateB C index 2) := by unfold listR; rw [harg2, if_pos (stateB_two (by decide))]
    have HRES := Lib.hid hres; clear hres
    have hst0 : ¬ ((stateB C index 2 : Nat) : Int) = 0 := by have := stateB_two (C := C) (index := index) (e0 := 2) (by decide); omega
    have HST := Lib.hid hst0; clear hst0 harg2
    by_cases hm0 : most < 0
    · go_enter Try.func28, Try.ntmps28
      go_wp2_with fail
      refine (begin_any w hs h hd 2 (by decide)).mono ?_
      rintro e w1 ⟨b1, v, ix, rfl, hb⟩
      have hst0 := HST.out
      go_wp2
      go_ret2
      exact ⟨_, by rw [HRES.out]; rfl, b1, by rw [HRES.out]; exact World.ownsRow_nil _ _ _ _⟩
    · have hm1 : (1000 : Int) < most := by
        unfold argL at harg
        by_cases h6 : 1000 < most
        · exact h6
        · simp [hm0, h6] at harg
      go_enter Try.func28, Try.ntmps28
      go_wp2_with fail
      refine (begin_any w hs h hd 2 (by decide)).mono ?_
      rintro e w1 ⟨b1, v, ix, rfl, hb⟩
      have hst0 := HST.out
      go_wp2
      go_ret2
      exact ⟨_, by rw [HRES.out]; rfl, b1, by rw [HRES.out]; exact World.ownsRow_nil _ _ _ _⟩
end Go.Proofs.Ytcgapfmdpchemaa
