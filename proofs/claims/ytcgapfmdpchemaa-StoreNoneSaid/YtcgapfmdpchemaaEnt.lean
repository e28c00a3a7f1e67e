/- The walk of bytes: the directory's bytes from its entries. -/
import Derived.Test.YtcgapfmdpchemaaDir
namespace Go.Proofs.Ytcgapfmdpchemaa
open Go.RowKit
/-- what a slice of entries reads as -/
structure EntRd (w : World) (v : Value) (ps : List (DE × Value)) : Prop where
  rd : Rd w v ps.length (ps.flatMap peCells)
  at_ : ∀ p ∈ ps, IntsAt w p.2 p.1.pages
theorem EntRd.below {w w' : World} {B : Nat} {v : Value} {ps : List (DE × Value)} (h : EntRd w v ps) (hb : Below B w w') (hB : w.heap.size ≤ B) : EntRd w' v ps :=
  ⟨h.rd.below hb hB, fun p hp => (h.at_ p hp).below hb hB⟩
theorem Rd_own3 {w : World} {base e s : Nat} {v : Value} {n : Nat} {xs : List Value} (h : w.ownsRow base e s v n xs) : Rd w v n xs := by
  obtain ⟨hl, h⟩ := h
  rcases h with ⟨rfl, rfl⟩ | ⟨g, cap, cur, rfl, _, hg, hnc, hcm, hcs, ht⟩
  · exact ⟨none, 0, rfl, Nat.le_refl _, by decide, fun j hj => by omega⟩
  · refine ⟨_, _, rfl, hnc, hcm, fun j hj => ⟨_, _, rfl, ?_⟩⟩
    rw [Nat.zero_add, cell_of_row _ _ _ _ _ _ hg]
    have h1 : xs[j]? = some xs[j] := List.getElem?_eq_getElem hj
    have h2 : (cur.toList.take (n * s))[j]? = xs[j]? := by rw [ht]
    rw [h1, List.getElem?_take] at h2
    split at h2
    · simpa using h2
    · cases h2
theorem EntRow.rd {w : World} {base : Nat} {v : Value} {ps : List (DE × Value)} (h : EntRow w base v ps) : EntRd w v ps := ⟨Rd_own3 h.own, h.at_⟩
theorem flat3 (ps : List (DE × Value)) (k : Nat) (hk : k < ps.length) : (ps.flatMap peCells)[k * 3]? = some (.string ps[k].1.name) ∧ (ps.flatMap peCells)[k * 3 + 1]? = some (iv ps[k].1.size) ∧ (ps.flatMap peCells)[k * 3 + 2]? = some ps[k].2 := by
  induction ps generalizing k with
  | nil => simp at hk
  | cons p ps ih =>
    cases k with
    | zero => simp [peCells]
    | succ k =>
      have := ih k (by simpa using hk)
      have e1 : ∀ j, ((p :: ps).flatMap peCells)[(k + 1) * 3 + j]? = (ps.flatMap peCells)[k * 3 + j]? := fun j => by
        rw [List.flatMap_cons, List.getElem?_append_right (by simp [peCells]; omega)]
        congr 1
        simp [peCells]; omega
      refine ⟨?_, ?_, ?_⟩
      · have h := e1 0; simp only [Nat.add_zero] at h; rw [h]; exact this.1
      · rw [e1 1]; exact this.2.1
      · rw [e1 2]; exact this.2.2
/-- the cells of entry k -/
theorem EntRd.cells {w : World} {v : Value} {ps : List (DE × Value)} (h : EntRd w v ps) {k : Nat} (hk : k < ps.length) : ∃ b off c, v = .slice (some ⟨b, off, none⟩) ps.length c ∧
    w.cell? ⟨b, off + k * 3, none⟩ = some (.string ps[k].1.name) ∧ w.cell? ⟨b, off + k * 3 + 1, none⟩ = some (iv ps[k].1.size) ∧ w.cell? ⟨b, off + k * 3 + 2, none⟩ = some ps[k].2 := by
  obtain ⟨A, c, rfl, _, _, hc⟩ := h.rd
  have hl := peCells_length ps
  obtain ⟨b, off, rfl, _⟩ := hc 0 (by omega)
  obtain ⟨f0, f1, f2⟩ := flat3 ps k hk
  have hat : ∀ j u, (ps.flatMap peCells)[j]? = some u → w.cell? ⟨b, off + j, none⟩ = some u := fun j u hu => by
    obtain ⟨hj, rfl⟩ := List.getElem?_eq_some_iff.1 hu
    obtain ⟨b2, o2, he, hcell⟩ := hc j hj
    cases he
    exact hcell
  exact ⟨b, off, c, rfl, hat _ _ f0, by rw [Nat.add_assoc]; exact hat _ _ f1, by rw [Nat.add_assoc]; exact hat _ _ f2⟩
/-- a row of another kind stays behind an append -/
theorem grown_row {w w' : World} {base e size n : Nat} {v : Value} {xs : List Value} (ho : w.ownsRow base e size v n xs) (hg : w.grownBy w' v.ownBlock) {g e' : Nat} {cs : Array Value} {fr : Nat × Nat} (h : w.heap[g]? = some (.cells cs e' fr)) (he : e ≠ e') : w'.heap[g]? = some (.cells cs e' fr) :=
  (hg.block g (Array.getElem?_eq_some_iff.1 h).1 fun hc => by
    obtain ⟨cs', h'⟩ := own_elem ho hc.symm
    rw [h] at h'
    simp at h'
    exact he h'.2.1.symm).trans h
theorem cells3 {w : World} {g t : Nat} {fr : Nat × Nat} {x y z : Value} (h : w.heap[g]? = some (.cells #[x, y, z] t fr)) : w.cell? ⟨g, 0, none⟩ = some x ∧ w.cell? ⟨g, 1, none⟩ = some y ∧ w.cell? ⟨g, 2, none⟩ = some z :=
  ⟨by rw [cell_of_row _ _ _ _ _ _ h]; rfl, by rw [cell_of_row _ _ _ _ _ _ h]; rfl, by rw [cell_of_row _ _ _ _ _ _ h]; rfl⟩
theorem enc_append (a b : List DE) : enc (a ++ b) = enc a ++ enc b := by simp [enc]
theorem enc_take_le (es : List DE) (k : Nat) : (enc (es.take k)).length ≤ (enc es).length := by
  conv => rhs; rw [← List.take_append_drop k es, enc_append, List.length_append]
  omega
set_option maxRecDepth 1000000 in
set_option maxHeartbeats 2000000 in
theorem bytes_any (w : World) (v : Value) (ps : List (DE × Value)) (h : EntRd w v ps) (hfit : ∀ p ∈ ps, p.1.fits) (hlen : (enc (ps.map (·.1))).length ≤ 900000000) :
    Calls Try.prog 40 #[v] w fun e w' => ∃ v', e = .returned v' ∧ w'.ownsRow w.heap.size 5 1 v' (enc (ps.map (·.1))).length (bvs (enc (ps.map (·.1)))) ∧ Below w.heap.size w w' := by
  obtain ⟨A, c, rfl, hnc, hcm, -⟩ := h.rd
  go_enter Try.func40, Try.ntmps40
  go_wp2
  go_loopw [3, 8] (fun b i wr => ∃ k : Nat, k ≤ ps.length ∧ i = .int .i64 k ∧ wr.ownsRow w.heap.size 5 1 b (enc ((ps.take k).map (·.1))).length (bvs (enc ((ps.take k).map (·.1)))) ∧ Below w.heap.size w wr)
    (fun _ i _ => ps.length - (intOf i).toNat)
  case atStart => exact ⟨0, by omega, rfl, World.ownsRow_nil _ _ _ _, Below.refl _ _⟩
  case round =>
    obtain ⟨k, hk, rfl, own, hbr⟩ := hrel
    by_cases hlt : k < ps.length
    · have hr := h.below hbr (Nat.le_refl _)
      obtain ⟨b, off, c', he, h0, h1, h2⟩ := hr.cells hlt
      cases he
      have hkl : (k : Int) < (ps.length : Int) := by omega
      have hin := hr.at_ _ (List.getElem_mem hlt)
      obtain ⟨hn0, hn64, hs32, hp1000, hpg⟩ := hfit _ (List.getElem_mem hlt)
      have htk : enc ((ps.take (k + 1)).map (·.1)) = enc ((ps.take k).map (·.1)) ++ encE ps[k].1 := by
        rw [List.take_succ_eq_append_getElem hlt, List.map_append, enc_append]; simp [enc]
      have hle : (enc ((ps.take k).map (·.1))).length ≤ 900000000 := by
        have := enc_take_le (ps.map (·.1)) k
        rw [← List.map_take] at this
        omega
      generalize hE : ps[k].1 = e at *
      generalize hS : ps[k].2 = sl at *
      generalize hL : enc ((ps.take k).map (·.1)) = L at *
      have HTK := Lib.hid htk; clear htk hE hS hL
      have HLT := Lib.hid hlt
      have hkm : k ≤ 900000000 := by have := enc_ge (ps.map (·.1)); rw [List.length_map] at this; omega
      obtain ⟨A2, c2, rfl, hp1, hp2, hp3⟩ := id hin
      have HIN := Lib.hid hin; clear hin hp3
      unfold iv at h1
      have hwr : IntKind.u8.wrap (e.name.size : Int) = e.name.size := by rw [IntKind.wrap_u8]; omega
      have hobj := heap_alloc_new wr (.cells #[.string e.name, .int .i64 e.size, .slice A2 e.pages.length c2] 94)
      have own0 := own.alloc (.cells #[.string e.name, .int .i64 e.size, .slice A2 e.pages.length c2] 94)
      have b0 : Below w.heap.size w (wr.alloc (.cells #[.string e.name, .int .i64 e.size, .slice A2 e.pages.length c2] 94)) := hbr.alloc hbr.size _
      have hin0 : IntsAt (wr.alloc (.cells #[.string e.name, .int .i64 e.size, .slice A2 e.pages.length c2] 94)) (.slice A2 e.pages.length c2) e.pages := HIN.out.below ((Below.refl _ wr).alloc (Nat.le_refl _) _) (Nat.le_refl _)
      have hb0 := b0.size
      generalize hW0 : wr.alloc (.cells #[.string e.name, .int .i64 e.size, .slice A2 e.pages.length c2] 94) = w0 at *
      generalize hPP : e.pages.length = pp at *
      generalize hNM : e.name.size = nm at *
      generalize hLL : L.length = ll at *
      have HPP := Lib.hid hPP; have HNM := Lib.hid hNM; have HLL := Lib.hid hLL; clear hPP hNM hLL
      obtain ⟨a0, a1, a2⟩ := cells3 hobj
      have HO0 := Lib.hid hobj; clear hobj
      have hl1 : ll + 1 ≤ 1000000000 := by omega
      clear h hr own
      go_wp2_with (at_builtin; refine app_one el97 rfl _ _ rfl rfl own0 rfl rfl rfl hl1 hb0 ?_)
      intro v1 w1 o1 g1 b1
      have HO1 := Lib.hid (grown_row own0 g1 HO0.out (by decide)); have hin1 := hin0.grown own0 (by decide) g1
      obtain ⟨a3, a4, a5⟩ := cells3 HO1.out
      clear a0 a1 a2 own0 g1 hW0 hin0
      have d1 := b0.trans b1
      have hl2 : ll + 1 + e.name.size ≤ 1000000000 := by rw [HNM.out]; omega
      go_wp2_with (at_builtin; refine app_str rfl _ _ rfl rfl o1 rfl hl2 d1.size ?_)
      intro v2 w2 o2 g2 b2
      have HO2 := Lib.hid (grown_row o1 g2 HO1.out (by decide)); have hin2 := hin1.grown o1 (by decide) g2
      obtain ⟨a6, a7, a8⟩ := cells3 HO2.out
      clear a3 a4 a5 o1 g2 hin1
      have d2 := d1.trans b2
      go_wp2_with fail
      refine (numbers4 _ [e.size] (by simp) (by simpa using hs32) _ (Rd_new w2 [iv e.size] 3 _ 1 rfl)).mono ?_
      rintro e' w3 ⟨v3, rfl, o3, b3⟩
      have d2a : Below w2.heap.size w2 w3 := ((Below.refl _ w2).alloc (Nat.le_refl _) _).trans (b3.mono (by simp))
      have o2a := own_below o2 d2a (Nat.le_refl _)
      have HO3 := Lib.hid ((d2a.block wr.heap.size (Array.getElem?_eq_some_iff.1 HO2.out).1).trans HO2.out); have hin3 := hin2.below d2a (Nat.le_refl _)
      obtain ⟨a9, a10, a11⟩ := cells3 HO3.out
      clear a6 a7 a8 hin2
      have d3 := d2.trans (d2a.mono d2.size)
      have hl3 : ll + 1 + e.name.size + (les 4 [e.size]).length ≤ 1000000000 := by rw [HNM.out, les_length]; simp; omega
      have hb4 : (bvs (les 4 [e.size])).length = (les 4 [e.size]).length * 1 := by rw [bvs_length]; omega
      have HB4 := Lib.hid hb4; clear hb4
      go_wp2_with (at_builtin; refine app_rd el97 rfl _ _ rfl rfl o2a rfl (Rd_own o3) HB4.out (oneCell_bvs _) hl3 d3.size ?_)
      intro v4 w4 o4 g4 b4
      have HO4 := Lib.hid (grown_row o2a g4 HO3.out (by decide)); have hin4 := hin3.grown o2a (by decide) g4
      obtain ⟨a12, a13, a14⟩ := cells3 HO4.out
      clear a9 a10 a11 o2 o2a g4 hin3 o3
      have d4 := d3.trans b4
      go_wp2_with fail
      refine (numbers2 _ [pp] (by simp) (by simp; omega) _ (Rd_new w4 [iv pp] 3 _ 1 rfl)).mono ?_
      rintro e' w5 ⟨v5, rfl, o5, b5⟩
      have d4a : Below w4.heap.size w4 w5 := ((Below.refl _ w4).alloc (Nat.le_refl _) _).trans (b5.mono (by simp))
      have o4a := own_below o4 d4a (Nat.le_refl _)
      have HO5 := Lib.hid ((d4a.block wr.heap.size (Array.getElem?_eq_some_iff.1 HO4.out).1).trans HO4.out); have hin5 := hin4.below d4a (Nat.le_refl _)
      obtain ⟨a15, a16, a17⟩ := cells3 HO5.out
      clear a12 a13 a14 hin4
      have d5 := d4.trans (d4a.mono d4.size)
      have hl5 : ll + 1 + e.name.size + (les 4 [e.size]).length + (les 2 [pp]).length ≤ 1000000000 := by rw [HNM.out, les_length, les_length]; simp; omega
      have hb5 : (bvs (les 2 [pp])).length = (les 2 [pp]).length * 1 := by rw [bvs_length]; omega
      have HB5 := Lib.hid hb5; clear hb5
      go_wp2_with (at_builtin; refine app_rd el97 rfl _ _ rfl rfl o4a rfl (Rd_own o5) HB5.out (oneCell_bvs _) hl5 d5.size ?_)
      intro v6 w6 o6 g6 b6
      have HO6 := Lib.hid (grown_row o4a g6 HO5.out (by decide)); have hin6 := hin5.grown o4a (by decide) g6
      obtain ⟨a18, a19, a20⟩ := cells3 HO6.out
      clear a15 a16 a17 o4 o4a g6 hin5 o5
      have d6 := d5.trans b6
      go_wp2_with fail
      refine (numbers2 _ e.pages (by rw [HPP.out]; exact hp1000) (fun n hn => Nat.lt_trans (hpg n hn) (by decide)) _ (by have := hin6.rd; rwa [HPP.out] at this ⊢)).mono ?_
      rintro e' w7 ⟨v7, rfl, o7, b7⟩
      have o6a := own_below o6 b7 (Nat.le_refl _)
      have d7 := d6.trans (b7.mono d6.size)
      have hl7 : ll + 1 + e.name.size + (les 4 [e.size]).length + (les 2 [pp]).length + (les 2 e.pages).length ≤ 1000000000 := by rw [HNM.out, les_length, les_length, les_length, HPP.out]; simp; omega
      have hb7 : (bvs (les 2 e.pages)).length = (les 2 e.pages).length * 1 := by rw [bvs_length]; omega
      have HB7 := Lib.hid hb7; clear hb7
      clear a18 a19 a20 hin6
      go_wp2_with (at_builtin; refine app_rd el97 rfl _ _ rfl rfl o6a rfl (Rd_own o7) HB7.out (oneCell_bvs _) hl7 d7.size ?_)
      intro v8 w8 o8 g8 b8
      have d8 := d7.trans b8
      go_wp2
      go_roundw
      case rel =>
        refine ⟨k + 1, HLT.out, by go_num, ?_, d8⟩
        rw [HTK.out]
        have e1 : bvs (L ++ encE e) = bvs L ++ [Value.int .u8 ((e.name.size : Int) % 256)] ++ bvs e.name.data.toList ++ bvs (les 4 [e.size]) ++ bvs (les 2 [pp]) ++ bvs (les 2 e.pages) := by
          rw [← bv_mod]
          simp [encE, encTail, bvs, les, nameBytes, HPP.out]
        have e2 : (L ++ encE e).length = ll + 1 + e.name.size + (les 4 [e.size]).length + (les 2 [pp]).length + (les 2 e.pages).length := by
          rw [List.length_append, encE_length, les_length, les_length, les_length, HLL.out]; simp; omega
        rw [e1, e2]
        simpa using o8
      case measure => have := HLT.out; simp [intOf]; omega
    · obtain rfl : k = ps.length := by omega
      rw [List.take_length] at own
      go_wp2
      go_ret
      exact ⟨_, rfl, own, hbr⟩
end Go.Proofs.Ytcgapfmdpchemaa
