/- The walk of bytes: the directory's bytes from its entries. -/
import Derived.Test.YtcgapfmdpchemaaDir
import Derived.Lib.Bytealg
namespace Go.Proofs.Ytcgapfmdpchemaa
open Go.RowKit
/-- what a slice of entries reads as -/
structure EntRd (w : World) (v : Value) (ps : List (DE × Value)) : Prop where
  rd : Rd w v ps.length (ps.flatMap peCells)
  at_ : ∀ p ∈ ps, IntsAt w p.2 p.1.pages
theorem EntRd.below {w w' : World} {B : Nat} {v : Value} {ps : List (DE × Value)} (h : EntRd w v ps) (hb : Below B w w') (hB : w.heap.size ≤ B) : EntRd w' v ps :=
  ⟨h.rd.below hb hB, fun p hp => (h.at_ p hp).below hb hB⟩
theorem Rd_own3 {w : World} {base e s : Nat} {v : Value} {n : Nat} {xs : List Value} (h : w.ownsRow base e s v n xs) : Rd w v n xs := by
  obtain ⟨hl, h⟩ := h
  rcases h with ⟨rfl, rfl⟩ | ⟨g, cap, cur, rfl, _, hg, hnc, hcm, hcs, ht⟩
  · exact ⟨none, 0, rfl, Nat.le_refl _, by decide, fun j hj => by omega⟩
  · refine ⟨_, _, rfl, hnc, hcm, fun j hj => ⟨_, _, rfl, ?_⟩⟩
    rw [Nat.zero_add, cell_of_row _ _ _ _ _ _ hg]
    have h1 : xs[j]? = some xs[j] := List.getElem?_eq_getElem hj
    have h2 : (cur.toList.take (n * s))[j]? = xs[j]? := by rw [ht]
    rw [h1, List.getElem?_take] at h2
    split at h2
    · simpa using h2
    · cases h2
theorem EntRow.rd {w : World} {base : Nat} {v : Value} {ps : List (DE × Value)} (h : EntRow w base v ps) : EntRd w v ps := ⟨Rd_own3 h.own, h.at_⟩
theorem flat3 (ps : List (DE × Value)) (k : Nat) (hk : k < ps.length) : (ps.flatMap peCells)[k * 3]? = some (.string ps[k].1.name) ∧ (ps.flatMap peCells)[k * 3 + 1]? = some (iv ps[k].1.size) ∧ (ps.flatMap peCells)[k * 3 + 2]? = some ps[k].2 := by
  induction ps generalizing k with
  | nil => simp at hk
  | cons p ps ih =>
    cases k with
    | zero => simp [peCells]
    | succ k =>
      have := ih k (by simpa using hk)
      have e1 : ∀ j, ((p :: ps).flatMap peCells)[(k + 1) * 3 + j]? = (ps.flatMap peCells)[k * 3 + j]? := fun j => by
        rw [List.flatMap_cons, List.getElem?_append_right (by simp [peCells]; omega)]
        congr 1
        simp [peCells]; omega
      refine ⟨?_, ?_, ?_⟩
      · have h := e1 0; simp only [Nat.add_zero] at h; rw [h]; exact this.1
      · rw [e1 1]; exact this.2.1
      · rw [e1 2]; exact this.2.2
/-- the cells of entry k -/
theorem EntRd.cells {w : World} {v : Value} {ps : List (DE × Value)} (h : EntRd w v ps) {k : Nat} (hk : k < ps.length) : ∃ b off c, v = .slice (some ⟨b, off, none⟩) ps.length c ∧
    w.cell? ⟨b, off + k * 3, none⟩ = some (.string ps[k].1.name) ∧ w.cell? ⟨b, off + k * 3 + 1, none⟩ = some (iv ps[k].1.size) ∧ w.cell? ⟨b, off + k * 3 + 2, none⟩ = some ps[k].2 := by
  obtain ⟨A, c, rfl, _, _, hc⟩ := h.rd
  have hl := peCells_length ps
  obtain ⟨b, off, rfl, _⟩ := hc 0 (by omega)
  obtain ⟨f0, f1, f2⟩ := flat3 ps k hk
  have hat : ∀ j u, (ps.flatMap peCells)[j]? = some u → w.cell? ⟨b, off + j, none⟩ = some u := fun j u hu => by
    obtain ⟨hj, rfl⟩ := List.getElem?_eq_some_iff.1 hu
    obtain ⟨b2, o2, he, hcell⟩ := hc j hj
    cases he
    exact hcell
  exact ⟨b, off, c, rfl, hat _ _ f0, by rw [Nat.add_assoc]; exact hat _ _ f1, by rw [Nat.add_assoc]; exact hat _ _ f2⟩
/-- a row of another kind stays behind an append -/
theorem grown_row {w w' : World} {base e size n : Nat} {v : Value} {xs : List Value} (ho : w.ownsRow base e size v n xs) (hg : w.grownBy w' v.ownBlock) {g e' : Nat} {cs : Array Value} {fr : Nat × Nat} (h : w.heap[g]? = some (.cells cs e' fr)) (he : e ≠ e') : w'.heap[g]? = some (.cells cs e' fr) :=
  (hg.block g (Array.getElem?_eq_some_iff.1 h).1 fun hc => by
    obtain ⟨cs', h'⟩ := own_elem ho hc.symm
    rw [h] at h'
    simp at h'
    exact he h'.2.1.symm).trans h
theorem cells3 {w : World} {g t : Nat} {fr : Nat × Nat} {x y z : Value} (h : w.heap[g]? = some (.cells #[x, y, z] t fr)) : w.cell? ⟨g, 0, none⟩ = some x ∧ w.cell? ⟨g, 1, none⟩ = some y ∧ w.cell? ⟨g, 2, none⟩ = some z :=
  ⟨by rw [cell_of_row _ _ _ _ _ _ h]; rfl, by rw [cell_of_row _ _ _ _ _ _ h]; rfl, by rw [cell_of_row _ _ _ _ _ _ h]; rfl⟩
theorem enc_append (a b : List DE) : enc (a ++ b) = enc a ++ enc b := by simp [enc]
theorem enc_take_le (es : List DE) (k : Nat) : (enc (es.take k)).length ≤ (enc es).length := by
  conv => rhs; rw [← List.take_append_drop k es, enc_append, List.length_append]
  omega
set_option maxRecDepth 1000000 in
set_option maxHeartbeats 2000000 in
theorem bytes_any (w : World) (v : Value) (ps : List (DE × Value)) (h : EntRd w v ps) (hfit : ∀ p ∈ ps, p.1.fits) (hlen : (enc (ps.map (·.1))).length ≤ 900000000) :
    Calls Try.prog 40 #[v] w fun e w' => ∃ v', e = .returned v' ∧ w'.ownsRow w.heap.size 5 1 v' (enc (ps.map (·.1))).length (bvs (enc (ps.map (·.1)))) ∧ Below w.heap.size w w' := by
  obtain ⟨A, c, rfl, hnc, hcm, -⟩ := h.rd
  go_enter Try.func40, Try.ntmps40
  go_wp2
  go_loopw [3, 8] (fun b i wr => ∃ k : Nat, k ≤ ps.length ∧ i = .int .i64 k ∧ wr.ownsRow w.heap.size 5 1 b (enc ((ps.take k).map (·.1))).length (bvs (enc ((ps.take k).map (·.1)))) ∧ Below w.heap.size w wr)
    (fun _ i _ => ps.length - (intOf i).toNat)
  case atStart => exact ⟨0, by omega, rfl, World.ownsRow_nil _ _ _ _, Below.refl _ _⟩
  case round =>
    obtain ⟨k, hk, rfl, own, hbr⟩ := hrel
    by_cases hlt : k < ps.length
    · have hr := h.below hbr (Nat.le_refl _)
      obtain ⟨b, off, c', he, h0, h1, h2⟩ := hr.cells hlt
      cases he
      have hkl : (k : Int) < (ps.length : Int) := by omega
      have hin := hr.at_ _ (List.getElem_mem hlt)
      obtain ⟨hn0, hn64, hs32, hp1000, hpg⟩ := hfit _ (List.getElem_mem hlt)
      have htk : enc ((ps.take (k + 1)).map (·.1)) = enc ((ps.take k).map (·.1)) ++ encE ps[k].1 := by
        rw [List.take_succ_eq_append_getElem hlt, List.map_append, enc_append]; simp [enc]
      have hle : (enc ((ps.take k).map (·.1))).length ≤ 900000000 := by
        have := enc_take_le (ps.map (·.1)) k
        rw [← List.map_take] at this
        omega
      generalize hE : ps[k].1 = e at *
      generalize hS : ps[k].2 = sl at *
      generalize hL : enc ((ps.take k).map (·.1)) = L at *
      have HTK := Lib.hid htk; clear htk hE hS hL
      have HLT := Lib.hid hlt
      have hkm : k ≤ 900000000 := by have := enc_ge (ps.map (·.1)); rw [List.length_map] at this; omega
      obtain ⟨A2, c2, rfl, hp1, hp2, hp3⟩ := id hin
      have HIN := Lib.hid hin; clear hin hp3
      unfold iv at h1
      have hwr : IntKind.u8.wrap (e.name.size : Int) = e.name.size := by rw [IntKind.wrap_u8]; omega
      have hobj := heap_alloc_new wr (.cells #[.string e.name, .int .i64 e.size, .slice A2 e.pages.length c2] 94)
      have own0 := own.alloc (.cells #[.string e.name, .int .i64 e.size, .slice A2 e.pages.length c2] 94)
      have b0 : Below w.heap.size w (wr.alloc (.cells #[.string e.name, .int .i64 e.size, .slice A2 e.pages.length c2] 94)) := hbr.alloc hbr.size _
      have hin0 : IntsAt (wr.alloc (.cells #[.string e.name, .int .i64 e.size, .slice A2 e.pages.length c2] 94)) (.slice A2 e.pages.length c2) e.pages := HIN.out.below ((Below.refl _ wr).alloc (Nat.le_refl _) _) (Nat.le_refl _)
      have hb0 := b0.size
      generalize hW0 : wr.alloc (.cells #[.string e.name, .int .i64 e.size, .slice A2 e.pages.length c2] 94) = w0 at *
      generalize hPP : e.pages.length = pp at *
      generalize hNM : e.name.size = nm at *
      generalize hLL : L.length = ll at *
      have HPP := Lib.hid hPP; have HNM := Lib.hid hNM; have HLL := Lib.hid hLL; clear hPP hNM hLL
      obtain ⟨a0, a1, a2⟩ := cells3 hobj
      have HO0 := Lib.hid hobj; clear hobj
      have hl1 : ll + 1 ≤ 1000000000 := by omega
      clear h hr own
      go_wp2_with (at_builtin; refine app_one el97 rfl _ _ rfl rfl own0 rfl rfl rfl hl1 hb0 ?_)
      intro v1 w1 o1 g1 b1
      have HO1 := Lib.hid (grown_row own0 g1 HO0.out (by decide)); have hin1 := hin0.grown own0 (by decide) g1
      obtain ⟨a3, a4, a5⟩ := cells3 HO1.out
      clear a0 a1 a2 own0 g1 hW0 hin0
      have d1 := b0.trans b1
      have hl2 : ll + 1 + e.name.size ≤ 1000000000 := by rw [HNM.out]; omega
      go_wp2_with (at_builtin; refine app_str rfl _ _ rfl rfl o1 rfl hl2 d1.size ?_)
      intro v2 w2 o2 g2 b2
      have HO2 := Lib.hid (grown_row o1 g2 HO1.out (by decide)); have hin2 := hin1.grown o1 (by decide) g2
      obtain ⟨a6, a7, a8⟩ := cells3 HO2.out
      clear a3 a4 a5 o1 g2 hin1
      have d2 := d1.trans b2
      go_wp2_with fail
      refine (numbers4 _ [e.size] (by simp) (by simpa using hs32) _ (Rd_new w2 [iv e.size] 3 _ 1 rfl)).mono ?_
      rintro e' w3 ⟨v3, rfl, o3, b3⟩
      have d2a : Below w2.heap.size w2 w3 := ((Below.refl _ w2).alloc (Nat.le_refl _) _).trans (b3.mono (by simp))
      have o2a := own_below o2 d2a (Nat.le_refl _)
      have HO3 := Lib.hid ((d2a.block wr.heap.size (Array.getElem?_eq_some_iff.1 HO2.out).1).trans HO2.out); have hin3 := hin2.below d2a (Nat.le_refl _)
      obtain ⟨a9, a10, a11⟩ := cells3 HO3.out
      clear a6 a7 a8 hin2
      have d3 := d2.trans (d2a.mono d2.size)
      have hl3 : ll + 1 + e.name.size + (les 4 [e.size]).length ≤ 1000000000 := by rw [HNM.out, les_length]; simp; omega
      have hb4 : (bvs (les 4 [e.size])).length = (les 4 [e.size]).length * 1 := by rw [bvs_length]; omega
      have HB4 := Lib.hid hb4; clear hb4
      go_wp2_with (at_builtin; refine app_rd el97 rfl _ _ rfl rfl o2a rfl (Rd_own o3) HB4.out (oneCell_bvs _) hl3 d3.size ?_)
      intro v4 w4 o4 g4 b4
      have HO4 := Lib.hid (grown_row o2a g4 HO3.out (by decide)); have hin4 := hin3.grown o2a (by decide) g4
      obtain ⟨a12, a13, a14⟩ := cells3 HO4.out
      clear a9 a10 a11 o2 o2a g4 hin3 o3
      have d4 := d3.trans b4
      go_wp2_with fail
      refine (numbers2 _ [pp] (by simp) (by simp; omega) _ (Rd_new w4 [iv pp] 3 _ 1 rfl)).mono ?_
      rintro e' w5 ⟨v5, rfl, o5, b5⟩
      have d4a : Below w4.heap.size w4 w5 := ((Below.refl _ w4).alloc (Nat.le_refl _) _).trans (b5.mono (by simp))
      have o4a := own_below o4 d4a (Nat.le_refl _)
      have HO5 := Lib.hid ((d4a.block wr.heap.size (Array.getElem?_eq_some_iff.1 HO4.out).1).trans HO4.out); have hin5 := hin4.below d4a (Nat.le_refl _)
      obtain ⟨a15, a16, a17⟩ := cells3 HO5.out
      clear a12 a13 a14 hin4
      have d5 := d4.trans (d4a.mono d4.size)
      have hl5 : ll + 1 + e.name.size + (les 4 [e.size]).length + (les 2 [pp]).length ≤ 1000000000 := by rw [HNM.out, les_length, les_length]; simp; omega
      have hb5 : (bvs (les 2 [pp])).length = (les 2 [pp]).length * 1 := by rw [bvs_length]; omega
      have HB5 := Lib.hid hb5; clear hb5
      go_wp2_with (at_builtin; refine app_rd el97 rfl _ _ rfl rfl o4a rfl (Rd_own o5) HB5.out (oneCell_bvs _) hl5 d5.size ?_)
      intro v6 w6 o6 g6 b6
      have HO6 := Lib.hid (grown_row o4a g6 HO5.out (by decide)); have hin6 := hin5.grown o4a (by decide) g6
      obtain ⟨a18, a19, a20⟩ := cells3 HO6.out
      clear a15 a16 a17 o4 o4a g6 hin5 o5
      have d6 := d5.trans b6
      go_wp2_with fail
      refine (numbers2 _ e.pages (by rw [HPP.out]; exact hp1000) (fun n hn => Nat.lt_trans (hpg n hn) (by decide)) _ (by have := hin6.rd; rwa [HPP.out] at this ⊢)).mono ?_
      rintro e' w7 ⟨v7, rfl, o7, b7⟩
      have o6a := own_below o6 b7 (Nat.le_refl _)
      have d7 := d6.trans (b7.mono d6.size)
      have hl7 : ll + 1 + e.name.size + (les 4 [e.size]).length + (les 2 [pp]).length + (les 2 e.pages).length ≤ 1000000000 := by rw [HNM.out, les_length, les_length, les_length, HPP.out]; simp; omega
      have hb7 : (bvs (les 2 e.pages)).length = (les 2 e.pages).length * 1 := by rw [bvs_length]; omega
      have HB7 := Lib.hid hb7; clear hb7
      clear a18 a19 a20 hin6
      go_wp2_with (at_builtin; refine app_rd el97 rfl _ _ rfl rfl o6a rfl (Rd_own o7) HB7.out (oneCell_bvs _) hl7 d7.size ?_)
      intro v8 w8 o8 g8 b8
      have d8 := d7.trans b8
      go_wp2
      go_roundw
      case rel =>
        refine ⟨k + 1, HLT.out, by go_num, ?_, d8⟩
        rw [HTK.out]
        have e1 : bvs (L ++ encE e) = bvs L ++ [Value.int .u8 ((e.name.size : Int) % 256)] ++ bvs e.name.data.toList ++ bvs (les 4 [e.size]) ++ bvs (les 2 [pp]) ++ bvs (les 2 e.pages) := by
          rw [← bv_mod]
          simp [encE, encTail, bvs, les, nameBytes, HPP.out]
        have e2 : (L ++ encE e).length = ll + 1 + e.name.size + (les 4 [e.size]).length + (les 2 [pp]).length + (les 2 e.pages).length := by
          rw [List.length_append, encE_length, les_length, les_length, les_length, HLL.out]; simp; omega
        rw [e1, e2]
        simpa using o8
      case measure => have := HLT.out; simp [intOf]; omega
    · obtain rfl : k = ps.length := by omega
      rw [List.take_length] at own
      go_wp2
      go_ret
      exact ⟨_, rfl, own, hbr⟩
end Go.Proofs.Ytcgapfmdpchemaa
/- The walk of find: the binary search for a name among the entries. -/
namespace Go.Proofs.Ytcgapfmdpchemaa
open Go.RowKit
def cmpB (a b : ByteArray) : Int := Lib.compareBytes a.data.toList b.data.toList
def nlt (a b : ByteArray) : Prop := a.data.toList < b.data.toList
theorem cmp_lt_iff (a b : List UInt8) : Lib.compareBytes a b < 0 ↔ a < b := by
  induction a generalizing b with
  | nil => cases b <;> simp [Lib.compareBytes]
  | cons x a ih =>
    cases b with
    | nil => simp [Lib.compareBytes]
    | cons y b =>
      unfold Lib.compareBytes
      by_cases h1 : x < y
      · simp [h1, List.cons_lt_cons_iff]
      · by_cases h2 : y < x
        · have : x ≠ y := by rintro rfl; exact h1 h2
          simp [h1, h2, List.cons_lt_cons_iff, this]
        · obtain rfl : x = y := by
            have h3 := UInt8.not_lt.1 h1
            have h4 := UInt8.not_lt.1 h2
            exact UInt8.le_antisymm h4 h3
          simp [h1, ih]
theorem cmp_eq_iff (a b : List UInt8) : Lib.compareBytes a b = 0 ↔ a = b := by
  induction a generalizing b with
  | nil => cases b <;> simp [Lib.compareBytes]
  | cons x a ih =>
    cases b with
    | nil => simp [Lib.compareBytes]
    | cons y b =>
      unfold Lib.compareBytes
      by_cases h1 : x < y
      · have : x ≠ y := by rintro rfl; exact UInt8.lt_irrefl _ h1
        simp [h1, this]
      · by_cases h2 : y < x
        · have : x ≠ y := by rintro rfl; exact h1 h2
          simp [h1, h2, this]
        · obtain rfl : x = y := UInt8.le_antisymm (UInt8.not_lt.1 h2) (UInt8.not_lt.1 h1)
          simp [h1, ih]
theorem ba_ext {a b : ByteArray} (h : a.data.toList = b.data.toList) : a = b := by
  cases a; cases b; simp at h; rw [h]
theorem cmpB_lt (a b : ByteArray) : cmpB a b < 0 ↔ nlt a b := cmp_lt_iff _ _
theorem cmpB_eq (a b : ByteArray) : cmpB a b = 0 ↔ a = b := by
  unfold cmpB; rw [cmp_eq_iff]; exact ⟨ba_ext, fun h => by rw [h]⟩
theorem nlt_trans {a b c : ByteArray} (h : nlt a b) (k : nlt b c) : nlt a c := List.lt_trans h k
theorem nlt_irrefl (a : ByteArray) : ¬ nlt a a := List.lt_irrefl _
instance (a b : ByteArray) : Decidable (nlt a b) := inferInstanceAs (Decidable (_ < _))
/-- the names are ascending -/
def Asc (es : List DE) : Prop := es.Pairwise fun x y => nlt x.name y.name
/-- where a name stands, or would stand -/
def atB (es : List DE) (name : ByteArray) : Nat := es.findIdx fun e => ¬ nlt e.name name
def isB (es : List DE) (name : ByteArray) : Bool := es.any fun e => decide (e.name = name)
/-- what the search finds -/
theorem find_spec {es : List DE} (hs : Asc es) {name : ByteArray} {i : Nat} (hi : i ≤ es.length) (h1 : ∀ j, (h : j < es.length) → j < i → nlt es[j].name name) (h2 : ∀ j, (h : j < es.length) → i ≤ j → ¬ nlt es[j].name name) :
    i = atB es name ∧ (isB es name = true ↔ ∃ h : i < es.length, es[i].name = name) := by
  constructor
  · unfold atB
    rcases Nat.lt_trichotomy i (es.findIdx fun e => ¬ nlt e.name name) with h | h | h
    · have hlt : i < es.length := Nat.lt_of_lt_of_le h List.findIdx_le_length
      have := List.not_of_lt_findIdx h
      exact absurd (by simpa using this) (h2 i hlt (Nat.le_refl _))
    · exact h
    · have hlt : (es.findIdx fun e => ¬ nlt e.name name) < es.length := by omega
      have := List.findIdx_getElem (w := hlt)
      exact absurd (h1 _ hlt h) (by simpa using this)
  · constructor
    · intro h
      obtain ⟨e, he, hn⟩ := List.any_eq_true.1 h
      obtain rfl := of_decide_eq_true hn
      obtain ⟨j, hj, rfl⟩ := List.mem_iff_getElem.1 he
      have hij : i ≤ j := by
        refine Nat.le_of_not_lt fun hji => ?_
        exact nlt_irrefl _ (h1 j hj hji)
      rcases Nat.lt_or_eq_of_le hij with h | rfl
      · exact absurd ((List.pairwise_iff_getElem.1 hs) i j (by omega) hj h) (h2 i (by omega) (Nat.le_refl _))
      · exact ⟨hj, rfl⟩
    · rintro ⟨h, rfl⟩
      exact List.any_eq_true.2 ⟨_, List.getElem_mem h, by simp⟩
theorem nlt_of_le {es : List DE} (hs : Asc es) {name : ByteArray} {i j : Nat} (hi : i < es.length) (hj : j < es.length) (hij : i ≤ j) (h : nlt es[j].name name) : nlt es[i].name name := by
  rcases Nat.lt_or_eq_of_le hij with h' | rfl
  · exact nlt_trans ((List.pairwise_iff_getElem.1 hs) i j hi hj h') h
  · exact h
set_option maxHeartbeats 400000 in
theorem cmpString_any (a b : ByteArray) (w : World) : Calls Try.prog 80 #[.string a, .string b] w fun e w' => e = .returned (.int .i64 (cmpB a b)) ∧ w = w' := by
  go_enter Try.func80, Try.ntmps80
  go_wp2
  rw [run_callFunc_extern Try.func83 (by kernel_rfl) (by kernel_rfl) (by kernel_rfl) (e := Extern.BytealgCompare.compare) (by kernel_rfl), Lib.run_compareString]
  simp only [Result.andThen]
  rw [Oper.upon_value]
  go_wp2
  go_ret
  exact ⟨rfl, rfl⟩
set_option maxHeartbeats 400000 in
theorem compare_any (a b : ByteArray) (w : World) : Calls Try.prog 63 #[.string a, .string b] w fun e w' => e = .returned (.int .i64 (cmpB a b)) ∧ w = w' := by
  go_enter Try.func63, Try.ntmps63
  go_wp2_with (go_at_call 80; refine (cmpString_any _ _ _).mono ?_; rintro e w' ⟨rfl, rfl⟩)
  go_ret
  exact ⟨rfl, rfl⟩
set_option maxHeartbeats 400000 in
theorem find1_any (a b : ByteArray) (n : Int) (A : Option Addr) (l c : Nat) (w : World) : Calls Try.prog 62 #[.agg #[.string a, .int .i64 n, .slice A l c], .string b] w fun e w' => e = .returned (.int .i64 (cmpB a b)) ∧ Below w.heap.size w w' := by
  go_enter Try.func62, Try.ntmps62
  go_wp2_with (go_at_call 63; refine (compare_any _ _ _).mono ?_; rintro e w' ⟨rfl, rfl⟩)
  go_ret
  exact ⟨rfl, (Below.refl _ w).alloc (Nat.le_refl _) _⟩
def ents (ps : List (DE × Value)) : List DE := ps.map (·.1)
theorem ents_length (ps : List (DE × Value)) : (ents ps).length = ps.length := List.length_map ..
theorem ents_at (ps : List (DE × Value)) (j : Nat) (h : j < (ents ps).length) : (ents ps)[j] = (ps[j]'(by rwa [ents_length] at h)).1 := by simp [ents]
set_option maxRecDepth 1000000 in
set_option maxHeartbeats 2000000 in
theorem search_any (w : World) (v : Value) (ps : List (DE × Value)) (h : EntRd w v ps) (hs : Asc (ents ps)) (hlen : ps.length ≤ 1000000) (name : ByteArray) :
    Calls Try.prog 61 #[v, .string name, .func (.func 62) #[] #[]] w fun e w' => e = .returned (.tuple #[iv (atB (ents ps) name), .bool (isB (ents ps) name)]) ∧ Below w.heap.size w w' := by
  obtain ⟨A, c, rfl, hnc, hcm, -⟩ := h.rd
  go_enter Try.func61, Try.ntmps61
  go_wp2
  go_loopw [9, 10] (fun a b wr => ∃ lo hi : Nat, a = .int .i64 lo ∧ b = .int .i64 hi ∧ lo ≤ hi ∧ hi ≤ ps.length ∧ Below w.heap.size w wr ∧
      Hid (∀ j, (h : j < ps.length) → j < lo → nlt ps[j].1.name name) ∧ Hid (∀ j, (h : j < ps.length) → hi ≤ j → ¬ nlt ps[j].1.name name))
    (fun a b _ => (intOf b).toNat - (intOf a).toNat)
  case atStart => exact ⟨0, ps.length, rfl, rfl, by omega, by omega, Below.refl _ _, Lib.hid fun j _ hj => by omega, Lib.hid fun j h hj => by omega⟩
  case round =>
    obtain ⟨lo, hi, rfl, rfl, hlh, hhl, hbr, H1, H2⟩ := hrel
    have hr := h.below hbr (Nat.le_refl _)
    by_cases hlt : lo < hi
    · have hlti : (lo : Int) < (hi : Int) := by omega
      have hm : (lo + hi) / 2 < ps.length := by omega
      obtain ⟨b, off, c', he, h0, h1, h2⟩ := hr.cells hm
      cases he
      have mono : ∀ i j, (hi' : i < ps.length) → (hj : j < ps.length) → i ≤ j → nlt ps[j].1.name name → nlt ps[i].1.name name := fun i j hi' hj hij hn => by
        have := nlt_of_le hs (i := i) (j := j) (by rwa [ents_length]) (by rwa [ents_length]) hij (name := name)
        simp only [ents_at] at this
        exact this hn
      obtain ⟨A2, c2, hsl, -⟩ := hr.at_ _ (List.getElem_mem hm)
      have H3 := Lib.hid (mono · ((lo + hi) / 2) · hm)
      have H4 := Lib.hid (mono ((lo + hi) / 2) · hm ·)
      rw [hsl] at h2
      have hcz := cmpB_lt ps[(lo + hi) / 2].1.name name
      generalize hE : ps[(lo + hi) / 2].1 = e at *
      have hm1 : lo ≤ (lo + hi) / 2 := by omega
      have hm2 : (lo + hi) / 2 < hi := by omega
      clear hE mono hsl
      unfold iv at h1
      go_wp2_with fail
      refine (find1_any _ _ _ _ _ _ _).mono ?_
      rintro e' w1 ⟨rfl, b1⟩
      have d1 := hbr.trans (b1.mono hbr.size)
      clear h0 h1 h2 h hr
      generalize hz : cmpB e.name name = z at *
      have HZ := Lib.hid hz; clear hz
      by_cases hn : nlt e.name name
      · have hz0 : z < 0 := hcz.2 hn
        have HN := Lib.hid hn; have HCZ := Lib.hid hcz; clear hn hcz
        go_wp2
        go_roundw
        case rel => exact ⟨(lo + hi) / 2 + 1, hi, by go_num, rfl, by omega, hhl, d1, Lib.hid fun j hj hjm => H3.out j hj (by omega) HN.out, H2⟩
        case measure => simp [intOf]; omega
      · have hz0 : ¬ z < 0 := fun hz0 => hn (hcz.1 hz0)
        have HN := Lib.hid hn; have HCZ := Lib.hid hcz; clear hn hcz
        go_wp2
        go_roundw
        case rel => exact ⟨lo, (lo + hi) / 2, rfl, by go_num, by omega, by omega, d1, H1, Lib.hid fun j hj hjm hn => HN.out (H4.out j hj hjm hn)⟩
        case measure => simp [intOf]; omega
    · obtain rfl : lo = hi := by omega
      have hf := find_spec hs (name := name) (i := lo) (by rw [ents_length]; exact hhl) (fun j hj hjl => by rw [ents_at]; exact H1.out j (by rwa [ents_length] at hj) hjl) (fun j hj hjl => by rw [ents_at]; exact H2.out j (by rwa [ents_length] at hj) hjl)
      obtain ⟨hf1, hf2⟩ := hf
      have HF1 := Lib.hid hf1; clear hf1
      by_cases hlt2 : lo < ps.length
      · have hlti : (lo : Int) < (ps.length : Int) := by omega
        obtain ⟨b, off, c', he, h0, h1, h2⟩ := hr.cells hlt2
        cases he
        obtain ⟨A2, c2, hsl, -⟩ := hr.at_ _ (List.getElem_mem hlt2)
        rw [hsl] at h2
        have hcz := cmpB_eq ps[lo].1.name name
        have hea : (∃ h : lo < (ents ps).length, (ents ps)[lo].name = name) ↔ ps[lo].1.name = name := by
          constructor
          · rintro ⟨h, hh⟩; rwa [ents_at] at hh
          · intro hh; exact ⟨by rwa [ents_length], by rwa [ents_at]⟩
        have his : isB (ents ps) name = decide (cmpB ps[lo].1.name name = 0) := by
          rw [Bool.eq_iff_iff, decide_eq_true_eq, hcz]; exact hf2.trans hea
        generalize hE : ps[lo].1 = e at *
        have HIS := Lib.hid his
        clear hE hsl hf2 hea hcz his
        unfold iv at h1
        go_wp2_with fail
        refine (find1_any _ _ _ _ _ _ _).mono ?_
        rintro e' w1 ⟨rfl, b1⟩
        have d1 := hbr.trans (b1.mono hbr.size)
        generalize hz : cmpB e.name name = z at *
        clear h0 h1 h2 h hr hz
        have hlt2i : ¬ lo < lo := hlt
        by_cases hz0 : z = 0
        · subst hz0
          go_wp2
          go_ret2
          exact ⟨by rw [← HF1.out, HIS.out]; rfl, d1⟩
        · go_wp2
          go_ret2
          exact ⟨by rw [← HF1.out, HIS.out]; simp [hz0, iv], d1⟩
      · have hlti : ¬ (lo : Int) < (ps.length : Int) := by omega
        have his : isB (ents ps) name = false := by
          rw [Bool.eq_false_iff]
          intro hh
          obtain ⟨hh, _⟩ := hf2.1 hh
          rw [ents_length] at hh
          omega
        have HIS := Lib.hid his
        clear hf2 his h hr
        go_wp2
        go_ret2
        exact ⟨by rw [← HF1.out, HIS.out]; rfl, hbr⟩
set_option maxHeartbeats 400000 in
theorem find_any (w : World) (v : Value) (ps : List (DE × Value)) (h : EntRd w v ps) (hs : Asc (ents ps)) (hlen : ps.length ≤ 1000000) (name : ByteArray) :
    Calls Try.prog 36 #[v, .string name] w fun e w' => e = .returned (.tuple #[iv (atB (ents ps) name), .bool (isB (ents ps) name)]) ∧ Below w.heap.size w w' := by
  go_enter Try.func36, Try.ntmps36
  go_wp2_with fail
  refine (search_any w v ps h hs hlen name).mono ?_
  rintro e w' ⟨rfl, b⟩
  go_wp2
  go_ret2
  exact ⟨rfl, b⟩
end Go.Proofs.Ytcgapfmdpchemaa
