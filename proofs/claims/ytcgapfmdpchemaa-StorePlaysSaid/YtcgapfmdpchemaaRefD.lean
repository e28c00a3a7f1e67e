/- The walks of the reference's heal and write. -/
import Derived.Test.YtcgapfmdpchemaaRefA
namespace Go.Proofs.Ytcgapfmdpchemaa
open Go.RowKit
theorem hflat_drop (hs : List (Nat × Nat × UInt8)) (i : Nat) : (hs.flatMap hCells).drop (i * 3) = (hs.drop i).flatMap hCells := by
  induction i generalizing hs with
  | zero => simp
  | succ i ih =>
    cases hs with
    | nil => simp
    | cons p hs =>
      rw [List.drop_succ_cons, ← ih, List.flatMap_cons, Nat.add_mul, Nat.one_mul, Nat.add_comm, ← List.drop_drop]
      congr 1
theorem hflat_take (hs : List (Nat × Nat × UInt8)) (i : Nat) : (hs.flatMap hCells).take (i * 3) = (hs.take i).flatMap hCells := by
  induction i generalizing hs with
  | zero => simp
  | succ i ih =>
    cases hs with
    | nil => simp
    | cons p hs =>
      rw [List.take_succ_cons, List.flatMap_cons, List.flatMap_cons, ← ih, List.take_append, show (hCells p).length = 3 from rfl, List.take_of_length_le (by show 3 ≤ _; omega), show (i + 1) * 3 - 3 = i * 3 by omega]
section
variable {B eb : Nat} {A : AD} {hs : List (Nat × Nat × UInt8)} {ve vi vh v : Value} {ps : List (EA × Value)} {w : World}
theorem HRow.some_ (h : HRow w B v hs) (h0 : 0 < hs.length) : ∃ g cap, v = .slice (some ⟨g, 0, none⟩) hs.length cap ∧ hs.length ≤ cap := by
  rcases h with ⟨_, rfl⟩ | ⟨g, cap, cur, rfl, _, _, h1, _⟩
  · cases h0
  · exact ⟨g, cap, rfl, h1⟩
theorem HRow.any (h : HRow w B v hs) : ∃ A n c, v = .slice A n c := by
  obtain ⟨A, c, rfl, _⟩ := h.form
  exact ⟨_, _, _, rfl⟩
theorem HRow.rd (h : HRow w B v hs) : Rd w v hs.length (hs.flatMap hCells) := by
  rcases h with ⟨rfl, rfl⟩ | ⟨g, cap, cur, rfl, _, hg, h1, h2, h3, h4⟩
  · exact ⟨none, 0, rfl, Nat.le_refl _, Nat.zero_le _, fun j hj => by cases hj⟩
  · refine ⟨_, _, rfl, h1, h2, fun j hj => ⟨_, _, rfl, ?_⟩⟩
    rw [Nat.zero_add, cell_of_row _ _ _ _ _ _ hg]
    have hj2 := hj
    rw [← h4] at hj2
    simp only [List.length_take, Array.length_toList] at hj2
    simp only [← h4, List.getElem_take, Array.getElem_toList]
    exact Array.getElem?_eq_getElem (show j < cur.size by omega)
/-- hs[:i:i] -/
theorem HRow.front {g cap : Nat} (h : HRow w B (.slice (some ⟨g, 0, none⟩) hs.length cap) hs) (i : Nat) (hi : i ≤ hs.length) : HRow w B (.slice (some ⟨g, 0, none⟩) i i) (hs.take i) := by
  have hl : (hs.take i).length = i := by rw [List.length_take]; omega
  rcases h with ⟨h1, _⟩ | ⟨g', cap', cur, h1, h2, h3, h4, h5, h6, h7⟩
  · cases h1
  · cases h1
    refine .inr ⟨g, i, cur, by rw [hl], h2, h3, by rw [hl]; exact Nat.le_refl _, by omega, by omega, ?_⟩
    rw [hl, ← hflat_take, ← h7, List.take_take, Nat.min_eq_left (by omega)]
/-- hs[l:] -/
theorem HRow.back {g cap : Nat} (h : HRow w B (.slice (some ⟨g, 0, none⟩) hs.length cap) hs) (l : Nat) (hl : l ≤ hs.length) (hc : hs.length ≤ cap) : Rd w (.slice (if cap = l then some ⟨g, 0, none⟩ else some ⟨g, l * 3, none⟩) (hs.length - l) (cap - l)) (hs.drop l).length ((hs.drop l).flatMap hCells) := by
  have hd : (hs.drop l).length = hs.length - l := List.length_drop
  have := Rd_cut h.rd (s := 3) (hCells_length hs) l (hs.length - l) cap (cap - l) (by omega) (by omega) (by omega) (Nat.le_refl _)
  rw [hflat_drop, List.take_of_length_le (by rw [hCells_length, hd]; exact Nat.le_refl _)] at this
  rw [hd]
  unfold cut at this
  rw [Option.map_some, Addr.add_lit, Nat.zero_add] at this
  exact this
theorem HRow.far (h : HRow w B v hs) {cs : Array Value} {fr : Nat × Nat} {k t : Nat} (hk : w.heap[k]? = some (.cells cs t fr)) (ht : t ≠ 148) : some k ≠ v.ownBlock := by
  rcases h with ⟨rfl, _⟩ | ⟨g, cap, cur, rfl, _, h3, _⟩
  · intro h; cases h
  · intro h
    simp only [Value.ownBlock, Option.some.injEq] at h
    subst h
    rw [hk] at h3
    simp only [Option.some.injEq, Obj.cells.injEq] at h3
    exact ht h3.2.1
/-- one damage struck -/
def strikeH (hs : List (Nat × Nat × UInt8)) (i : Nat) : List (Nat × Nat × UInt8) := hs.take i ++ hs.drop (i + 1)
theorem strike_nd {i : Nat} (h : hs.Pairwise fun x y => x.1 ≠ y.1) : (strikeH hs i).Pairwise fun x y => x.1 ≠ y.1 := by
  refine List.Pairwise.sublist ?_ h
  conv => rhs; rw [← List.take_append_drop i hs]
  exact List.Sublist.append_left (List.drop_sublist_drop_left _ (Nat.le_succ _)) _
theorem strike_look {i q : Nat} (h : hs.Pairwise fun x y => x.1 ≠ y.1) (hi : i < hs.length) (hq : hs[i].1 = q) : lookH (strikeH hs i) = healF (lookH hs) q := by
  funext p
  unfold healF
  have he : hs = hs.take i ++ hs[i] :: hs.drop (i + 1) := by rw [List.getElem_cons_drop, List.take_append_drop]
  by_cases hp : p = q
  · rw [if_pos hp]
    refine lookH_none fun x hx hxp => ?_
    rw [he] at h
    have h2 := List.pairwise_append.1 h
    rcases List.mem_append.1 hx with h3 | h3
    · exact h2.2.2 x h3 hs[i] List.mem_cons_self (by rw [hxp, hp, hq])
    · exact (List.pairwise_cons.1 h2.2.1).1 x h3 (by rw [hxp, hp, hq])
  · rw [if_neg hp]
    unfold lookH strikeH
    conv => rhs; rw [he]
    rw [List.find?_append, List.find?_append, List.find?_cons, hq]
    simp [show ¬ q = p from fun h => hp h.symm]
theorem strike_length {i : Nat} (hi : i < hs.length) : (strikeH hs i).length + 1 = hs.length := by
  unfold strikeH; simp; omega
/-- not too many damages -/
theorem heal_none {q : Nat} {f : Nat → Option (Nat × UInt8)} (h : f q = none) : healF f q = f := by
  funext p
  unfold healF
  split
  · rename_i hp; rw [hp, h]
  · rfl
set_option maxRecDepth 1000000 in
set_option maxHeartbeats 1000000 in
theorem rheal_any {m : Nat} (w : World) (h : RIs w B eb A m) (hB : B ≤ w.heap.size) (hl : m ≤ 5000) (q : Nat) : Calls Try.prog 75 #[.pointer (some ⟨eb, 0, none⟩), .int .i64 q] w fun e w' => e = .returned (.tuple #[]) ∧ RIs w' B eb { A with hurts := healF A.hurts q } m ∧ OnlyR B w w' := by
  obtain ⟨hs, ve, vi, vh, ps, h, hm⟩ := h
  have HM := Lib.hid hm
  have HR := Lib.hid h
  have c5 := h.c.2.2.2.2.2
  have f5 := h.fz 5
  clear h hm
  go_enter Try.func75, Try.ntmps75
  go_wp2_with fail
  refine (rfind_any w HR.out q).mono ?_
  rintro e w1 ⟨⟨z, rfl, hz⟩, rfl⟩
  rcases hz with ⟨i, hi, rfl, hiq⟩ | ⟨rfl, hno⟩
  · have h0i : (0 : Int) ≤ (i : Int) := by omega
    obtain ⟨g, cap, hv, hcap⟩ := HR.out.hu.some_ (Nat.lt_of_le_of_lt (Nat.zero_le _) hi)
    subst hv
    have HE := Lib.hid (strike_look HR.out.nd hi hiq)
    have HNd := Lib.hid (strike_nd (i := i) HR.out.nd)
    have HSL := Lib.hid (strike_length hi)
    have HBND := Lib.hid (show (hs.take i).length + (hs.drop (i + 1)).length ≤ 100000 by rw [List.length_take, List.length_drop]; have := HM.out; omega)
    have HFD := Lib.hid (show HRow w.drew B (.slice (some ⟨g, 0, none⟩) i i) (hs.take i) from HR.out.hu.front i (by omega))
    have HKD := Lib.hid (show Rd w.drew (.slice (if cap = i + 1 then some ⟨g, 0, none⟩ else some ⟨g, (i + 1) * 3, none⟩) (hs.length - (i + 1)) (cap - (i + 1))) (hs.drop (i + 1)).length ((hs.drop (i + 1)).flatMap hCells) from HR.out.hu.back (i + 1) (by omega) hcap)
    have HBD := Lib.hid (show B ≤ w.drew.heap.size from hB)
    have HDD := Lib.hid (show w.drew.heap[eb]? = some (.cells #[.int .i64 A.n, .int .i64 A.fuse, .bool A.down, ve, vi, .slice (some ⟨g, 0, none⟩) hs.length cap] 115 (0, 0)) from HR.out.d)
    have hi2 : i ≤ cap := by omega
    have hw1 : IntKind.i64.wrap ((i : Int) + 1) = (i : Int) + 1 := by rw [IntKind.wrap_i64]; have := HM.out; omega
    have hw2 : (0 : Int) ≤ (i : Int) + 1 := by omega
    have hw3 : ((i : Int) + 1).toNat = i + 1 := by omega
    have hw4 : (i : Int) + 1 ≤ (hs.length : Int) := by omega
    clear hi hiq
    go_wp2
    go_region_law (refine step_of rfl (op_app_h _ _ rfl (by rfl) HFD.out (by rfl) HKD.out HBND.out HBD.out ?_); intro v' w3 hrow hg; obtain ⟨A3, n3, c3, rfl⟩ := hrow.any; have d3 := (hg.block eb (Array.getElem?_eq_some_iff.1 HDD.out).1 (HFD.out.far HDD.out (by decide))).trans HDD.out; have c53 : w3.cell? ⟨eb, 5, none⟩ = some (.slice (some ⟨g, 0, none⟩) hs.length cap) := (by rw [cell_of_row _ _ _ _ _ _ d3]; rfl); have f53 : w3.frozen? ⟨eb, 5, none⟩ = false := frozen_of_row _ _ _ _ _ d3; have D3 := Lib.hid d3; have G3 := Lib.hid hg; have R3 := Lib.hid hrow; clear d3 hg hrow)
    all_goals
      go_wp2
      all_goals
        go_end0
        have ho : OnlyR B w w3 := (OnlyR.drew w).trans (HFD.out.grown G3.out)
        have ho2 := OnlyR.set (B := B) D3.out (.inl rfl) HR.out.lo 5 (.slice A3 n3 c3)
        have hfin : RAt (w3.setCell ⟨eb, 5, none⟩ (.slice A3 n3 c3)) B eb { A with hurts := healF A.hurts q } (strikeH hs i) ve vi (.slice A3 n3 c3) ps :=
          HR.out.turn (ho.trans ho2) rfl rfl (by rw [heap_setCell_same w3 eb 5 _ 115 _ D3.out]; rfl) (R3.out.set D3.out (by decide) 5 _) HNd.out (by rw [HE.out, ← HR.out.eqh])
        exact ⟨rfl, ⟨strikeH hs i, _, _, _, _, hfin, Nat.le_trans (Nat.le_of_succ_le (Nat.le_of_eq HSL.out)) HM.out⟩, ho.trans ho2⟩
  · have HH := Lib.hid (show healF A.hurts q = A.hurts from heal_none (by rw [HR.out.eqh]; exact lookH_none hno))
    clear hno
    go_wp2
    go_end0
    refine ⟨rfl, ?_, OnlyR.refl _ _⟩
    rw [HH.out]
    exact ⟨_, _, _, _, _, HR.out, HM.out⟩
end
end Go.Proofs.Ytcgapfmdpchemaa
/- The walk of the reference's write. -/
namespace Go.Proofs.Ytcgapfmdpchemaa
open Go.RowKit
theorem wrL_append (l l2 : List Nat) : ∀ A : AD, A.wrL (l ++ l2) = if (A.wrL l).2 = true then (A.wrL l).1.wrL l2 else A.wrL l := by
  induction l with
  | nil => intro A; simp [AD.wrL]
  | cons q r ih =>
    intro A
    by_cases hc : A.fuse < 0 ∨ 256 ≤ A.fuse
    · have e : ∀ s, A.wrL (q :: s) = (A.wrq q 256).wrL s := fun s => by simp only [AD.wrL]; rw [if_pos hc]
      rw [List.cons_append, e, e, ih]
    · have e : ∀ s, A.wrL (q :: s) = ({ A.wrq q A.fuse.toNat with down := true }, false) := fun s => by simp only [AD.wrL]; rw [if_neg hc]
      rw [List.cons_append, e, e]
      simp
theorem wr1 (A : AD) (q : Nat) : A.wrL [q] = if A.fuse < 0 then ({ A with hurts := healF A.hurts q }, true) else if A.fuse = 0 then ({ A with fuse := 0, down := true }, false)
    else if A.fuse < 256 then ({ A with hurts := healF A.hurts q, fuse := 0, down := true }, false) else ({ A with hurts := healF A.hurts q, fuse := A.fuse - 256 }, true) := by
  simp only [AD.wrL, AD.wrq]
  by_cases h1 : A.fuse < 0
  · rw [if_pos (.inl h1), if_pos h1, if_pos h1, if_neg (by omega)]
  · rw [if_neg h1, if_neg h1]
    by_cases h0 : A.fuse = 0
    · rw [if_neg (by omega), if_pos h0]
      simp [h0]
    · rw [if_neg h0]
      by_cases h2 : A.fuse < 256
      · rw [if_neg (by omega), if_pos h2, if_neg (by omega), if_neg h1]
        have : A.fuse - (A.fuse.toNat : Int) = 0 := by omega
        rw [this]
      · rw [if_pos (.inr (by omega)), if_neg h2, if_neg (by omega), if_neg h1]
        rfl
/-- the head written: no page of the document's is healed -/
def AD.wrH (A : AD) : AD × Bool :=
  if A.fuse < 0 then (A, true) else if A.fuse < 256 then ({ A with fuse := 0, down := true }, false) else ({ A with fuse := A.fuse - 256 }, true)
/-- some pages written, and the head -/
def AD.wrR (A : AD) (l : List Nat) : AD × Bool := if (A.wrL l).2 = true then (A.wrL l).1.wrH else A.wrL l
theorem wrH_eq {A : AD} {q : Nat} (h : A.hurts q = none) : A.wrL [q] = A.wrH := by
  rw [wr1]
  unfold AD.wrH
  rw [heal_none h]
  by_cases h1 : A.fuse < 0
  · rw [if_pos h1, if_pos h1]
  · rw [if_neg h1, if_neg h1]
    by_cases h0 : A.fuse = 0
    · rw [if_pos h0, if_pos (by omega)]
    · rw [if_neg h0]
theorem wrL_fuseb (l : List Nat) : ∀ {A : AD}, A.fuse ≤ 9223372036854775807 → (A.wrL l).1.fuse ≤ 9223372036854775807 := by
  induction l with
  | nil => intro A h; exact h
  | cons q r ih =>
    intro A h
    by_cases hc : A.fuse < 0 ∨ 256 ≤ A.fuse
    · have e : A.wrL (q :: r) = (A.wrq q 256).wrL r := by simp only [AD.wrL]; rw [if_pos hc]
      rw [e]
      refine ih ?_
      show (if A.fuse < 0 then A.fuse else A.fuse - (256 : Nat)) ≤ _
      split <;> omega
    · have e : A.wrL (q :: r) = ({ A.wrq q A.fuse.toNat with down := true }, false) := by simp only [AD.wrL]; rw [if_neg hc]
      rw [e]
      show (if A.fuse < 0 then A.fuse else A.fuse - (A.fuse.toNat : Nat)) ≤ _
      split <;> omega
section
variable {B eb m : Nat} {A : AD}
theorem RIs.setFuse {w : World} (h : RIs w B eb A m) (n : Int) : RIs (w.setCell ⟨eb, 1, none⟩ (.int .i64 n)) B eb { A with fuse := n } m ∧ OnlyR B w (w.setCell ⟨eb, 1, none⟩ (.int .i64 n)) := by
  obtain ⟨hs, ve, vi, vh, ps, h, hm⟩ := h
  exact ⟨⟨_, _, _, _, _, (h.setFuse n).1, hm⟩, (h.setFuse n).2⟩
theorem RIs.setDown {w : World} (h : RIs w B eb A m) (b : Bool) : RIs (w.setCell ⟨eb, 2, none⟩ (.bool b)) B eb { A with down := b } m ∧ OnlyR B w (w.setCell ⟨eb, 2, none⟩ (.bool b)) := by
  obtain ⟨hs, ve, vi, vh, ps, h, hm⟩ := h
  exact ⟨⟨_, _, _, _, _, (h.setDown b).1, hm⟩, (h.setDown b).2⟩
theorem RIs.c {w : World} (h : RIs w B eb A m) : w.cell? ⟨eb, 0, none⟩ = some (.int .i64 A.n) ∧ w.cell? ⟨eb, 1, none⟩ = some (.int .i64 A.fuse) ∧ w.cell? ⟨eb, 2, none⟩ = some (.bool A.down) ∧ ∀ j, w.frozen? ⟨eb, j, none⟩ = false := by
  obtain ⟨hs, ve, vi, vh, ps, h, hm⟩ := h
  exact ⟨h.c.1, h.c.2.1, h.c.2.2.1, h.fz⟩
set_option maxRecDepth 1000000 in
set_option maxHeartbeats 2000000 in
theorem rwrite_any (w : World) (h : RIs w B eb A m) (hB : B ≤ w.heap.size) (hm : m ≤ 5000) (hf : A.fuse ≤ 9223372036854775807) (v : Value) (l : List Nat) (hv : TRd w 3 v l.length (ivs l)) (hl : l.length ≤ 100000) :
    Calls Try.prog 78 #[.pointer (some ⟨eb, 0, none⟩), v] w fun e w' => e = .returned (.bool (A.wrR l).2) ∧ RIs w' B eb (A.wrR l).1 m ∧ OnlyR B w w' := by
  obtain ⟨A', c', rfl, -, -, -⟩ := id hv
  have HV := Lib.hid hv; have H := Lib.hid h; clear hv h
  have HB := Lib.hid hB; clear hB
  go_enter Try.func78, Try.ntmps78
  go_wp2
  go_loopw [5] (fun i wr => ∃ k : Nat, k ≤ l.length + 1 ∧ i = .int .i64 k ∧ OnlyR B w wr ∧ Hid ((k ≤ l.length ∧ (A.wrL (l.take k)).2 = true ∧ RIs wr B eb (A.wrL (l.take k)).1 m) ∨ (k = l.length + 1 ∧ (A.wrR l).2 = true ∧ RIs wr B eb (A.wrR l).1 m))) (fun i _ => l.length + 1 - (intOf i).toNat)
  case atStart => exact ⟨0, by omega, rfl, OnlyR.refl _ _, Lib.hid (.inl ⟨by omega, rfl, H.out⟩)⟩
  case round =>
    obtain ⟨k, hk, rfl, ho, HK⟩ := hrel
    have HO := Lib.hid ho; clear ho
    rcases HK.out with ⟨hkl, hok, hr⟩ | ⟨rfl, hok, hr⟩
    · have HFB := Lib.hid (wrL_fuseb (l.take k) hf)
      have HR := Lib.hid hr
      have HBW := Lib.hid (show B ≤ wr.heap.size from Nat.le_trans HB.out HO.out.size)
      have hki : (k : Int) ≤ (l.length : Int) := by omega
      by_cases hlt : k < l.length
      · have hki2 : (k : Int) < (l.length : Int) := by omega
        have htk : A.wrL (l.take (k + 1)) = (A.wrL (l.take k)).1.wrL [l[k]] := by rw [List.take_succ_eq_append_getElem hlt, wrL_append, if_pos hok]
        have hfull : A.wrL l = if ((A.wrL (l.take k)).1.wrL [l[k]]).2 = true then ((A.wrL (l.take k)).1.wrL [l[k]]).1.wrL (l.drop (k + 1)) else (A.wrL (l.take k)).1.wrL [l[k]] := by
          conv => lhs; rw [← List.take_append_drop (k + 1) l]
          rw [wrL_append, htk]
        obtain ⟨b, off, rfl, h0⟩ : ∃ b off, A' = some ⟨b, off, none⟩ ∧ wr.cell? ⟨b, off + k, none⟩ = some (.int .i64 l[k]) := by
          obtain ⟨a2, c2, he, _, _, hc⟩ := (HV.out.only HO.out (by decide) (by decide)).rd
          cases he
          obtain ⟨b, off, ha, hcc⟩ := hc k (by rw [ivs_length]; exact hlt)
          exact ⟨b, off, ha, by rw [hcc]; simp [ivs, iv]⟩
        have HT := Lib.hid htk; have HFU := Lib.hid hfull
        clear htk hfull HK hr hok
        generalize (A.wrL (l.take k)).1 = A1 at *
        generalize l[k] = q at *
        rw [wr1] at HT HFU
        obtain ⟨-, c1, c2, fz⟩ := HR.out.c
        have f1 := fz 1
        have f2 := fz 2
        obtain ⟨f, hfe⟩ : ∃ f, A1.fuse = f := ⟨_, rfl⟩
        rw [hfe] at c1 HFB HT HFU
        have HFE := Lib.hid hfe; clear hfe fz
        by_cases hneg : f < 0
        · have hn0 : (f != 0) = true := by rw [bne_iff_ne]; omega
          have hge : ¬ (0 : Int) ≤ f := by omega
          have E := Lib.hid (show A.wrL (l.take (k + 1)) = ({ A1 with hurts := healF A1.hurts q }, true) by rw [HT.out, if_pos hneg, HFE.out])
          clear HT HFU
          go_wp2_with fail
          refine (rheal_any wr HR.out HBW.out hm q).mono ?_
          rintro e w2 ⟨rfl, hr2, ho2⟩
          have c12 := hr2.c.2.1
          rw [show (({ A1 with hurts := healF A1.hurts q } : AD).fuse) = f from HFE.out] at c12
          have HR2 := Lib.hid hr2; have HO2 := Lib.hid (HO.out.trans ho2); clear hr2 ho2 c1 c2 f1 f2 h0
          go_wp2
          go_roundw
          case rel => exact ⟨k + 1, by omega, by go_num, HO2.out, Lib.hid (.inl ⟨by omega, by rw [E.out], by rw [E.out]; exact HR2.out⟩)⟩
          case measure => simp [intOf]; omega
        · by_cases h00 : f = 0
          · subst h00
            have E := Lib.hid (show A.wrR l = ({ A1 with fuse := 0, down := true }, false) by
              unfold AD.wrR
              rw [HFU.out, if_neg hneg, if_pos rfl]; simp)
            clear HT HFU
            go_wp2
            go_ret
            have s1 := HR.out.setFuse 0
            have s2 := s1.1.setDown true
            exact ⟨by rw [E.out]; rfl, by rw [E.out]; exact s2.1, HO.out.trans (s1.2.trans s2.2)⟩
          · have hn0 : (f != 0) = true := by rw [bne_iff_ne]; exact h00
            have hge : (0 : Int) ≤ f := by omega
            by_cases h256 : f < 256
            · have E := Lib.hid (show A.wrR l = ({ A1 with hurts := healF A1.hurts q, fuse := 0, down := true }, false) by
                unfold AD.wrR
                rw [HFU.out, if_neg hneg, if_neg h00, if_pos h256]; simp)
              clear HT HFU
              go_wp2_with fail
              refine (rheal_any wr HR.out HBW.out hm q).mono ?_
              rintro e w2 ⟨rfl, hr2, ho2⟩
              obtain ⟨-, c12, c22, fz⟩ := hr2.c
              rw [show (({ A1 with hurts := healF A1.hurts q } : AD).fuse) = f from HFE.out] at c12
              have f12 := fz 1
              have f22 := fz 2
              have HR2 := Lib.hid hr2; have HO2 := Lib.hid (HO.out.trans ho2); clear hr2 ho2 c1 c2 f1 f2 h0 fz
              go_wp2
              go_ret
              have s1 := HR2.out.setFuse 0
              have s2 := s1.1.setDown true
              exact ⟨by rw [E.out]; rfl, by rw [E.out]; exact s2.1, HO2.out.trans (s1.2.trans s2.2)⟩
            · have E := Lib.hid (show A.wrL (l.take (k + 1)) = ({ A1 with hurts := healF A1.hurts q, fuse := f - 256 }, true) by rw [HT.out, if_neg hneg, if_neg h00, if_neg h256])
              clear HT HFU
              have hfb := HFB.out
              go_wp2_with fail
              refine (rheal_any wr HR.out HBW.out hm q).mono ?_
              rintro e w2 ⟨rfl, hr2, ho2⟩
              obtain ⟨-, c12, c22, fz⟩ := hr2.c
              rw [show (({ A1 with hurts := healF A1.hurts q } : AD).fuse) = f from HFE.out] at c12
              have f12 := fz 1
              have HR2 := Lib.hid hr2; have HO2 := Lib.hid (HO.out.trans ho2); clear hr2 ho2 c1 c2 f1 f2 h0 fz
              go_wp2
              go_roundw
              case rel =>
                have s1 := HR2.out.setFuse (f - 256)
                exact ⟨k + 1, by omega, by go_num, HO2.out.trans s1.2, Lib.hid (.inl ⟨by omega, by rw [E.out], by rw [E.out]; exact s1.1⟩)⟩
              case measure => simp [intOf]; omega
      · obtain rfl : k = l.length := by omega
        rw [List.take_length] at hok HR HFB
        have hki2 : ¬ (l.length : Int) < (l.length : Int) := by omega
        have hw : A.wrR l = (A.wrL l).1.wrH := by unfold AD.wrR; rw [if_pos hok]
        have HW := Lib.hid hw
        clear hw HK hr hok
        generalize (A.wrL l).1 = A1 at *
        unfold AD.wrH at HW
        obtain ⟨-, c1, c2, fz⟩ := HR.out.c
        have f1 := fz 1
        have f2 := fz 2
        obtain ⟨f, hfe⟩ : ∃ f, A1.fuse = f := ⟨_, rfl⟩
        rw [hfe] at c1 HFB HW
        have HFE := Lib.hid hfe; clear hfe fz
        by_cases hneg : f < 0
        · have hn0 : (f != 0) = true := by rw [bne_iff_ne]; omega
          have hge : ¬ (0 : Int) ≤ f := by omega
          have E := Lib.hid (show A.wrR l = (A1, true) by rw [HW.out, if_pos hneg])
          clear HW
          go_wp2
          go_roundw
          case rel => exact ⟨l.length + 1, by omega, by go_num, HO.out, Lib.hid (.inr ⟨rfl, by rw [E.out], by rw [E.out]; exact HR.out⟩)⟩
          case measure => simp [intOf]
        · have hge : (0 : Int) ≤ f := by omega
          by_cases h256 : f < 256
          · have E := Lib.hid (show A.wrR l = ({ A1 with fuse := 0, down := true }, false) by rw [HW.out, if_neg hneg, if_pos h256])
            clear HW
            by_cases h00 : f = 0
            · subst h00
              go_wp2
              go_ret
              have s1 := HR.out.setFuse 0
              have s2 := s1.1.setDown true
              exact ⟨by rw [E.out]; rfl, by rw [E.out]; exact s2.1, HO.out.trans (s1.2.trans s2.2)⟩
            · have hn0 : (f != 0) = true := by rw [bne_iff_ne]; exact h00
              go_wp2
              go_ret
              have s1 := HR.out.setFuse 0
              have s2 := s1.1.setDown true
              exact ⟨by rw [E.out]; rfl, by rw [E.out]; exact s2.1, HO.out.trans (s1.2.trans s2.2)⟩
          · have E := Lib.hid (show A.wrR l = ({ A1 with fuse := f - 256 }, true) by rw [HW.out, if_neg hneg, if_neg h256])
            clear HW
            have hn0 : (f != 0) = true := by rw [bne_iff_ne]; omega
            have hfb := HFB.out
            go_wp2
            go_roundw
            case rel =>
              have s1 := HR.out.setFuse (f - 256)
              exact ⟨l.length + 1, by omega, by go_num, HO.out.trans s1.2, Lib.hid (.inr ⟨rfl, by rw [E.out], by rw [E.out]; exact s1.1⟩)⟩
            case measure => simp [intOf]
    · have hki : ¬ ((l.length + 1 : Nat) : Int) ≤ (l.length : Int) := by omega
      have HR := Lib.hid hr; have HOK := Lib.hid hok; clear hr hok HK
      go_wp2
      go_ret
      exact ⟨by rw [HOK.out]; rfl, HR.out, HO.out⟩
end
end Go.Proofs.Ytcgapfmdpchemaa
