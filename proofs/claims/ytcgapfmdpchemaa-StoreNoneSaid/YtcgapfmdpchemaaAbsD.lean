/- Writes, of the abstract disk. No function is walked here. -/
import Derived.Test.YtcgapfmdpchemaaAbsC
namespace Go.Proofs.Ytcgapfmdpchemaa
open Go.RowKit
theorem next256 {p q : Nat} (h : p < q) : p * 256 + 256 ≤ q * 256 := by omega
theorem wr_page {C : Cn} (hl : C.bytes.length = 256 * C.n) {q p k : Nat} (hq : q < C.n) (_hp : p < C.n) {P : List UInt8} (hP : P.length = 256) (hk : k ≤ 256) :
    (C.wr q P k).page p = if p = q then spl (C.page q) 0 (P.take k) else C.page p := by
  have h1 : (P.take k).length = k := by rw [List.length_take]; omega
  have hbl : q * 256 + 256 ≤ C.bytes.length := by omega
  unfold Cn.page Cn.wr spl
  dsimp only
  rw [h1]
  apply List.ext_getElem?
  intro j
  by_cases hpq : p = q
  · subst hpq
    rw [if_pos rfl]
    simp only [List.getElem?_take, List.getElem?_drop, List.getElem?_append, List.length_append, List.length_take, List.take_zero, List.nil_append, h1]
    grind
  · rw [if_neg hpq]
    simp only [List.getElem?_take, List.getElem?_drop, List.getElem?_append, List.length_append, List.length_take, h1]
    rcases Nat.lt_or_gt_of_ne hpq with hlt | hgt
    · have := next256 hlt
      grind
    · have := next256 hgt
      grind
theorem spl_all (L P : List UInt8) (h : L.length = P.length) : spl L 0 P = P := by
  unfold spl
  rw [List.take_zero, List.nil_append, List.drop_of_length_le (by omega), List.append_nil]
theorem spl_zero_get (L P : List UInt8) (j : Nat) (h : P.length ≤ j) (_hj : j < L.length) : (spl L 0 P).getD j 0 = L.getD j 0 := by
  simp only [spl, List.take_zero, List.nil_append, Nat.zero_add, List.getD_eq_getElem?_getD, List.getElem?_append, List.getElem?_drop]
  rw [if_neg (by omega)]
  rw [show P.length + (j - P.length) = j by omega]
theorem spl_zero_get' (L P : List UInt8) (j : Nat) (h : j < P.length) : (spl L 0 P).getD j 0 = P.getD j 0 := by
  simp only [spl, List.take_zero, List.nil_append, List.getD_eq_getElem?_getD, List.getElem?_append]
  rw [if_pos h]
/-- k bytes of a page written -/
def AD.wrq (A : AD) (q k : Nat) : AD := { A with fuse := if A.fuse < 0 then A.fuse else A.fuse - k, hurts := if k = 0 then A.hurts else healF A.hurts q }
/-- some pages written -/
def AD.wrL (A : AD) : List Nat → AD × Bool
  | [] => (A, true)
  | q :: r => if A.fuse < 0 ∨ 256 ≤ A.fuse then (A.wrq q 256).wrL r else ({ A.wrq q A.fuse.toNat with down := true }, false)
theorem healF_of {f : Nat → Option (Nat × UInt8)} {q k : Nat} {x : Nat × UInt8} (h : healF f q k = some x) : f k = some x := by
  unfold healF at h
  split at h
  · cases h
  · exact h
theorem healF_ne {f : Nat → Option (Nat × UInt8)} {q k : Nat} (h : k ≠ q) : healF f q k = f k := by unfold healF; rw [if_neg h]
theorem healF_same (f : Nat → Option (Nat × UInt8)) (q : Nat) : healF f q q = none := by unfold healF; rw [if_pos rfl]
section
variable {C : Cn} {A : AD}
theorem wr_flaws (C : Cn) (q : Nat) (P : List UInt8) (k p : Nat) (h : p ≠ q) : (C.wr q P k).flaws p = C.flaws p := by
  unfold Cn.wr
  dsimp only
  split
  · rfl
  · exact healF_ne h
theorem pagesAre_wr {C : Cn} (hl : C.bytes.length = 256 * C.n) {q k : Nat} (hq : q < C.n) {P : List UInt8} (hP : P.length = 256) (hk : k ≤ 256) {pages : List Nat} {L : List UInt8} (h : PagesAre C pages L) (hn : ∀ p ∈ pages, p < C.n ∧ p ≠ q) : PagesAre (C.wr q P k) pages L :=
  ⟨h.1, fun j hj => by
    have hm := hn _ (List.getElem_mem hj)
    rw [wr_page hl hq hm.1 hP hk, if_neg hm.2, wr_flaws _ _ _ _ _ hm.2]
    exact h.2 j hj⟩
theorem wr_len {C : Cn} (hl : C.bytes.length = 256 * C.n) {q k : Nat} (hq : q < C.n) {P : List UInt8} (hP : P.length = 256) (hk : k ≤ 256) : (C.wr q P k).bytes.length = 256 * C.n := by
  unfold Cn.wr
  dsimp only
  rw [spl_length, hl]
  rw [List.length_take, hl]; omega
/-- a page that nothing stands on written -/
theorem Rep.wr_free (h : Rep C A) {q k : Nat} (hq : q < A.n) (h2 : 2 ≤ q) (hu : q ∉ A.used) {P : List UInt8} (hP : P.length = 256) (hk : k ≤ 256) : Rep (C.wr q P k) (A.wrq q k) := by
  have hqC : q < C.n := by rw [h.n]; exact hq
  have hn4 := h.n4
  have hpl := h.place
  have pg : ∀ p, p < 2 → (C.wr q P k).page p = C.page p := fun p hp => by
    rw [wr_page h.len hqC (by rw [h.n]; omega) hP hk, if_neg (by omega)]
  have hnum : ∀ p, p < 2 → headNum (C.wr q P k) p = headNum C p := fun p hp => by unfold headNum; rw [pg p hp]
  refine ⟨h.n, ?_, h.down, ?_, wr_len h.len hqC hP hk, h.n4, h.n5, ?_, h.place, h.ch, h.chb, ?_, ?_, ?_, ?_, ?_, ?_, h.nodup, h.rng, h.asc, h.fit, h.ixl⟩
  · show (if C.fuse < 0 then C.fuse else C.fuse - k) = _
    rw [h.fuse]; rfl
  · show (if k = 0 then C.flaws else healF C.flaws q) = _
    rw [h.flaws]; rfl
  · show (if A.fuse < 0 then A.fuse else A.fuse - k) ≤ _
    have := h.fuseb
    split <;> omega
  · rw [pg _ (by show A.place < 2; omega)]; exact h.head
  · rw [pg _ (by show 1 - A.place < 2; omega)]; exact h.old255
  · rw [pg _ (by show 1 - A.place < 2; omega), hnum _ (by show 1 - A.place < 2; omega)]; exact h.old0
  · exact pagesAre_wr h.len hqC hP hk h.ix fun p hp => ⟨by rw [h.n]; exact (h.used_ix hp).2, fun e => hu (e ▸ List.mem_append_left _ hp)⟩
  · exact fun e he => pagesAre_wr h.len hqC hP hk (h.vs e he) fun p hp => ⟨by rw [h.n]; exact (h.used_es he hp).2, fun e' => hu (e' ▸ List.mem_append_right _ (List.mem_flatMap.2 ⟨e, he, hp⟩))⟩
  · intro p a f hpf
    apply h.hurts p a f
    have hpf' : (if k = 0 then A.hurts else healF A.hurts q) p = some (a, f) := hpf
    split at hpf'
    · exact hpf'
    · exact healF_of hpf'
theorem Rep.fell (h : Rep C A) : Rep { C with down := true } { A with down := true } :=
  ⟨h.n, h.fuse, rfl, h.flaws, h.len, h.n4, h.n5, h.fuseb, h.place, h.ch, h.chb, h.head, h.old255, h.old0, h.ix, h.vs, h.hurts, h.nodup, h.rng, h.asc, h.fit, h.ixl⟩
/-- pages that nothing stands on written -/
theorem Rep.wrote (ops : List (Nat × List UInt8)) : ∀ {C : Cn} {A : AD}, Rep C A → (ops.map (·.1)).Nodup → (∀ x ∈ ops, x.1 < A.n ∧ 2 ≤ x.1 ∧ x.1 ∉ A.used ∧ x.2.length = 256) →
    (Ytcgapfmdpchemaa.wrAll C ops).2 = (A.wrL (ops.map (·.1))).2 ∧ Rep (Ytcgapfmdpchemaa.wrAll C ops).1 (A.wrL (ops.map (·.1))).1
      ∧ ((Ytcgapfmdpchemaa.wrAll C ops).2 = true → ∀ x ∈ ops, (Ytcgapfmdpchemaa.wrAll C ops).1.page x.1 = x.2 ∧ (Ytcgapfmdpchemaa.wrAll C ops).1.flaws x.1 = none)
      ∧ ∀ p, p < C.n → p ∉ ops.map (·.1) → (Ytcgapfmdpchemaa.wrAll C ops).1.page p = C.page p ∧ (Ytcgapfmdpchemaa.wrAll C ops).1.flaws p = C.flaws p := by
  induction ops with
  | nil => exact fun h _ _ => ⟨rfl, h, (fun _ x hx => by cases hx), (fun _ _ _ => ⟨rfl, rfl⟩)⟩
  | cons x r ih =>
    intro C A h hnd hx
    obtain ⟨hx1, hx2, hx3, hx4⟩ := hx x (List.mem_cons_self)
    have hqC : x.1 < C.n := by rw [h.n]; exact hx1
    rw [List.map_cons] at hnd
    obtain ⟨hnx, hnr⟩ := List.nodup_cons.1 hnd
    simp only [Ytcgapfmdpchemaa.wrAll, List.map_cons, AD.wrL]
    by_cases hf : A.fuse < 0 ∨ 256 ≤ A.fuse
    · have hf' : C.fuse < 0 ∨ 256 ≤ C.fuse := by rw [h.fuse]; exact hf
      rw [if_pos hf, if_pos hf']
      obtain ⟨i1, i2, i3, i4⟩ := ih (h.wr_free hx1 hx2 hx3 hx4 (Nat.le_refl 256)) hnr fun y hy => hx y (List.mem_cons_of_mem _ hy)
      refine ⟨i1, i2, fun ht y hy => ?_, fun p hp hnp => ?_⟩
      · rcases List.mem_cons.1 hy with rfl | hy
        · have hh := i4 y.1 hqC hnx
          rw [hh.1, hh.2, wr_page h.len hqC hqC hx4 (Nat.le_refl 256), if_pos rfl, List.take_of_length_le (by omega), spl_all _ _ (by rw [C.page_length h.len hqC, hx4])]
          exact ⟨rfl, by show (if 256 = 0 then C.flaws else healF C.flaws y.1) y.1 = none; rw [if_neg (by omega), healF_same]⟩
        · exact i3 ht y hy
      · have hne : p ≠ x.1 := fun e => hnp (by rw [e]; exact List.mem_cons_self)
        have hh := i4 p hp fun hm => hnp (List.mem_cons_of_mem _ hm)
        rw [hh.1, hh.2, wr_page h.len hqC hp hx4 (Nat.le_refl 256), if_neg hne, wr_flaws _ _ _ _ _ hne]
        exact ⟨rfl, rfl⟩
    · have hf' : ¬ (C.fuse < 0 ∨ 256 ≤ C.fuse) := by rw [h.fuse]; exact hf
      rw [if_neg hf, if_neg hf']
      refine ⟨rfl, ?_, (fun ht => by cases ht), fun p hp hnp => ?_⟩
      · rw [h.fuse]
        exact (h.wr_free (P := x.2) hx1 hx2 hx3 hx4 (by omega)).fell
      · have hne : p ≠ x.1 := fun e => hnp (by rw [e]; exact List.mem_cons_self)
        have hk : C.fuse.toNat ≤ 256 := by omega
        have e1 := wr_page (P := x.2) h.len hqC hp hx4 hk
        rw [if_neg hne] at e1
        exact ⟨e1, wr_flaws C x.1 x.2 C.fuse.toNat p hne⟩
theorem headB_last (c z : Nat) (l : List Nat) (hl : l.length ≤ 100) : (headB c z l).getD 255 0 = UInt8.ofNat c := by
  have h1 := congrArg (fun x => x.getD 3 0) (headB_end c z l hl)
  simp only [List.getD_eq_getElem?_getD, List.getElem?_drop] at h1 ⊢
  rw [h1]
  simp [le]
theorem headB_first (c z : Nat) (l : List Nat) (hl : l.length ≤ 100) : (headB c z l).getD 0 0 = UInt8.ofNat c := by
  have h1 := congrArg (fun x => x.getD 0 0) (headB_slice c z l hl 0 4 (by omega))
  simp only [List.getD_eq_getElem?_getD, List.drop_zero, List.getElem?_take] at h1 ⊢
  rw [if_pos (by omega), if_pos (by omega)] at h1
  rw [h1]
  simp [les, le]
/-- the other head begun, and the power gone -/
theorem Rep.wr_cut (h : Rep C A) {k z : Nat} {l : List Nat} (hl : l.length ≤ 100) (hk : k < 256) : Rep (C.wr (1 - A.place) (headB (A.change + 1) z l) k) (A.wrq (1 - A.place) k) := by
  have hP := headB_length (A.change + 1) z l hl
  generalize hH : headB (A.change + 1) z l = P at *
  have hn4 := h.n4
  have hpl := h.place
  have hqC : 1 - A.place < C.n := by rw [h.n]; omega
  have hk' : k ≤ 256 := by omega
  have pgq : (C.wr (1 - A.place) P k).page (1 - A.place) = spl (C.page (1 - A.place)) 0 (P.take k) := by
    rw [wr_page h.len hqC hqC hP hk', if_pos rfl]
  have plen := C.page_length h.len hqC
  have htk : (P.take k).length = k := by rw [List.length_take]; omega
  refine ⟨h.n, ?_, h.down, ?_, wr_len h.len hqC hP hk', h.n4, h.n5, ?_, h.place, h.ch, h.chb, ?_, ?_, ?_, ?_, ?_, ?_, h.nodup, h.rng, h.asc, h.fit, h.ixl⟩
  · show (if C.fuse < 0 then C.fuse else C.fuse - k) = _
    rw [h.fuse]; rfl
  · show (if k = 0 then C.flaws else healF C.flaws _) = _
    rw [h.flaws]; rfl
  · show (if A.fuse < 0 then A.fuse else A.fuse - k) ≤ _
    have := h.fuseb
    split <;> omega
  · show (C.wr (1 - A.place) P k).page A.place = _
    rw [wr_page h.len hqC (by rw [h.n]; omega) hP hk', if_neg (by omega)]
    exact h.head
  · show ((C.wr (1 - A.place) P k).page (1 - A.place)).getD 255 0 = _
    rw [pgq, spl_zero_get _ _ _ (by omega) (by omega)]
    exact h.old255
  · show ((C.wr (1 - A.place) P k).page (1 - A.place)).getD 0 0 = _ ∨ headNum (C.wr (1 - A.place) P k) (1 - A.place) < _
    by_cases h0 : k = 0
    · subst h0
      have : (C.wr (1 - A.place) P 0).page (1 - A.place) = C.page (1 - A.place) := by rw [pgq]; simp [spl]
      unfold headNum
      rw [this]
      exact h.old0
    · refine .inl ?_
      rw [pgq, spl_zero_get' _ _ _ (by omega), getD_take (by omega), ← hH, headB_first _ _ _ hl]
      rfl
  · exact pagesAre_wr h.len hqC hP hk' h.ix fun p hp => ⟨by rw [h.n]; exact (h.used_ix hp).2, by have := (h.used_ix hp).1; omega⟩
  · exact fun e he => pagesAre_wr h.len hqC hP hk' (h.vs e he) fun p hp => ⟨by rw [h.n]; exact (h.used_es he hp).2, by have := (h.used_es he hp).1; omega⟩
  · intro p a f hpf
    apply h.hurts p a f
    have hpf' : (if k = 0 then A.hurts else healF A.hurts (1 - A.place)) p = some (a, f) := hpf
    split at hpf'
    · exact hpf'
    · exact healF_of hpf'
end
end Go.Proofs.Ytcgapfmdpchemaa
