/- Writes, of the abstract disk. No function is walked here. -/
import Derived.Test.YtcgapfmdpchemaaAbs
namespace Go.Proofs.Ytcgapfmdpchemaa
open Go.RowKit
theorem next256 {p q : Nat} (h : p < q) : p * 256 + 256 ≤ q * 256 := by omega
theorem wr_page {C : Cn} (hl : C.bytes.length = 256 * C.n) {q p k : Nat} (hq : q < C.n) (_hp : p < C.n) {P : List UInt8} (hP : P.length = 256) (hk : k ≤ 256) :
    (C.wr q P k).page p = if p = q then spl (C.page q) 0 (P.take k) else C.page p := by
  have h1 : (P.take k).length = k := by rw [List.length_take]; omega
  have hbl : q * 256 + 256 ≤ C.bytes.length := by omega
  unfold Cn.page Cn.wr spl
  dsimp only
  rw [h1]
  apply List.ext_getElem?
  intro j
  by_cases hpq : p = q
  · subst hpq
    rw [if_pos rfl]
    simp only [List.getElem?_take, List.getElem?_drop, List.getElem?_append, List.length_append, List.length_take, List.take_zero, List.nil_append, h1]
    grind
  · rw [if_neg hpq]
    simp only [List.getElem?_take, List.getElem?_drop, List.getElem?_append, List.length_append, List.length_take, h1]
    rcases Nat.lt_or_gt_of_ne hpq with hlt | hgt
    · have := next256 hlt
      grind
    · have := next256 hgt
      grind
theorem spl_all (L P : List UInt8) (h : L.length = P.length) : spl L 0 P = P := by
  unfold spl
  rw [List.take_zero, List.nil_append, List.drop_of_length_le (by omega), List.append_nil]
theorem spl_zero_get (L P : List UInt8) (j : Nat) (h : P.length ≤ j) (_hj : j < L.length) : (spl L 0 P).getD j 0 = L.getD j 0 := by
  simp only [spl, List.take_zero, List.nil_append, Nat.zero_add, List.getD_eq_getElem?_getD, List.getElem?_append, List.getElem?_drop]
  rw [if_neg (by omega)]
  rw [show P.length + (j - P.length) = j by omega]
theorem spl_zero_get' (L P : List UInt8) (j : Nat) (h : j < P.length) : (spl L 0 P).getD j 0 = P.getD j 0 := by
  simp only [spl, List.take_zero, List.nil_append, List.getD_eq_getElem?_getD, List.getElem?_append]
  rw [if_pos h]
/-- k bytes of a page written -/
def AD.wrq (A : AD) (q k : Nat) : AD := { A with fuse := if A.fuse < 0 then A.fuse else A.fuse - k, hurts := if k = 0 then A.hurts else healF A.hurts q }
/-- some pages written -/
def AD.wrL (A : AD) : List Nat → AD × Bool
  | [] => (A, true)
  | q :: r => if A.fuse < 0 ∨ 256 ≤ A.fuse then (A.wrq q 256).wrL r else ({ A.wrq q A.fuse.toNat with down := true }, false)
theorem healF_of {f : Nat → Option (Nat × UInt8)} {q k : Nat} {x : Nat × UInt8} (h : healF f q k = some x) : f k = some x := by
  unfold healF at h
  split at h
  · cases h
  · exact h
theorem healF_ne {f : Nat → Option (Nat × UInt8)} {q k : Nat} (h : k ≠ q) : healF f q k = f k := by unfold healF; rw [if_neg h]
theorem healF_same (f : Nat → Option (Nat × UInt8)) (q : Nat) : healF f q q = none := by unfold healF; rw [if_pos rfl]
section
variable {C : Cn} {A : AD}
theorem wr_flaws (C : Cn) (q : Nat) (P : List UInt8) (k p : Nat) (h : p ≠ q) : (C.wr q P k).flaws p = C.flaws p := by
  unfold Cn.wr
  dsimp only
  split
  · rfl
  · exact healF_ne h
theorem pagesAre_wr {C : Cn} (hl : C.bytes.length = 256 * C.n) {q k : Nat} (hq : q < C.n) {P : List UInt8} (hP : P.length = 256) (hk : k ≤ 256) {pages : List Nat} {L : List UInt8} (h : PagesAre C pages L) (hn : ∀ p ∈ pages, p < C.n ∧ p ≠ q) : PagesAre (C.wr q P k) pages L :=
  ⟨h.1, fun j hj => by
    have hm := hn _ (List.getElem_mem hj)
    rw [wr_page hl hq hm.1 hP hk, if_neg hm.2, wr_flaws _ _ _ _ _ hm.2]
    exact h.2 j hj⟩
theorem wr_len {C : Cn} (hl : C.bytes.length = 256 * C.n) {q k : Nat} (hq : q < C.n) {P : List UInt8} (hP : P.length = 256) (hk : k ≤ 256) : (C.wr q P k).bytes.length = 256 * C.n := by
  unfold Cn.wr
  dsimp only
  rw [spl_length, hl]
  rw [List.length_take, hl]; omega
/-- a page that nothing stands on written -/
theorem Rep.wr_free (h : Rep C A) {q k : Nat} (hq : q < A.n) (h2 : 2 ≤ q) (hu : q ∉ A.used) {P : List UInt8} (hP : P.length = 256) (hk : k ≤ 256) : Rep (C.wr q P k) (A.wrq q k) := by
  have hqC : q < C.n := by rw [h.n]; exact hq
  have hn4 := h.n4
  have hpl := h.place
  have pg : ∀ p, p < 2 → (C.wr q P k).page p = C.page p := fun p hp => by
    rw [wr_page h.len hqC (by rw [h.n]; omega) hP hk, if_neg (by omega)]
  have hnum : ∀ p, p < 2 → headNum (C.wr q P k) p = headNum C p := fun p hp => by unfold headNum; rw [pg p hp]
  refine ⟨h.n, ?_, h.down, ?_, wr_len h.len hqC hP hk, h.n4, h.n5, ?_, h.place, h.ch, h.chb, ?_, ?_, ?_, ?_, ?_, ?_, h.nodup, h.rng, h.asc, h.fit, h.ixl⟩
  · show (if C.fuse < 0 then C.fuse else C.fuse - k) = _
    rw [h.fuse]; rfl
  · show (if k = 0 then C.flaws else healF C.flaws q) = _
    rw [h.flaws]; rfl
  · show (if A.fuse < 0 then A.fuse else A.fuse - k) ≤ _
    have := h.fuseb
    split <;> omega
  · rw [pg _ (by show A.place < 2; omega)]; exact h.head
  · rw [pg _ (by show 1 - A.place < 2; omega)]; exact h.old255
  · rw [pg _ (by show 1 - A.place < 2; omega), hnum _ (by show 1 - A.place < 2; omega)]; exact h.old0
  · exact pagesAre_wr h.len hqC hP hk h.ix fun p hp => ⟨by rw [h.n]; exact (h.used_ix hp).2, fun e => hu (e ▸ List.mem_append_left _ hp)⟩
  · exact fun e he => pagesAre_wr h.len hqC hP hk (h.vs e he) fun p hp => ⟨by rw [h.n]; exact (h.used_es he hp).2, fun e' => hu (e' ▸ List.mem_append_right _ (List.mem_flatMap.2 ⟨e, he, hp⟩))⟩
  · intro p a f hpf
    apply h.hurts p a f
    have hpf' : (if k = 0 then A.hurts else healF A.hurts q) p = some (a, f) := hpf
    split at hpf'
    · exact hpf'
    · exact healF_of hpf'
theorem Rep.fell (h : Rep C A) : Rep { C with down := true } { A with down := true } :=
  ⟨h.n, h.fuse, rfl, h.flaws, h.len, h.n4, h.n5, h.fuseb, h.place, h.ch, h.chb, h.head, h.old255, h.old0, h.ix, h.vs, h.hurts, h.nodup, h.rng, h.asc, h.fit, h.ixl⟩
/-- pages that nothing stands on written -/
theorem Rep.wrote (ops : List (Nat × List UInt8)) : ∀ {C : Cn} {A : AD}, Rep C A → (ops.map (·.1)).Nodup → (∀ x ∈ ops, x.1 < A.n ∧ 2 ≤ x.1 ∧ x.1 ∉ A.used ∧ x.2.length = 256) →
    (Ytcgapfmdpchemaa.wrAll C ops).2 = (A.wrL (ops.map (·.1))).2 ∧ Rep (Ytcgapfmdpchemaa.wrAll C ops).1 (A.wrL (ops.map (·.1))).1
      ∧ ((Ytcgapfmdpchemaa.wrAll C ops).2 = true → ∀ x ∈ ops, (Ytcgapfmdpchemaa.wrAll C ops).1.page x.1 = x.2 ∧ (Ytcgapfmdpchemaa.wrAll C ops).1.flaws x.1 = none)
      ∧ ∀ p, p < C.n → p ∉ ops.map (·.1) → (Ytcgapfmdpchemaa.wrAll C ops).1.page p = C.page p ∧ (Ytcgapfmdpchemaa.wrAll C ops).1.flaws p = C.flaws p := by
  induction ops with
  | nil => exact fun h _ _ => ⟨rfl, h, (fun _ x hx => by cases hx), (fun _ _ _ => ⟨rfl, rfl⟩)⟩
  | cons x r ih =>
    intro C A h hnd hx
    obtain ⟨hx1, hx2, hx3, hx4⟩ := hx x (List.mem_cons_self)
    have hqC : x.1 < C.n := by rw [h.n]; exact hx1
    rw [List.map_cons] at hnd
    obtain ⟨hnx, hnr⟩ := List.nodup_cons.1 hnd
    simp only [Ytcgapfmdpchemaa.wrAll, List.map_cons, AD.wrL]
    by_cases hf : A.fuse < 0 ∨ 256 ≤ A.fuse
    · have hf' : C.fuse < 0 ∨ 256 ≤ C.fuse := by rw [h.fuse]; exact hf
      rw [if_pos hf, if_pos hf']
      obtain ⟨i1, i2, i3, i4⟩ := ih (h.wr_free hx1 hx2 hx3 hx4 (Nat.le_refl 256)) hnr fun y hy => hx y (List.mem_cons_of_mem _ hy)
      refine ⟨i1, i2, fun ht y hy => ?_, fun p hp hnp => ?_⟩
      · rcases List.mem_cons.1 hy with rfl | hy
        · have hh := i4 y.1 hqC hnx
          rw [hh.1, hh.2, wr_page h.len hqC hqC hx4 (Nat.le_refl 256), if_pos rfl, List.take_of_length_le (by omega), spl_all _ _ (by rw [C.page_length h.len hqC, hx4])]
          exact ⟨rfl, by show (if 256 = 0 then C.flaws else healF C.flaws y.1) y.1 = none; rw [if_neg (by omega), healF_same]⟩
        · exact i3 ht y hy
      · have hne : p ≠ x.1 := fun e => hnp (by rw [e]; exact List.mem_cons_self)
        have hh := i4 p hp fun hm => hnp (List.mem_cons_of_mem _ hm)
        rw [hh.1, hh.2, wr_page h.len hqC hp hx4 (Nat.le_refl 256), if_neg hne, wr_flaws _ _ _ _ _ hne]
        exact ⟨rfl, rfl⟩
    · have hf' : ¬ (C.fuse < 0 ∨ 256 ≤ C.fuse) := by rw [h.fuse]; exact hf
      rw [if_neg hf, if_neg hf']
      refine ⟨rfl, ?_, (fun ht => by cases ht), fun p hp hnp => ?_⟩
      · rw [h.fuse]
        exact (h.wr_free (P := x.2) hx1 hx2 hx3 hx4 (by omega)).fell
      · have hne : p ≠ x.1 := fun e => hnp (by rw [e]; exact List.mem_cons_self)
        have hk : C.fuse.toNat ≤ 256 := by omega
        have e1 := wr_page (P := x.2) h.len hqC hp hx4 hk
        rw [if_neg hne] at e1
        exact ⟨e1, wr_flaws C x.1 x.2 C.fuse.toNat p hne⟩
theorem headB_last (c z : Nat) (l : List Nat) (hl : l.length ≤ 100) : (headB c z l).getD 255 0 = UInt8.ofNat c := by
  have h1 := congrArg (fun x => x.getD 3 0) (headB_end c z l hl)
  simp only [List.getD_eq_getElem?_getD, List.getElem?_drop] at h1 ⊢
  rw [h1]
  simp [le]
theorem headB_first (c z : Nat) (l : List Nat) (hl : l.length ≤ 100) : (headB c z l).getD 0 0 = UInt8.ofNat c := by
  have h1 := congrArg (fun x => x.getD 0 0) (headB_slice c z l hl 0 4 (by omega))
  simp only [List.getD_eq_getElem?_getD, List.drop_zero, List.getElem?_take] at h1 ⊢
  rw [if_pos (by omega), if_pos (by omega)] at h1
  rw [h1]
  simp [les, le]
/-- the other head begun, and the power gone -/
theorem Rep.wr_cut (h : Rep C A) {k z : Nat} {l : List Nat} (hl : l.length ≤ 100) (hk : k < 256) : Rep (C.wr (1 - A.place) (headB (A.change + 1) z l) k) (A.wrq (1 - A.place) k) := by
  have hP := headB_length (A.change + 1) z l hl
  generalize hH : headB (A.change + 1) z l = P at *
  have hn4 := h.n4
  have hpl := h.place
  have hqC : 1 - A.place < C.n := by rw [h.n]; omega
  have hk' : k ≤ 256 := by omega
  have pgq : (C.wr (1 - A.place) P k).page (1 - A.place) = spl (C.page (1 - A.place)) 0 (P.take k) := by
    rw [wr_page h.len hqC hqC hP hk', if_pos rfl]
  have plen := C.page_length h.len hqC
  have htk : (P.take k).length = k := by rw [List.length_take]; omega
  refine ⟨h.n, ?_, h.down, ?_, wr_len h.len hqC hP hk', h.n4, h.n5, ?_, h.place, h.ch, h.chb, ?_, ?_, ?_, ?_, ?_, ?_, h.nodup, h.rng, h.asc, h.fit, h.ixl⟩
  · show (if C.fuse < 0 then C.fuse else C.fuse - k) = _
    rw [h.fuse]; rfl
  · show (if k = 0 then C.flaws else healF C.flaws _) = _
    rw [h.flaws]; rfl
  · show (if A.fuse < 0 then A.fuse else A.fuse - k) ≤ _
    have := h.fuseb
    split <;> omega
  · show (C.wr (1 - A.place) P k).page A.place = _
    rw [wr_page h.len hqC (by rw [h.n]; omega) hP hk', if_neg (by omega)]
    exact h.head
  · show ((C.wr (1 - A.place) P k).page (1 - A.place)).getD 255 0 = _
    rw [pgq, spl_zero_get _ _ _ (by omega) (by omega)]
    exact h.old255
  · show ((C.wr (1 - A.place) P k).page (1 - A.place)).getD 0 0 = _ ∨ headNum (C.wr (1 - A.place) P k) (1 - A.place) < _
    by_cases h0 : k = 0
    · subst h0
      have : (C.wr (1 - A.place) P 0).page (1 - A.place) = C.page (1 - A.place) := by rw [pgq]; simp [spl]
      unfold headNum
      rw [this]
      exact h.old0
    · refine .inl ?_
      rw [pgq, spl_zero_get' _ _ _ (by omega), getD_take (by omega), ← hH, headB_first _ _ _ hl]
      rfl
  · exact pagesAre_wr h.len hqC hP hk' h.ix fun p hp => ⟨by rw [h.n]; exact (h.used_ix hp).2, by have := (h.used_ix hp).1; omega⟩
  · exact fun e he => pagesAre_wr h.len hqC hP hk' (h.vs e he) fun p hp => ⟨by rw [h.n]; exact (h.used_es he hp).2, by have := (h.used_es he hp).1; omega⟩
  · intro p a f hpf
    apply h.hurts p a f
    have hpf' : (if k = 0 then A.hurts else healF A.hurts (1 - A.place)) p = some (a, f) := hpf
    split at hpf'
    · exact hpf'
    · exact healF_of hpf'
end
end Go.Proofs.Ytcgapfmdpchemaa
/- Do, of the abstract disk. No function is walked here. -/
namespace Go.Proofs.Ytcgapfmdpchemaa
open Go.RowKit
/-- what Do works on -/
structure WA where
  es : List EA
  free : List Nat
  places : List Nat
def WA.des (s : WA) : List DE := s.es.map EA.de
def dropA (es : List EA) (name : ByteArray) : List EA := if isB (es.map EA.de) name then es.take (atB (es.map EA.de) name) ++ es.drop (atB (es.map EA.de) name + 1) else es
def WA.put (s : WA) (x : Pt) : Option WA :=
  if x.drop then some { s with es := dropA s.es x.name }
  else if s.free.length < parts x.value.size then none
  else some ⟨(dropA s.es x.name).take (atB (s.es.map EA.de) x.name) ++ ⟨x.name, x.value, s.free.take (parts x.value.size)⟩ :: (dropA s.es x.name).drop (atB (s.es.map EA.de) x.name),
    s.free.drop (parts x.value.size), s.places ++ s.free.take (parts x.value.size)⟩
def WA.puts (s : WA) : List Pt → Option WA
  | [] => some s
  | x :: l => match s.put x with
    | none => none
    | some s' => s'.puts l
def AD.doS (A : AD) (s : WA) : Nat × AD :=
  if s.free.length < parts (enc s.des).length ∨ 100 < parts (enc s.des).length then (5, A)
  else match A.wrL (s.places ++ s.free.take (parts (enc s.des).length)) with
    | (A1, false) => (9, A1)
    | (A1, true) => match A1.wrL [1 - A.place] with
      | (A2, false) => (9, A2)
      | (A2, true) => (0, { A2 with es := s.es, index := s.free.take (parts (enc s.des).length), change := A.change + 1, place := 1 - A.place })
def AD.doA (A : AD) (l : List Pt) (r : Nat) : Nat × AD :=
  if A.state r ≠ 0 ∨ l = [] then (A.state r, A)
  else if noneB A.des l then (4, A)
  else match WA.puts ⟨A.es, A.freeL, []⟩ l with
    | none => (5, A)
    | some s => A.doS s
/-! ### The two kinds of work side by side -/
def WA.toWS (s : WA) (pgs : List (List UInt8)) : WS := ⟨s.des, s.free, pgs, s.places⟩
def pgx (x : Pt) : List (List UInt8) := if x.drop then [] else chunksB (nameBytes x.value)
theorem dropA_map (es : List EA) (name : ByteArray) : (dropA es name).map EA.de = dropB (es.map EA.de) name := by
  unfold dropA dropB
  split
  · rw [List.map_append, List.map_take, List.map_drop]
  · rfl
theorem put_sim (s : WA) (pgs : List (List UInt8)) (x : Pt) : (s.toWS pgs).put x = (s.put x).map fun s' => s'.toWS (pgs ++ pgx x) := by
  unfold WS.put WA.put pgx
  by_cases hd : x.drop = true
  · rw [if_pos hd, if_pos hd, if_pos hd]
    simp only [Option.map_some, WA.toWS, WA.des, dropA_map, List.append_nil]
  · rw [if_neg hd, if_neg hd, if_neg hd]
    by_cases hf : s.free.length < parts x.value.size
    · rw [if_pos hf]
      have : (s.toWS pgs).free.length < parts x.value.size := hf
      rw [if_pos this]; rfl
    · rw [if_neg hf]
      have : ¬ (s.toWS pgs).free.length < parts x.value.size := hf
      rw [if_neg this]
      simp only [Option.map_some, WA.toWS, WA.des, List.map_append, List.map_take, List.map_cons, List.map_drop, dropA_map]
      rfl
theorem puts_sim (l : List Pt) : ∀ (s : WA) (pgs : List (List UInt8)), (s.toWS pgs).puts l = (s.puts l).map fun s' => s'.toWS (pgs ++ l.flatMap pgx) := by
  induction l with
  | nil => intro s pgs; simp [WS.puts, WA.puts]
  | cons x l ih =>
    intro s pgs
    simp only [WS.puts, WA.puts, put_sim]
    cases s.put x with
    | none => rfl
    | some t => simp only [Option.map_some, ih, List.flatMap_cons, List.append_assoc]
structure WAOk (A : AD) (s : WA) (pgs : List (List UInt8)) : Prop where
  fl : s.places ++ s.free = A.freeL
  len : pgs.length = s.places.length
  ent : ∀ e ∈ s.es, e ∈ A.es ∨ (e.pages.length = parts e.value.size ∧ ∀ k, (h : k < e.pages.length) → (e.pages[k], madeB (partL (nameBytes e.value) k)) ∈ s.places.zip pgs)
  nd : (s.es.flatMap (·.pages) ++ s.free).Nodup
theorem dropA_sub (es : List EA) (name : ByteArray) : (dropA es name).Sublist es := by
  unfold dropA
  split
  · conv => rhs; rw [← List.take_append_drop (atB (es.map EA.de) name) es]
    exact List.Sublist.append_left (List.drop_sublist_drop_left _ (Nat.le_succ _)) _
  · exact List.Sublist.refl _
theorem flatMap_sub {es fs : List EA} (h : es.Sublist fs) : (es.flatMap (·.pages)).Sublist (fs.flatMap (·.pages)) := by
  induction h with
  | slnil => exact List.Sublist.refl _
  | cons a _ ih => rw [List.flatMap_cons]; exact ih.trans (List.sublist_append_right _ _)
  | cons_cons a _ ih => rw [List.flatMap_cons, List.flatMap_cons]; exact List.Sublist.append_left ih _
theorem chunksB_get (L : List UInt8) (k : Nat) (h : k < (chunksB L).length) : (chunksB L)[k] = madeB (partL L k) := by
  simp [chunksB, partL]
theorem zip_mem {α β : Type} (l : List α) (m : List β) (k : Nat) (h1 : k < l.length) (h2 : k < m.length) : (l[k], m[k]) ∈ l.zip m := by
  have : k < (l.zip m).length := by rw [List.length_zip]; omega
  have h3 : (l.zip m)[k] = (l[k], m[k]) := List.getElem_zip
  exact h3 ▸ List.getElem_mem this
theorem WAOk.put {A : AD} {s s' : WA} {pgs : List (List UInt8)} {x : Pt} (h : WAOk A s pgs) (hp : s.put x = some s') : WAOk A s' (pgs ++ pgx x) := by
  have hsub := dropA_sub s.es x.name
  unfold WA.put at hp
  unfold pgx
  by_cases hd : x.drop = true
  · rw [if_pos hd] at hp ⊢
    cases hp
    rw [List.append_nil]
    exact ⟨h.fl, h.len, fun e he => h.ent e (hsub.mem he), List.Nodup.sublist (List.Sublist.append_right (flatMap_sub hsub) _) h.nd⟩
  · rw [if_neg hd] at hp ⊢
    by_cases hf : s.free.length < parts x.value.size
    · rw [if_pos hf] at hp; cases hp
    · rw [if_neg hf] at hp
      cases hp
      have htl : (s.free.take (parts x.value.size)).length = parts x.value.size := by rw [List.length_take]; omega
      have hcl : (chunksB (nameBytes x.value)).length = parts x.value.size := by rw [chunksB_length, nameBytes_length]
      have hzip : (s.places ++ s.free.take (parts x.value.size)).zip (pgs ++ chunksB (nameBytes x.value)) = s.places.zip pgs ++ (s.free.take (parts x.value.size)).zip (chunksB (nameBytes x.value)) := List.zip_append h.len.symm
      have hold : ∀ e ∈ dropA s.es x.name, e ∈ A.es ∨ (e.pages.length = parts e.value.size ∧ ∀ k, (h : k < e.pages.length) → (e.pages[k], madeB (partL (nameBytes e.value) k)) ∈ (s.places ++ s.free.take (parts x.value.size)).zip (pgs ++ chunksB (nameBytes x.value))) := fun e he => by
        rcases h.ent e (hsub.mem he) with h1 | ⟨h1, h2⟩
        · exact .inl h1
        · exact .inr ⟨h1, fun k hk => by rw [hzip]; exact List.mem_append_left _ (h2 k hk)⟩
      refine ⟨?_, ?_, ?_, ?_⟩
      · show (s.places ++ s.free.take _) ++ s.free.drop _ = _
        rw [List.append_assoc, List.take_append_drop]; exact h.fl
      · show (pgs ++ chunksB _).length = (s.places ++ s.free.take _).length
        rw [List.length_append, List.length_append, h.len, hcl, htl]
      · intro e he
        rcases List.mem_append.1 he with he | he
        · exact hold e (List.mem_of_mem_take he)
        · rcases List.mem_cons.1 he with rfl | he
          · refine .inr ⟨htl, fun k hk => ?_⟩
            rw [hzip]
            refine List.mem_append_right _ ?_
            have hk2 : k < (chunksB (nameBytes x.value)).length := by rw [hcl, ← htl]; exact hk
            have := zip_mem (s.free.take (parts x.value.size)) (chunksB (nameBytes x.value)) k hk hk2
            rw [chunksB_get] at this
            exact this
          · exact hold e (List.mem_of_mem_drop he)
      · show ((((dropA s.es x.name).take (atB (s.es.map EA.de) x.name) ++ (⟨x.name, x.value, s.free.take (parts x.value.size)⟩ : EA) :: (dropA s.es x.name).drop (atB (s.es.map EA.de) x.name)).flatMap (·.pages)) ++ s.free.drop (parts x.value.size)).Nodup
        have h1 : ((dropA s.es x.name).flatMap (·.pages) ++ s.free).Nodup := List.Nodup.sublist (List.Sublist.append_right (flatMap_sub hsub) _) h.nd
        refine List.Perm.nodup ?_ h1
        generalize hDA : dropA s.es x.name = D
        generalize atB (s.es.map EA.de) x.name = j
        generalize parts x.value.size = m
        rw [List.flatMap_append, List.flatMap_cons]
        conv => lhs; rw [← List.take_append_drop j D, List.flatMap_append, ← List.take_append_drop m s.free]
        simp only [List.append_assoc]
        refine List.Perm.append_left _ ?_
        exact (List.perm_append_comm_assoc _ _ _)
theorem WAOk.puts {A : AD} {l : List Pt} : ∀ {s s' : WA} {pgs : List (List UInt8)}, WAOk A s pgs → s.puts l = some s' → WAOk A s' (pgs ++ l.flatMap pgx) := by
  induction l with
  | nil => intro s s' pgs h hp; simp only [WA.puts, Option.some.injEq] at hp; subst hp; simpa using h
  | cons x l ih =>
    intro s s' pgs h hp
    simp only [WA.puts] at hp
    cases hx : s.put x with
    | none => rw [hx] at hp; cases hp
    | some t =>
      rw [hx] at hp
      have := ih (h.put hx) hp
      rwa [List.flatMap_cons, ← List.append_assoc]
theorem Rep.start {C : Cn} {A : AD} (h : Rep C A) : WAOk A ⟨A.es, A.freeL, []⟩ [] := by
  refine ⟨rfl, rfl, fun e he => .inl he, ?_⟩
  refine List.nodup_append.2 ⟨(List.nodup_append.1 h.nodup).2.1, freeL_nodup _, fun a ha b hb hab => ?_⟩
  subst hab
  obtain ⟨e, he, hq⟩ := List.mem_flatMap.1 ha
  exact ((free_iff A.n h.two A.index A.des a).1 hb).2.2.2 e.de (List.mem_map.2 ⟨e, he, rfl⟩) hq
theorem Rep.free_page {C : Cn} {A : AD} (h : Rep C A) {q : Nat} (hq : q ∈ A.freeL) : q < A.n ∧ 2 ≤ q ∧ q ∉ A.used := by
  obtain ⟨h1, h2, h3, h4⟩ := (free_iff A.n h.two A.index A.des q).1 hq
  refine ⟨h1, h2, fun hu => ?_⟩
  rcases List.mem_append.1 hu with hu | hu
  · exact h3 hu
  · obtain ⟨e, he, hq⟩ := List.mem_flatMap.1 hu
    exact h4 e.de (List.mem_map.2 ⟨e, he, rfl⟩) hq
/-! ### The change number where only pages behind the heads are written -/
def nstep (r : List UInt8 × Nat × Nat) (P : List UInt8) (k : Nat) : List UInt8 × Nat × Nat :=
  if r.2.2 < num ((P.drop 0).take 4) ∧ num ((P.drop 0).take 4) = num (((P.drop 252).take 4).reverse) then (P, k, num ((P.drop 0).take 4)) else r
theorem newest_step (C : Cn) (k : Nat) : newestTo C (k + 1) = nstep (newestTo C k) (C.page k) k := rfl
theorem newest_congr {C C' : Cn} (h : C'.bytes.take 512 = C.bytes.take 512) : newestTo C' 2 = newestTo C 2 := by
  have hp : ∀ q, q < 2 → C'.page q = C.page q := fun q hq => by
    have e : ∀ L : List UInt8, (L.drop (q * 256)).take 256 = ((L.take 512).drop (q * 256)).take 256 := fun L => by
      rw [List.drop_take, List.take_take]
      congr 1; omega
    unfold Cn.page
    rw [e C'.bytes, e C.bytes, h]
  have h0 := hp 0 (by omega)
  have h1 := hp 1 (by omega)
  rw [newest_step, newest_step, newest_step, newest_step, h0, h1]
  rfl
theorem wr_low (C : Cn) (q k : Nat) (P : List UInt8) (h2 : 2 ≤ q) (hl : 512 ≤ C.bytes.length) : (C.wr q P k).bytes.take 512 = C.bytes.take 512 ∧ 512 ≤ (C.wr q P k).bytes.length := by
  have : 512 ≤ q * 256 := by omega
  constructor
  · show (spl C.bytes (q * 256) (P.take k)).take 512 = _
    unfold spl
    rw [List.append_assoc, List.take_append_of_le_length (by rw [List.length_take]; omega), List.take_take, Nat.min_eq_left this]
  · show 512 ≤ (spl C.bytes (q * 256) (P.take k)).length
    unfold spl
    simp only [List.length_append, List.length_take]
    omega
theorem wrAll_low (ops : List (Nat × List UInt8)) : ∀ C : Cn, 512 ≤ C.bytes.length → (∀ x ∈ ops, 2 ≤ x.1) → (wrAll C ops).1.bytes.take 512 = C.bytes.take 512 := by
  induction ops with
  | nil => intro C _ _; rfl
  | cons x r ih =>
    intro C hl hx
    have h2 := hx x List.mem_cons_self
    simp only [wrAll]
    split
    · obtain ⟨a, b⟩ := wr_low C x.1 256 x.2 h2 hl
      rw [ih _ b fun y hy => hx y (List.mem_cons_of_mem _ hy), a]
    · exact (wr_low C x.1 C.fuse.toNat x.2 h2 hl).1
theorem Rep.change {C : Cn} {A : AD} (h : Rep C A) (ops : List (Nat × List UInt8)) (hx : ∀ x ∈ ops, 2 ≤ x.1) : (newestTo (Ytcgapfmdpchemaa.wrAll C ops).1 2) = (headB A.change A.dirB.length A.index, A.place, A.change) := by
  rw [← h.newest]
  exact newest_congr (wrAll_low ops C (by have := h.len; have := h.n; have := h.n4; omega) hx)
theorem wrL_keeps (l : List Nat) : ∀ A : AD, (A.wrL l).1.n = A.n ∧ (A.wrL l).1.es = A.es ∧ (A.wrL l).1.index = A.index ∧ (A.wrL l).1.change = A.change ∧ (A.wrL l).1.place = A.place := by
  induction l with
  | nil => intro A; exact ⟨rfl, rfl, rfl, rfl, rfl⟩
  | cons q r ih =>
    intro A
    simp only [AD.wrL]
    split
    · exact ih _
    · exact ⟨rfl, rfl, rfl, rfl, rfl⟩
end Go.Proofs.Ytcgapfmdpchemaa
