/- What the store's methods that only read return, of the abstract disk. No function is walked here. -/
import Derived.Test.YtcgapfmdpchemaaAbsB
namespace Go.Proofs.Ytcgapfmdpchemaa
open Go.RowKit
def AD.ok (A : AD) (l : List Nat) : Bool := l.all fun q => (A.hurts q).isNone
def AD.state (A : AD) (e0 : Nat) : Nat := if A.down then 9 else if e0 ≠ 0 then e0 else if A.ok A.index then 0 else 370
def AD.get (A : AD) (name : ByteArray) : ByteArray × Nat :=
  if A.state (argB name) ≠ 0 then (ByteArray.empty, A.state (argB name))
  else match A.es.find? fun e => decide (e.name = name) with
    | none => (ByteArray.empty, 4)
    | some e => if A.ok e.pages then (e.value, 0) else (ByteArray.empty, 370)
def AD.usedL (A : AD) : List Bool := usedB A.n A.index A.des
def AD.freeL (A : AD) : List Nat := Ytcgapfmdpchemaa.freeL A.usedL
def AD.free (A : AD) : Nat × Nat := if A.state 0 ≠ 0 then (0, A.state 0) else (A.freeL.length, 0)
def AD.scrub (A : AD) : List Nat × Nat :=
  if A.state 0 ≠ 0 then ([], A.state 0) else ((List.range A.n).filter fun i => A.usedL.getD i false && decide (1 < i) && (A.hurts i).isSome, 0)
def AD.list (A : AD) (from_ : ByteArray) (most : Int) : List DE × Nat :=
  if A.state (argL most) ≠ 0 then ([], A.state (argL most)) else ((A.des.drop (atB A.des from_)).take most.toNat, 0)
/-! ### Which pages are used -/
theorem set_getD (L : List Bool) (p j : Nat) (d : Bool) : (L.set p true).getD j d = true ↔ (L.getD j d = true ∨ (j = p ∧ j < L.length)) := by
  simp only [List.getD_eq_getElem?_getD, List.getElem?_set]
  by_cases h : p = j
  · subst h
    by_cases hl : p < L.length
    · simp [hl]
    · simp [hl]
  · have h' : ¬ j = p := fun e => h e.symm
    simp [h, h']
theorem mark_getD (l : List Nat) : ∀ (L : List Bool) (j : Nat) (d : Bool), (mark L l).getD j d = true ↔ (L.getD j d = true ∨ (j ∈ l ∧ j < L.length)) := by
  induction l with
  | nil => intro L j d; simp [mark]
  | cons p l ih =>
    intro L j d
    have : mark L (p :: l) = mark (L.set p true) l := rfl
    rw [this, ih, set_getD, List.length_set]
    simp only [List.mem_cons]
    constructor
    · rintro ((h | h) | h)
      · exact .inl h
      · exact .inr ⟨.inl h.1, h.2⟩
      · exact .inr ⟨.inr h.1, h.2⟩
    · rintro (h | ⟨h | h, h2⟩)
      · exact .inl (.inl h)
      · exact .inl (.inr ⟨h, h2⟩)
      · exact .inr ⟨h, h2⟩
theorem marks_getD (es : List DE) : ∀ (L : List Bool) (j : Nat) (d : Bool), (es.foldl (fun L e => mark L e.pages) L).getD j d = true ↔ (L.getD j d = true ∨ ((∃ e ∈ es, j ∈ e.pages) ∧ j < L.length)) := by
  induction es with
  | nil => intro L j d; simp
  | cons e es ih =>
    intro L j d
    rw [List.foldl_cons, ih, mark_getD, mark_length]
    simp only [List.mem_cons, exists_eq_or_imp]
    constructor
    · rintro ((h | h) | h)
      · exact .inl h
      · exact .inr ⟨.inl h.1, h.2⟩
      · exact .inr ⟨.inr h.1, h.2⟩
    · rintro (h | ⟨h | h, h2⟩)
      · exact .inl (.inl h)
      · exact .inl (.inr ⟨h, h2⟩)
      · exact .inr ⟨h, h2⟩
theorem used_iff (n : Nat) (hn : 2 ≤ n) (index : List Nat) (es : List DE) (j : Nat) (hj : j < n) (d : Bool) : (usedB n index es).getD j d = true ↔ (j < 2 ∨ j ∈ index ∨ ∃ e ∈ es, j ∈ e.pages) := by
  have hlen : (true :: true :: List.replicate (n - 2) false).length = n := by simp; omega
  unfold usedB
  rw [marks_getD, mark_getD, mark_length, hlen]
  have h0 : (true :: true :: List.replicate (n - 2) false).getD j d = true ↔ j < 2 := by
    rcases j with _ | _ | j
    · simp
    · simp
    · simp [List.getD_eq_getElem?_getD, show j < n - 2 by omega]
  rw [h0]
  constructor
  · rintro ((h | h) | h)
    · exact .inl h
    · exact .inr (.inl h.1)
    · exact .inr (.inr h.1)
  · rintro (h | h | h)
    · exact .inl (.inl h)
    · exact .inl (.inr ⟨h, hj⟩)
    · exact .inr ⟨h, hj⟩
theorem free_iff (n : Nat) (hn : 2 ≤ n) (index : List Nat) (es : List DE) (j : Nat) : j ∈ freeL (usedB n index es) ↔ (j < n ∧ 2 ≤ j ∧ j ∉ index ∧ ∀ e ∈ es, j ∉ e.pages) := by
  unfold freeL
  rw [List.mem_filter, List.mem_range, usedB_length n hn]
  constructor
  · rintro ⟨h1, h2⟩
    have h3 := not_congr (used_iff n hn index es j h1 true)
    have h4 : ¬ (usedB n index es).getD j true = true := by intro h; rw [h] at h2; cases h2
    have h5 := h3.1 h4
    refine ⟨h1, ?_, fun h => h5 (.inr (.inl h)), fun e he h => h5 (.inr (.inr ⟨e, he, h⟩))⟩
    apply Nat.le_of_not_lt; exact fun h => h5 (.inl h)
  · rintro ⟨h1, h2, h3, h4⟩
    refine ⟨h1, ?_⟩
    have h5 : ¬ (usedB n index es).getD j true = true := by
      rw [used_iff n hn index es j h1 true]
      rintro (h | h | ⟨e, he, h⟩)
      · omega
      · exact h3 h
      · exact h4 e he h
    simpa using h5
theorem freeL_nodup (L : List Bool) : (freeL L).Nodup := List.Nodup.sublist List.filter_sublist List.nodup_range
theorem freeNum_freeL (L : List Bool) : freeNum L = (freeL L).length := by
  have : ∀ k, k ≤ L.length → freeNum (L.take k) = (freeL (L.take k)).length := fun k => by
    induction k with
    | zero => intro _; rfl
    | succ k ih =>
      intro hk
      rw [freeNum_snoc L k hk, freeL_take L k hk, List.length_append, ih (by omega)]
      cases L[k] <;> rfl
  have h := this L.length (Nat.le_refl _)
  rwa [List.take_length] at h
section
variable {C : Cn} {A : AD}
theorem Rep.allB (h : Rep C A) {pages : List Nat} {L : List UInt8} (hp : PagesAre C pages L) : allB C pages = A.ok pages := by
  unfold Ytcgapfmdpchemaa.allB AD.ok
  rw [Bool.eq_iff_iff, List.all_eq_true, List.all_eq_true]
  exact ⟨fun k q hq => by rw [← h.whole hp hq]; exact k q hq, fun k q hq => by rw [h.whole hp hq]; exact k q hq⟩
theorem Rep.state (h : Rep C A) (e0 : Nat) : stateB C A.index e0 = A.state e0 := by
  unfold stateB AD.state; rw [h.down, h.allB h.ix]
theorem Rep.two (h : Rep C A) : 2 ≤ A.n := by have := h.n4; omega
theorem Rep.get (h : Rep C A) (name : ByteArray) : getB C A.index A.des name = A.get name := by
  unfold getB AD.get
  rw [h.state]
  split
  · rfl
  · cases hf : A.es.find? fun e => decide (e.name = name) with
    | none =>
      have hno := List.find?_eq_none.1 hf
      have hb : isB A.des name = false := by
        rw [Bool.eq_false_iff]
        intro hb
        obtain ⟨e, he, hn⟩ := List.any_eq_true.1 hb
        obtain ⟨x, hx, rfl⟩ := List.mem_map.1 he
        exact hno x hx hn
      rw [if_pos hb]
    | some e =>
      have he := List.mem_of_find?_eq_some hf
      have hn : e.name = name := by have := List.find?_some hf; simpa using this
      have hb : isB A.des name = true := List.any_eq_true.2 ⟨e.de, List.mem_map.2 ⟨e, he, rfl⟩, by simp [EA.de, hn]⟩
      rw [if_neg (by rw [hb]; simp)]
      obtain ⟨hi, hname⟩ := (isB_at h.asc).1 hb
      have hsame : A.des[atB A.des name] = e.de := by
        have hm : e.de ∈ A.des := List.mem_map.2 ⟨e, he, rfl⟩
        obtain ⟨j, hj, hje⟩ := List.getElem_of_mem hm
        rw [← hje]
        have hjn : A.des[j].name = name := by rw [hje]; exact hn
        rcases Nat.lt_trichotomy j (atB A.des name) with hlt | heq | hgt
        · have := List.pairwise_iff_getElem.1 h.asc j _ hj hi hlt
          rw [hjn, hname] at this
          exact absurd this (nlt_irrefl _)
        · subst heq; rfl
        · have := List.pairwise_iff_getElem.1 h.asc _ j hi hj hgt
          rw [hjn, hname] at this
          exact absurd this (nlt_irrefl _)
      rw [List.getElem?_eq_getElem hi, hsame]
      show (if Ytcgapfmdpchemaa.allB C e.pages = true then _ else _) = _
      rw [h.allB (h.vs e he)]
      dsimp only
      by_cases hok : A.ok e.pages = true
      · rw [if_pos hok, if_pos hok]
        have hrd := h.read (h.vs e he) fun q hq => by
          have := List.all_eq_true.1 hok q hq
          rw [h.flaws]; exact Option.isNone_iff_eq_none.1 this
        rw [nameBytes_length] at hrd
        show (⟨((rooms C e.pages).take e.value.size).toArray⟩, 0) = (e.value, 0)
        rw [hrd]
        congr 1
      · rw [if_neg hok, if_neg hok]
theorem Rep.free (h : Rep C A) : freeR C A.index A.des = A.free := by
  unfold freeR AD.free AD.freeL AD.usedL
  rw [h.state, h.n, freeNum_freeL]
theorem Rep.used_page (h : Rep C A) {i : Nat} (hi : i < A.n) (hu : A.usedL.getD i false = true) (h1 : 1 < i) : wholeB (C.page i) = (A.hurts i).isNone := by
  rcases (used_iff A.n h.two A.index A.des i hi false).1 hu with hl | hl | ⟨e, he, hl⟩
  · omega
  · exact h.whole h.ix hl
  · obtain ⟨x, hx, rfl⟩ := List.mem_map.1 he
    exact h.whole (h.vs x hx) hl
theorem Rep.scrub (h : Rep C A) : scrubR C A.index A.des = A.scrub := by
  unfold scrubR AD.scrub
  rw [h.state]
  split
  · rfl
  · congr 1
    unfold scrubTo
    rw [h.n]
    apply List.filter_congr
    intro i hi
    rw [List.mem_range] at hi
    show ((usedB A.n A.index A.des).getD i false && decide (1 < i) && !wholeB (C.page i)) = ((usedB A.n A.index A.des).getD i false && decide (1 < i) && (A.hurts i).isSome)
    by_cases hu : (usedB A.n A.index A.des).getD i false = true
    · by_cases h1 : 1 < i
      · rw [h.used_page hi hu h1]
        simp [h1]
      · simp [h1]
    · have : (usedB A.n A.index A.des).getD i false = false := by simpa using hu
      rw [this]; rfl
theorem Rep.list (h : Rep C A) (f : ByteArray) (m : Int) : listR C A.index A.des f m = A.list f m := by
  unfold listR AD.list; rw [h.state]
end
end Go.Proofs.Ytcgapfmdpchemaa
