/- What the abstract store says of names behind a Do. No function is walked here. -/
import Derived.Test.YtcgapfmdpchemaaAbsF
namespace Go.Proofs.Ytcgapfmdpchemaa
open Go.RowKit
/-- the entry of a name -/
def lookA (es : List EA) (n : ByteArray) : Option EA := es.find? fun e => decide (e.name = n)
theorem lookA_none {es : List EA} {n : ByteArray} : lookA es n = none ↔ ∀ e ∈ es, e.name ≠ n := by
  unfold lookA
  rw [List.find?_eq_none]
  exact ⟨fun h e he hn => h e he (by simp [hn]), fun h e he hn => h e he (by simpa using hn)⟩
theorem lookA_append (es fs : List EA) (n : ByteArray) : lookA (es ++ fs) n = (lookA es n).or (lookA fs n) := by
  unfold lookA; rw [List.find?_append]
theorem lookA_cons (e : EA) (es : List EA) (n : ByteArray) : lookA (e :: es) n = if e.name = n then some e else lookA es n := by
  unfold lookA
  rw [List.find?_cons]
  by_cases h : e.name = n <;> simp [h]
theorem des_take (es : List EA) (i : Nat) : (es.take i).map EA.de = (es.map EA.de).take i := List.map_take
theorem des_drop (es : List EA) (i : Nat) : (es.drop i).map EA.de = (es.map EA.de).drop i := List.map_drop
theorem des_mem {es : List EA} {e : EA} (h : e ∈ es) : e.de ∈ es.map EA.de := List.mem_map.2 ⟨e, h, rfl⟩
theorem dropA_self {es : List EA} (hs : Asc (es.map EA.de)) (name : ByteArray) : lookA (dropA es name) name = none := by
  rw [lookA_none]
  intro e he hn
  unfold dropA at he
  split at he
  · rename_i hb
    rcases List.mem_append.1 he with h | h
    · have h1 : e.de ∈ (es.map EA.de).take (atB (es.map EA.de) name) := by rw [← des_take]; exact des_mem h
      have := take_before _ h1
      rw [show e.de.name = name from hn] at this
      exact nlt_irrefl _ this
    · have h1 : e.de ∈ (dropB (es.map EA.de) name).drop (atB (es.map EA.de) name) := by
        rw [drop_dropB, if_pos hb, ← des_drop]; exact des_mem h
      have := drop_after hs _ h1
      rw [show e.de.name = name from hn] at this
      exact nlt_irrefl _ this
  · rename_i hb
    exact isB_name (by simpa using hb) e.de (des_mem he) hn
theorem dropA_other {es : List EA} (hs : Asc (es.map EA.de)) {name n : ByteArray} (hn : n ≠ name) : lookA (dropA es name) n = lookA es n := by
  unfold dropA
  split
  · rename_i hb
    obtain ⟨hi, hname⟩ := isB_lt hs hb
    rw [List.length_map] at hi
    rw [List.getElem_map] at hname
    generalize atB (es.map EA.de) name = i at *
    have he : es = es.take i ++ es[i] :: es.drop (i + 1) := by rw [List.getElem_cons_drop, List.take_append_drop]
    conv => rhs; rw [he]
    rw [lookA_append, lookA_append, lookA_cons, if_neg]
    intro h
    exact hn (h.symm.trans hname)
  · rfl
theorem put_look {s s' : WA} {x : Pt} (hs : Asc s.des) (hp : s.put x = some s') (n : ByteArray) :
    lookA s'.es n = if n = x.name then (if x.drop then none else some ⟨x.name, x.value, s.free.take (parts x.value.size)⟩) else lookA s.es n := by
  unfold WA.put at hp
  by_cases hd : x.drop = true
  · rw [if_pos hd] at hp
    obtain rfl := Option.some.inj hp
    rw [if_pos hd]
    show lookA (dropA s.es x.name) n = _
    by_cases hn : n = x.name
    · rw [if_pos hn, hn, dropA_self hs]
    · rw [if_neg hn, dropA_other hs hn]
  · rw [if_neg hd] at hp
    by_cases hf : s.free.length < parts x.value.size
    · rw [if_pos hf] at hp; cases hp
    · rw [if_neg hf] at hp
      obtain rfl := Option.some.inj hp
      rw [if_neg hd]
      show lookA ((dropA s.es x.name).take (atB (s.es.map EA.de) x.name) ++ ⟨x.name, x.value, s.free.take (parts x.value.size)⟩ :: (dropA s.es x.name).drop (atB (s.es.map EA.de) x.name)) n = _
      rw [lookA_append, lookA_cons]
      by_cases hn : n = x.name
      · subst hn
        have h1 : lookA ((dropA s.es x.name).take (atB (s.es.map EA.de) x.name)) x.name = none := by
          rw [lookA_none]
          exact fun e he => lookA_none.1 (dropA_self hs x.name) e (List.mem_of_mem_take he)
        rw [h1]
        simp
      · rw [if_neg hn, ← dropA_other hs hn]
        show _ = lookA _ n
        rw [if_neg (fun h => hn h.symm)]
        conv => rhs; rw [← List.take_append_drop (atB (s.es.map EA.de) x.name) (dropA s.es x.name)]
        rw [lookA_append]
theorem put_asc {s s' : WA} {x : Pt} (hs : Asc s.des) (hp : s.put x = some s') : Asc s'.des := by
  unfold WA.put at hp
  by_cases hd : x.drop = true
  · rw [if_pos hd] at hp
    obtain rfl := Option.some.inj hp
    show Asc ((dropA s.es x.name).map EA.de)
    rw [dropA_map]
    exact dropB_asc hs _
  · rw [if_neg hd] at hp
    by_cases hf : s.free.length < parts x.value.size
    · rw [if_pos hf] at hp; cases hp
    · rw [if_neg hf] at hp
      obtain rfl := Option.some.inj hp
      show Asc (((dropA s.es x.name).take (atB (s.es.map EA.de) x.name) ++ ⟨x.name, x.value, s.free.take (parts x.value.size)⟩ :: (dropA s.es x.name).drop (atB (s.es.map EA.de) x.name)).map EA.de)
      rw [List.map_append, List.map_cons, List.map_take, List.map_drop, dropA_map]
      exact insert_asc hs ⟨x.name, x.value.size, s.free.take (parts x.value.size)⟩
theorem put_places {s s' : WA} {x : Pt} (hp : s.put x = some s') : ∃ t, s'.places = s.places ++ t ∧ (x.drop = false → t = s.free.take (parts x.value.size)) := by
  unfold WA.put at hp
  by_cases hd : x.drop = true
  · rw [if_pos hd] at hp
    obtain rfl := Option.some.inj hp
    exact ⟨[], by simp, fun h => by rw [hd] at h; cases h⟩
  · rw [if_neg hd] at hp
    by_cases hf : s.free.length < parts x.value.size
    · rw [if_pos hf] at hp; cases hp
    · rw [if_neg hf] at hp
      obtain rfl := Option.some.inj hp
      exact ⟨_, rfl, fun _ => rfl⟩
theorem puts_asc {l : List Pt} : ∀ {s s' : WA}, Asc s.des → s.puts l = some s' → Asc s'.des := by
  induction l with
  | nil => intro s s' hs hp; cases hp; exact hs
  | cons x l ih =>
    intro s s' hs hp
    simp only [WA.puts] at hp
    cases h1 : s.put x with
    | none => rw [h1] at hp; cases hp
    | some s1 => rw [h1] at hp; exact ih (put_asc hs h1) hp
theorem puts_places {l : List Pt} : ∀ {s s' : WA}, s.puts l = some s' → ∀ p ∈ s.places, p ∈ s'.places := by
  induction l with
  | nil => intro s s' hp; cases hp; exact fun p h => h
  | cons x l ih =>
    intro s s' hp p hpp
    simp only [WA.puts] at hp
    cases h1 : s.put x with
    | none => rw [h1] at hp; cases hp
    | some s1 =>
      rw [h1] at hp
      obtain ⟨t, ht, -⟩ := put_places h1
      exact ih hp p (by rw [ht]; exact List.mem_append_left _ hpp)
/-- a name that is not named keeps its entry -/
theorem puts_other {l : List Pt} {n : ByteArray} : ∀ {s s' : WA}, Asc s.des → s.puts l = some s' → (∀ x ∈ l, x.name ≠ n) → lookA s'.es n = lookA s.es n := by
  induction l with
  | nil => intro s s' _ hp _; cases hp; rfl
  | cons x l ih =>
    intro s s' hs hp hn
    simp only [WA.puts] at hp
    cases h1 : s.put x with
    | none => rw [h1] at hp; cases hp
    | some s1 =>
      rw [h1] at hp
      rw [ih (put_asc hs h1) hp (fun y hy => hn y (List.mem_cons_of_mem _ hy)), put_look hs h1, if_neg (fun h => hn x (List.mem_cons_self) h.symm)]
/-- the names of some changes are different -/
def Diff (l : List Pt) : Prop := l.Pairwise fun x y => x.name ≠ y.name
/-- what is said of a name behind some changes -/
theorem puts_look {l : List Pt} : ∀ {s s' : WA}, Asc s.des → s.puts l = some s' → Diff l → ∀ x ∈ l, 
    if x.drop then lookA s'.es x.name = none else ∃ e, lookA s'.es x.name = some e ∧ e.value = x.value ∧ ∀ p ∈ e.pages, p ∈ s'.places := by
  induction l with
  | nil => intro s s' _ _ _ x hx; cases hx
  | cons y l ih =>
    intro s s' hs hp hd x hx
    simp only [WA.puts] at hp
    cases h1 : s.put y with
    | none => rw [h1] at hp; cases hp
    | some s1 =>
      rw [h1] at hp
      obtain ⟨hy, hd'⟩ := List.pairwise_cons.1 hd
      rcases List.mem_cons.1 hx with rfl | hx'
      · rw [puts_other (put_asc hs h1) hp (fun z hz h => hy z hz h.symm), put_look hs h1, if_pos rfl]
        by_cases hdr : x.drop = true
        · rw [if_pos hdr, if_pos hdr]
        · rw [if_neg hdr, if_neg hdr]
          refine ⟨_, rfl, rfl, fun p hpp => puts_places hp p ?_⟩
          obtain ⟨t, ht, ht2⟩ := put_places h1
          rw [ht, ht2 (by simpa using hdr)]
          exact List.mem_append_right _ hpp
      · exact ih (put_asc hs h1) hp hd' x hx'
theorem refused_diff {l : List Pt} (h : RefusedIs l 0) : Diff l ∧ ∀ x ∈ l, x.drop = true → x.value.size = 0 := by
  rcases h with ⟨h, _⟩ | ⟨h, _⟩ | ⟨_, h1, h2, h3⟩
  · cases h
  · cases h
  · have hb : ∀ k, (h : k < l.length) → badAt l k l[k] = false := fun k hk => by
      rw [Bool.eq_false_iff]; exact fun hb => h3 ⟨k, hk, hb⟩
    constructor
    · refine List.pairwise_iff_getElem.2 fun i j hi hj hij he => ?_
      have := hb j hj
      simp only [badAt, Bool.or_eq_false_iff] at this
      have hs := this.1.2
      have hm : l[j].name ∈ namesTo l j := by
        rw [← he]
        unfold namesTo
        have : l[i] ∈ l.take j := by
          rw [List.mem_take_iff_getElem]
          exact ⟨i, by omega, rfl⟩
        exact List.mem_reverse.2 (List.mem_map.2 ⟨_, this, rfl⟩)
      rw [(seenB_iff _ _).2 hm] at hs
      cases hs
    · intro x hx hd
      obtain ⟨k, hk, rfl⟩ := List.getElem_of_mem hx
      have := hb k hk
      simp only [badAt, Bool.or_eq_false_iff] at this
      have h4 := this.2
      rw [hd] at h4
      simpa using h4
end Go.Proofs.Ytcgapfmdpchemaa
/- How a Do of the abstract store ends, and what it leaves behind. No function is walked here. -/
namespace Go.Proofs.Ytcgapfmdpchemaa
open Go.RowKit
theorem wrq_none {A : AD} {q k p : Nat} (h : A.hurts p = none) : (A.wrq q k).hurts p = none := by
  show (if k = 0 then A.hurts else healF A.hurts q) p = none
  split
  · exact h
  · cases hc : healF A.hurts q p with
    | none => rfl
    | some x => rw [healF_of hc] at h; cases h
theorem wrL_none {l : List Nat} : ∀ {A : AD} {p : Nat}, A.hurts p = none → (A.wrL l).1.hurts p = none := by
  induction l with
  | nil => intro A p h; exact h
  | cons q r ih =>
    intro A p h
    simp only [AD.wrL]
    split
    · exact ih (wrq_none h)
    · exact wrq_none h
theorem wrL_healed {l : List Nat} : ∀ {A : AD}, (A.wrL l).2 = true → ∀ q ∈ l, (A.wrL l).1.hurts q = none := by
  induction l with
  | nil => intro A _ q hq; cases hq
  | cons p r ih =>
    intro A h q hq
    by_cases hc : A.fuse < 0 ∨ 256 ≤ A.fuse
    · have e : A.wrL (p :: r) = (A.wrq p 256).wrL r := by simp only [AD.wrL]; rw [if_pos hc]
      rw [e] at h ⊢
      rcases List.mem_cons.1 hq with rfl | hq
      · refine wrL_none ?_
        show (if 256 = 0 then A.hurts else healF A.hurts q) q = none
        rw [if_neg (by omega), healF_same]
      · exact ih h q hq
    · have e : A.wrL (p :: r) = ({ A.wrq p A.fuse.toNat with down := true }, false) := by simp only [AD.wrL]; rw [if_neg hc]
      rw [e] at h; cases h
theorem wrL_down {l : List Nat} : ∀ {A : AD}, ((A.wrL l).2 = true → (A.wrL l).1.down = A.down) ∧ ((A.wrL l).2 = false → (A.wrL l).1.down = true ∧ 0 ≤ A.fuse) := by
  induction l with
  | nil => intro A; exact ⟨fun _ => rfl, fun h => by cases h⟩
  | cons p r ih =>
    intro A
    by_cases hc : A.fuse < 0 ∨ 256 ≤ A.fuse
    · have e : A.wrL (p :: r) = (A.wrq p 256).wrL r := by simp only [AD.wrL]; rw [if_pos hc]
      rw [e]
      have ih := @ih (A.wrq p 256)
      refine ⟨fun h => (ih.1 h).trans rfl, fun h => ⟨(ih.2 h).1, ?_⟩⟩
      have h2 : 0 ≤ (if A.fuse < 0 then A.fuse else A.fuse - (256 : Nat)) := (ih.2 h).2
      split at h2 <;> omega
    · have e : A.wrL (p :: r) = ({ A.wrq p A.fuse.toNat with down := true }, false) := by simp only [AD.wrL]; rw [if_neg hc]
      rw [e]
      exact ⟨fun h => (by cases h), fun _ => ⟨rfl, by omega⟩⟩
theorem wrL_fuse {l : List Nat} : ∀ {A : AD}, A.fuse < 0 → (A.wrL l).1.fuse < 0 := by
  induction l with
  | nil => intro A h; exact h
  | cons p r ih =>
    intro A h
    have e : A.wrL (p :: r) = (A.wrq p 256).wrL r := by simp only [AD.wrL]; rw [if_pos (.inl h)]
    rw [e]
    refine ih ?_
    show (if A.fuse < 0 then A.fuse else A.fuse - (256 : Nat)) < 0
    rw [if_pos h]; exact h
/-- a Do that is cut off -/
structure Cut (A B : AD) : Prop where
  down : B.down = true
  n : B.n = A.n
  es : B.es = A.es
  index : B.index = A.index
  change : B.change = A.change
  none_ : ∀ q, A.hurts q = none → B.hurts q = none
  fuse : 0 ≤ A.fuse
/-- a Do that is done -/
structure Done (A B : AD) (s : WA) : Prop where
  down : B.down = A.down
  n : B.n = A.n
  es : B.es = s.es
  change : B.change = A.change + 1
  none_ : ∀ q, A.hurts q = none → B.hurts q = none
  places : ∀ q ∈ s.places, B.hurts q = none
  index : ∀ q ∈ B.index, B.hurts q = none
  fuse : A.fuse < 0 → B.fuse < 0
theorem doS_cases (A : AD) (s : WA) : A.doS s = (5, A) ∨ ((A.doS s).1 = 9 ∧ Cut A (A.doS s).2) ∨ ((A.doS s).1 = 0 ∧ Done A (A.doS s).2 s) := by
  unfold AD.doS
  split
  · exact .inl rfl
  · right
    generalize s.free.take (parts (enc s.des).length) = ix
    have h1 := wrL_keeps (s.places ++ ix) A
    have hd1 := @wrL_down (s.places ++ ix) A
    have hn1 : ∀ q, A.hurts q = none → (A.wrL (s.places ++ ix)).1.hurts q = none := fun q => wrL_none
    have hh1 := @wrL_healed (s.places ++ ix) A
    have hf1 := @wrL_fuse (s.places ++ ix) A
    obtain ⟨A1, b1, hR1⟩ : ∃ A1 b1, A.wrL (s.places ++ ix) = (A1, b1) := ⟨_, _, rfl⟩
    rw [hR1] at h1 hd1 hn1 hh1 hf1 ⊢
    dsimp only at h1 hd1 hn1 hh1 hf1 ⊢
    obtain ⟨k1, k2, k3, k4, k5⟩ := h1
    cases b1 with
    | false =>
      left
      exact ⟨rfl, (hd1.2 rfl).1, k1, k2, k3, k4, hn1, (hd1.2 rfl).2⟩
    | true =>
      have h2 := wrL_keeps [1 - A.place] A1
      have hd2 := @wrL_down [1 - A.place] A1
      have hn2 : ∀ q, A1.hurts q = none → (A1.wrL [1 - A.place]).1.hurts q = none := fun q => wrL_none
      have hf2 := @wrL_fuse [1 - A.place] A1
      obtain ⟨A2, b2, hR2⟩ : ∃ A2 b2, A1.wrL [1 - A.place] = (A2, b2) := ⟨_, _, rfl⟩
      rw [hR2] at h2 hd2 hn2 hf2
      dsimp only
      rw [hR2]
      dsimp only at h2 hd2 hn2 hf2 ⊢
      obtain ⟨j1, j2, j3, j4, j5⟩ := h2
      cases b2 with
      | false =>
        left
        refine ⟨rfl, (hd2.2 rfl).1, j1.trans k1, j2.trans k2, j3.trans k3, j4.trans k4, fun q h => hn2 q (hn1 q h), ?_⟩
        apply Classical.byContradiction
        intro hneg
        have := hf1 (by omega)
        have := (hd2.2 rfl).2
        omega
      | true =>
        right
        refine ⟨rfl, (hd2.1 rfl).trans (hd1.1 rfl), j1.trans k1, rfl, rfl, fun q h => hn2 q (hn1 q h), fun q hq => hn2 q (hh1 rfl q (List.mem_append_left _ hq)), fun q hq => hn2 q (hh1 rfl q (List.mem_append_right _ hq)), fun h => hf2 (hf1 h)⟩
/-- how a Do ends -/
theorem doA_cases (A : AD) (l : List Pt) (r : Nat) (hd : A.down = false) (hr : RefusedIs l r) :
    ((A.doA l r).2 = A ∧ (A.doA l r).1 ≠ 9 ∧ ((A.doA l r).1 = 0 → l = [])) ∨
    ((A.doA l r).1 = 9 ∧ r = 0 ∧ Cut A (A.doA l r).2) ∨
    ((A.doA l r).1 = 0 ∧ r = 0 ∧ ∃ s, WA.puts ⟨A.es, A.freeL, []⟩ l = some s ∧ Done A (A.doA l r).2 s) := by
  have hr9 : r ≠ 9 := by
    rcases hr with ⟨h, _⟩ | ⟨h, _⟩ | ⟨h, _⟩ <;> omega
  unfold AD.doA
  split
  · rename_i h
    left
    refine ⟨rfl, ?_, fun h0 => ?_⟩
    · show A.state r ≠ 9
      unfold AD.state
      rw [hd]
      simp only [Bool.false_eq_true, if_false]
      split
      · exact hr9
      · split <;> omega
    · rcases h with h | h
      · exact absurd h0 h
      · exact h
  · rename_i h
    have hr0 : r = 0 := by
      apply Classical.byContradiction
      intro hne
      apply h
      left
      unfold AD.state
      rw [hd]
      simp only [Bool.false_eq_true, if_false]
      rw [if_pos hne]; exact hne
    split
    · left
      exact ⟨rfl, by show (4 : Nat) ≠ 9; omega, fun h => by cases h⟩
    · cases hp : WA.puts ⟨A.es, A.freeL, []⟩ l with
      | none => left; exact ⟨rfl, by show (5 : Nat) ≠ 9; omega, fun h => by cases h⟩
      | some s =>
        dsimp only
        rcases doS_cases A s with h5 | h9 | h0
        · left
          rw [h5]
          exact ⟨rfl, by show (5 : Nat) ≠ 9; omega, fun h => by cases h⟩
        · right; left
          exact ⟨h9.1, hr0, h9.2⟩
        · right; right
          exact ⟨h0.1, hr0, s, rfl, h0.2⟩
/-- no page is damaged -/
def Whole (A : AD) : Prop := ∀ q, A.hurts q = none
theorem ok_whole {A : AD} {l : List Nat} (h : ∀ q ∈ l, A.hurts q = none) : A.ok l = true := by
  unfold AD.ok
  rw [List.all_eq_true]
  exact fun q hq => by rw [h q hq]; rfl
theorem state_ok {A : AD} (hd : A.down = false) (h : A.ok A.index = true) (e0 : Nat) : A.state e0 = e0 := by
  unfold AD.state
  rw [hd, h]
  simp only [Bool.false_eq_true, if_false, if_true]
  split <;> omega
theorem get_look (A : AD) (n : ByteArray) : A.get n = if A.state (argB n) ≠ 0 then (ByteArray.empty, A.state (argB n)) else match lookA A.es n with
    | none => (ByteArray.empty, 4)
    | some e => if A.ok e.pages then (e.value, 0) else (ByteArray.empty, 370) := rfl
theorem get_none {A : AD} {n : ByteArray} (hs : A.state 0 = 0) (hn : argB n = 0) (h : lookA A.es n = none) : A.get n = (ByteArray.empty, 4) := by
  rw [get_look, hn, hs, h]; simp
theorem get_some {A : AD} {n : ByteArray} {e : EA} (hs : A.state 0 = 0) (hn : argB n = 0) (h : lookA A.es n = some e) (hp : ∀ p ∈ e.pages, A.hurts p = none) : A.get n = (e.value, 0) := by
  rw [get_look, hn, hs, h]
  simp [ok_whole hp]
theorem argB_ok {x : Pt} (h : x.ok) : argB x.name = 0 := by
  obtain ⟨h1, h2, _⟩ := h
  unfold argB
  rw [if_neg (by omega)]
/-- what Get says behind a Do that is done -/
theorem get_done {A B : AD} {s : WA} {l : List Pt} (hasc : Asc A.des) (hr : RefusedIs l 0) (hp : WA.puts ⟨A.es, A.freeL, []⟩ l = some s) (hes : B.es = s.es) (hd : B.down = false)
    (hix : ∀ q ∈ B.index, B.hurts q = none) (hpl : ∀ q ∈ s.places, B.hurts q = none) : ∀ x ∈ l, if x.drop then B.get x.name = (ByteArray.empty, 4) else B.get x.name = (x.value, 0) := by
  intro x hx
  have hst : B.state 0 = 0 := state_ok hd (ok_whole hix) 0
  have ha := argB_ok (hr.ok.2 x hx)
  have := puts_look (s := ⟨A.es, A.freeL, []⟩) hasc hp (refused_diff hr).1 x hx
  by_cases hdr : x.drop = true
  · rw [if_pos hdr] at this ⊢
    exact get_none hst ha (by rw [hes]; exact this)
  · rw [if_neg hdr] at this ⊢
    obtain ⟨e, he, hv, hpp⟩ := this
    rw [← hv]
    exact get_some hst ha (by rw [hes]; exact he) fun p h => hpl p (hpp p h)
end Go.Proofs.Ytcgapfmdpchemaa
/- StoreAtomic's plain law: what a Do leaves behind when the power fails, of the abstract store. No function is walked here. -/
namespace Go.Proofs.Ytcgapfmdpchemaa
open Go.RowKit
theorem get_congr {A B : AD} (hd : B.down = A.down) (hes : B.es = A.es) (hix : B.index = A.index) (h1 : Whole A) (h2 : Whole B) (n : ByteArray) : B.get n = A.get n := by
  have hh : B.hurts = A.hurts := funext fun q => (h2 q).trans (h1 q).symm
  unfold AD.get AD.state AD.ok
  rw [hd, hes, hix, hh]
theorem free_congr {A B : AD} (hd : B.down = A.down) (hn : B.n = A.n) (hes : B.es = A.es) (hix : B.index = A.index) (h1 : Whole A) (h2 : Whole B) : B.free = A.free := by
  have hh : B.hurts = A.hurts := funext fun q => (h2 q).trans (h1 q).symm
  unfold AD.free AD.state AD.ok AD.freeL AD.usedL AD.des
  rw [hd, hes, hix, hh, hn]
theorem state_whole {A : AD} (h : Whole A) (hd : A.down = false) (e0 : Nat) : A.state e0 = e0 := state_ok hd (ok_whole fun q _ => h q) e0
/-- behind a first Do on a new disk -/
theorem first_done (n : Nat) (l : List Pt) (r : Nat) (hr : RefusedIs l r) (h0 : ((newA n).doA l r).1 = 0) :
    Whole ((newA n).doA l r).2 ∧ ((newA n).doA l r).2.down = false ∧ ((newA n).doA l r).2.change ≤ 2 := by
  rcases doA_cases (newA n) l r rfl hr with ⟨h, _, _⟩ | ⟨h, _, _⟩ | ⟨_, _, s, _, hD⟩
  · rw [h]; exact ⟨fun _ => rfl, rfl, by show 1 ≤ 2; omega⟩
  · omega
  · exact ⟨fun q => hD.none_ q rfl, hD.down, by rw [hD.change]; show 1 + 1 ≤ 2; omega⟩
/-- a Do under a fuse, and behind it -/
def AtomLaw (A : AD) (l : List Pt) (R : Nat × AD) : Prop :=
  (R.1 ≠ 0 ∧ R.1 ≠ 9 ∧ R.2.down = false ∧ ∀ m, R.2.get m = A.get m) ∨
  (R.1 = 9 ∧ R.2.down = true ∧ AD.state { R.2 with fuse := -1, down := false } 0 = 0 ∧ AD.free { R.2 with fuse := -1, down := false } = A.free ∧ ∀ m, AD.get { R.2 with fuse := -1, down := false } m = A.get m) ∨
  (R.1 = 0 ∧ R.2.down = false ∧ AD.state { R.2 with fuse := -1, down := false } 0 = 0 ∧ ∀ x ∈ l, if x.drop then AD.get { R.2 with fuse := -1, down := false } x.name = (ByteArray.empty, 4) else AD.get { R.2 with fuse := -1, down := false } x.name = (x.value, 0))
theorem atom_law {A : AD} (hw : Whole A) (hd : A.down = false) (hasc : Asc A.des) (n : Int) {l : List Pt} {r : Nat} (hr : RefusedIs l r) : AtomLaw A l (AD.doA { A with fuse := n } l r) := by
  have hwn : Whole { A with fuse := n } := hw
  rcases doA_cases { A with fuse := n } l r hd hr with ⟨h, h9, hl⟩ | ⟨h9, _, hC⟩ | ⟨h0, hr0, s, hp, hD⟩
  · by_cases hz : (AD.doA { A with fuse := n } l r).1 = 0
    · right; right
      rw [h]
      refine ⟨hz, hd, state_whole (A := { A with fuse := -1, down := false }) hw rfl 0, ?_⟩
      rw [hl hz]
      intro x hx; cases hx
    · left
      rw [h]
      refine ⟨hz, h9, hd, fun m => ?_⟩
      exact get_congr (B := { A with fuse := n }) rfl rfl rfl hw hw m
  · right; left
    generalize (AD.doA { A with fuse := n } l r).2 = B at *
    have hwB : Whole B := fun q => hC.none_ q (hw q)
    refine ⟨h9, hC.down, state_whole (A := { B with fuse := -1, down := false }) hwB rfl 0, ?_, fun m => ?_⟩
    · exact free_congr (B := { B with fuse := -1, down := false }) hd.symm hC.n hC.es hC.index hw hwB
    · exact get_congr (B := { B with fuse := -1, down := false }) hd.symm hC.es hC.index hw hwB m
  · right; right
    generalize (AD.doA { A with fuse := n } l r).2 = B at *
    have hwB : Whole B := fun q => hD.none_ q (hw q)
    subst hr0
    refine ⟨h0, hD.down.trans hd, state_whole (A := { B with fuse := -1, down := false }) hwB rfl 0, ?_⟩
    exact get_done (A := { A with fuse := n }) (B := { B with fuse := -1, down := false }) hasc hr hp hD.es rfl (fun q _ => hwB q) (fun q _ => hwB q)
end Go.Proofs.Ytcgapfmdpchemaa
