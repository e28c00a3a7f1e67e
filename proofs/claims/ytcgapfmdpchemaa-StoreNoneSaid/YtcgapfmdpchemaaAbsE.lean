/- Do, of the abstract disk. No function is walked here. -/
import Derived.Test.YtcgapfmdpchemaaAbsD
namespace Go.Proofs.Ytcgapfmdpchemaa
open Go.RowKit
/-- what Do works on -/
structure WA where
  es : List EA
  free : List Nat
  places : List Nat
def WA.des (s : WA) : List DE := s.es.map EA.de
def dropA (es : List EA) (name : ByteArray) : List EA := if isB (es.map EA.de) name then es.take (atB (es.map EA.de) name) ++ es.drop (atB (es.map EA.de) name + 1) else es
def WA.put (s : WA) (x : Pt) : Option WA :=
  if x.drop then some { s with es := dropA s.es x.name }
  else if s.free.length < parts x.value.size then none
  else some ⟨(dropA s.es x.name).take (atB (s.es.map EA.de) x.name) ++ ⟨x.name, x.value, s.free.take (parts x.value.size)⟩ :: (dropA s.es x.name).drop (atB (s.es.map EA.de) x.name),
    s.free.drop (parts x.value.size), s.places ++ s.free.take (parts x.value.size)⟩
def WA.puts (s : WA) : List Pt → Option WA
  | [] => some s
  | x :: l => match s.put x with
    | none => none
    | some s' => s'.puts l
def AD.doS (A : AD) (s : WA) : Nat × AD :=
  if s.free.length < parts (enc s.des).length ∨ 100 < parts (enc s.des).length then (5, A)
  else match A.wrL (s.places ++ s.free.take (parts (enc s.des).length)) with
    | (A1, false) => (9, A1)
    | (A1, true) => match A1.wrL [1 - A.place] with
      | (A2, false) => (9, A2)
      | (A2, true) => (0, { A2 with es := s.es, index := s.free.take (parts (enc s.des).length), change := A.change + 1, place := 1 - A.place })
def AD.doA (A : AD) (l : List Pt) (r : Nat) : Nat × AD :=
  if A.state r ≠ 0 ∨ l = [] then (A.state r, A)
  else if noneB A.des l then (4, A)
  else match WA.puts ⟨A.es, A.freeL, []⟩ l with
    | none => (5, A)
    | some s => A.doS s
/-! ### The two kinds of work side by side -/
def WA.toWS (s : WA) (pgs : List (List UInt8)) : WS := ⟨s.des, s.free, pgs, s.places⟩
def pgx (x : Pt) : List (List UInt8) := if x.drop then [] else chunksB (nameBytes x.value)
theorem dropA_map (es : List EA) (name : ByteArray) : (dropA es name).map EA.de = dropB (es.map EA.de) name := by
  unfold dropA dropB
  split
  · rw [List.map_append, List.map_take, List.map_drop]
  · rfl
theorem put_sim (s : WA) (pgs : List (List UInt8)) (x : Pt) : (s.toWS pgs).put x = (s.put x).map fun s' => s'.toWS (pgs ++ pgx x) := by
  unfold WS.put WA.put pgx
  by_cases hd : x.drop = true
  · rw [if_pos hd, if_pos hd, if_pos hd]
    simp only [Option.map_some, WA.toWS, WA.des, dropA_map, List.append_nil]
  · rw [if_neg hd, if_neg hd, if_neg hd]
    by_cases hf : s.free.length < parts x.value.size
    · rw [if_pos hf]
      have : (s.toWS pgs).free.length < parts x.value.size := hf
      rw [if_pos this]; rfl
    · rw [if_neg hf]
      have : ¬ (s.toWS pgs).free.length < parts x.value.size := hf
      rw [if_neg this]
      simp only [Option.map_some, WA.toWS, WA.des, List.map_append, List.map_take, List.map_cons, List.map_drop, dropA_map]
      rfl
theorem puts_sim (l : List Pt) : ∀ (s : WA) (pgs : List (List UInt8)), (s.toWS pgs).puts l = (s.puts l).map fun s' => s'.toWS (pgs ++ l.flatMap pgx) := by
  induction l with
  | nil => intro s pgs; simp [WS.puts, WA.puts]
  | cons x l ih =>
    intro s pgs
    simp only [WS.puts, WA.puts, put_sim]
    cases s.put x with
    | none => rfl
    | some t => simp only [Option.map_some, ih, List.flatMap_cons, List.append_assoc]
structure WAOk (A : AD) (s : WA) (pgs : List (List UInt8)) : Prop where
  fl : s.places ++ s.free = A.freeL
  len : pgs.length = s.places.length
  ent : ∀ e ∈ s.es, e ∈ A.es ∨ (e.pages.length = parts e.value.size ∧ ∀ k, (h : k < e.pages.length) → (e.pages[k], madeB (partL (nameBytes e.value) k)) ∈ s.places.zip pgs)
  nd : (s.es.flatMap (·.pages) ++ s.free).Nodup
theorem dropA_sub (es : List EA) (name : ByteArray) : (dropA es name).Sublist es := by
  unfold dropA
  split
  · conv => rhs; rw [← List.take_append_drop (atB (es.map EA.de) name) es]
    exact List.Sublist.append_left (List.drop_sublist_drop_left _ (Nat.le_succ _)) _
  · exact List.Sublist.refl _
theorem flatMap_sub {es fs : List EA} (h : es.Sublist fs) : (es.flatMap (·.pages)).Sublist (fs.flatMap (·.pages)) := by
  induction h with
  | slnil => exact List.Sublist.refl _
  | cons a _ ih => rw [List.flatMap_cons]; exact ih.trans (List.sublist_append_right _ _)
  | cons_cons a _ ih => rw [List.flatMap_cons, List.flatMap_cons]; exact List.Sublist.append_left ih _
theorem chunksB_get (L : List UInt8) (k : Nat) (h : k < (chunksB L).length) : (chunksB L)[k] = madeB (partL L k) := by
  simp [chunksB, partL]
theorem zip_mem {α β : Type} (l : List α) (m : List β) (k : Nat) (h1 : k < l.length) (h2 : k < m.length) : (l[k], m[k]) ∈ l.zip m := by
  have : k < (l.zip m).length := by rw [List.length_zip]; omega
  have h3 : (l.zip m)[k] = (l[k], m[k]) := List.getElem_zip
  exact h3 ▸ List.getElem_mem this
theorem WAOk.put {A : AD} {s s' : WA} {pgs : List (List UInt8)} {x : Pt} (h : WAOk A s pgs) (hp : s.put x = some s') : WAOk A s' (pgs ++ pgx x) := by
  have hsub := dropA_sub s.es x.name
  unfold WA.put at hp
  unfold pgx
  by_cases hd : x.drop = true
  · rw [if_pos hd] at hp ⊢
    cases hp
    rw [List.append_nil]
    exact ⟨h.fl, h.len, fun e he => h.ent e (hsub.mem he), List.Nodup.sublist (List.Sublist.append_right (flatMap_sub hsub) _) h.nd⟩
  · rw [if_neg hd] at hp ⊢
    by_cases hf : s.free.length < parts x.value.size
    · rw [if_pos hf] at hp; cases hp
    · rw [if_neg hf] at hp
      cases hp
      have htl : (s.free.take (parts x.value.size)).length = parts x.value.size := by rw [List.length_take]; omega
      have hcl : (chunksB (nameBytes x.value)).length = parts x.value.size := by rw [chunksB_length, nameBytes_length]
      have hzip : (s.places ++ s.free.take (parts x.value.size)).zip (pgs ++ chunksB (nameBytes x.value)) = s.places.zip pgs ++ (s.free.take (parts x.value.size)).zip (chunksB (nameBytes x.value)) := List.zip_append h.len.symm
      have hold : ∀ e ∈ dropA s.es x.name, e ∈ A.es ∨ (e.pages.length = parts e.value.size ∧ ∀ k, (h : k < e.pages.length) → (e.pages[k], madeB (partL (nameBytes e.value) k)) ∈ (s.places ++ s.free.take (parts x.value.size)).zip (pgs ++ chunksB (nameBytes x.value))) := fun e he => by
        rcases h.ent e (hsub.mem he) with h1 | ⟨h1, h2⟩
        · exact .inl h1
        · exact .inr ⟨h1, fun k hk => by rw [hzip]; exact List.mem_append_left _ (h2 k hk)⟩
      refine ⟨?_, ?_, ?_, ?_⟩
      · show (s.places ++ s.free.take _) ++ s.free.drop _ = _
        rw [List.append_assoc, List.take_append_drop]; exact h.fl
      · show (pgs ++ chunksB _).length = (s.places ++ s.free.take _).length
        rw [List.length_append, List.length_append, h.len, hcl, htl]
      · intro e he
        rcases List.mem_append.1 he with he | he
        · exact hold e (List.mem_of_mem_take he)
        · rcases List.mem_cons.1 he with rfl | he
          · refine .inr ⟨htl, fun k hk => ?_⟩
            rw [hzip]
            refine List.mem_append_right _ ?_
            have hk2 : k < (chunksB (nameBytes x.value)).length := by rw [hcl, ← htl]; exact hk
            have := zip_mem (s.free.take (parts x.value.size)) (chunksB (nameBytes x.value)) k hk hk2
            rw [chunksB_get] at this
            exact this
          · exact hold e (List.mem_of_mem_drop he)
      · show ((((dropA s.es x.name).take (atB (s.es.map EA.de) x.name) ++ (⟨x.name, x.value, s.free.take (parts x.value.size)⟩ : EA) :: (dropA s.es x.name).drop (atB (s.es.map EA.de) x.name)).flatMap (·.pages)) ++ s.free.drop (parts x.value.size)).Nodup
        have h1 : ((dropA s.es x.name).flatMap (·.pages) ++ s.free).Nodup := List.Nodup.sublist (List.Sublist.append_right (flatMap_sub hsub) _) h.nd
        refine List.Perm.nodup ?_ h1
        generalize hDA : dropA s.es x.name = D
        generalize atB (s.es.map EA.de) x.name = j
        generalize parts x.value.size = m
        rw [List.flatMap_append, List.flatMap_cons]
        conv => lhs; rw [← List.take_append_drop j D, List.flatMap_append, ← List.take_append_drop m s.free]
        simp only [List.append_assoc]
        refine List.Perm.append_left _ ?_
        exact (List.perm_append_comm_assoc _ _ _)
theorem WAOk.puts {A : AD} {l : List Pt} : ∀ {s s' : WA} {pgs : List (List UInt8)}, WAOk A s pgs → s.puts l = some s' → WAOk A s' (pgs ++ l.flatMap pgx) := by
  induction l with
  | nil => intro s s' pgs h hp; simp only [WA.puts, Option.some.injEq] at hp; subst hp; simpa using h
  | cons x l ih =>
    intro s s' pgs h hp
    simp only [WA.puts] at hp
    cases hx : s.put x with
    | none => rw [hx] at hp; cases hp
    | some t =>
      rw [hx] at hp
      have := ih (h.put hx) hp
      rwa [List.flatMap_cons, ← List.append_assoc]
theorem Rep.start {C : Cn} {A : AD} (h : Rep C A) : WAOk A ⟨A.es, A.freeL, []⟩ [] := by
  refine ⟨rfl, rfl, fun e he => .inl he, ?_⟩
  refine List.nodup_append.2 ⟨(List.nodup_append.1 h.nodup).2.1, freeL_nodup _, fun a ha b hb hab => ?_⟩
  subst hab
  obtain ⟨e, he, hq⟩ := List.mem_flatMap.1 ha
  exact ((free_iff A.n h.two A.index A.des a).1 hb).2.2.2 e.de (List.mem_map.2 ⟨e, he, rfl⟩) hq
theorem Rep.free_page {C : Cn} {A : AD} (h : Rep C A) {q : Nat} (hq : q ∈ A.freeL) : q < A.n ∧ 2 ≤ q ∧ q ∉ A.used := by
  obtain ⟨h1, h2, h3, h4⟩ := (free_iff A.n h.two A.index A.des q).1 hq
  refine ⟨h1, h2, fun hu => ?_⟩
  rcases List.mem_append.1 hu with hu | hu
  · exact h3 hu
  · obtain ⟨e, he, hq⟩ := List.mem_flatMap.1 hu
    exact h4 e.de (List.mem_map.2 ⟨e, he, rfl⟩) hq
/-! ### The change number where only pages behind the heads are written -/
def nstep (r : List UInt8 × Nat × Nat) (P : List UInt8) (k : Nat) : List UInt8 × Nat × Nat :=
  if r.2.2 < num ((P.drop 0).take 4) ∧ num ((P.drop 0).take 4) = num (((P.drop 252).take 4).reverse) then (P, k, num ((P.drop 0).take 4)) else r
theorem newest_step (C : Cn) (k : Nat) : newestTo C (k + 1) = nstep (newestTo C k) (C.page k) k := rfl
theorem newest_congr {C C' : Cn} (h : C'.bytes.take 512 = C.bytes.take 512) : newestTo C' 2 = newestTo C 2 := by
  have hp : ∀ q, q < 2 → C'.page q = C.page q := fun q hq => by
    have e : ∀ L : List UInt8, (L.drop (q * 256)).take 256 = ((L.take 512).drop (q * 256)).take 256 := fun L => by
      rw [List.drop_take, List.take_take]
      congr 1; omega
    unfold Cn.page
    rw [e C'.bytes, e C.bytes, h]
  have h0 := hp 0 (by omega)
  have h1 := hp 1 (by omega)
  rw [newest_step, newest_step, newest_step, newest_step, h0, h1]
  rfl
theorem wr_low (C : Cn) (q k : Nat) (P : List UInt8) (h2 : 2 ≤ q) (hl : 512 ≤ C.bytes.length) : (C.wr q P k).bytes.take 512 = C.bytes.take 512 ∧ 512 ≤ (C.wr q P k).bytes.length := by
  have : 512 ≤ q * 256 := by omega
  constructor
  · show (spl C.bytes (q * 256) (P.take k)).take 512 = _
    unfold spl
    rw [List.append_assoc, List.take_append_of_le_length (by rw [List.length_take]; omega), List.take_take, Nat.min_eq_left this]
  · show 512 ≤ (spl C.bytes (q * 256) (P.take k)).length
    unfold spl
    simp only [List.length_append, List.length_take]
    omega
theorem wrAll_low (ops : List (Nat × List UInt8)) : ∀ C : Cn, 512 ≤ C.bytes.length → (∀ x ∈ ops, 2 ≤ x.1) → (wrAll C ops).1.bytes.take 512 = C.bytes.take 512 := by
  induction ops with
  | nil => intro C _ _; rfl
  | cons x r ih =>
    intro C hl hx
    have h2 := hx x List.mem_cons_self
    simp only [wrAll]
    split
    · obtain ⟨a, b⟩ := wr_low C x.1 256 x.2 h2 hl
      rw [ih _ b fun y hy => hx y (List.mem_cons_of_mem _ hy), a]
    · exact (wr_low C x.1 C.fuse.toNat x.2 h2 hl).1
theorem Rep.change {C : Cn} {A : AD} (h : Rep C A) (ops : List (Nat × List UInt8)) (hx : ∀ x ∈ ops, 2 ≤ x.1) : (newestTo (Ytcgapfmdpchemaa.wrAll C ops).1 2) = (headB A.change A.dirB.length A.index, A.place, A.change) := by
  rw [← h.newest]
  exact newest_congr (wrAll_low ops C (by have := h.len; have := h.n; have := h.n4; omega) hx)
theorem wrL_keeps (l : List Nat) : ∀ A : AD, (A.wrL l).1.n = A.n ∧ (A.wrL l).1.es = A.es ∧ (A.wrL l).1.index = A.index ∧ (A.wrL l).1.change = A.change ∧ (A.wrL l).1.place = A.place := by
  induction l with
  | nil => intro A; exact ⟨rfl, rfl, rfl, rfl, rfl⟩
  | cons q r ih =>
    intro A
    simp only [AD.wrL]
    split
    · exact ih _
    · exact ⟨rfl, rfl, rfl, rfl, rfl⟩
end Go.Proofs.Ytcgapfmdpchemaa
