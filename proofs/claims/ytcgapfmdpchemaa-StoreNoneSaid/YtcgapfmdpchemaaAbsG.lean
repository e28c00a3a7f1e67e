/- A new disk, power failing, a restart and damage, of the abstract disk. No function is walked here. -/
import Derived.Test.YtcgapfmdpchemaaAbsF
namespace Go.Proofs.Ytcgapfmdpchemaa
open Go.RowKit
def newA (n : Nat) : AD := ⟨n, -1, false, [], [], fun _ => none, 1, 0⟩
theorem newC_len (n : Nat) (h : 4 ≤ n) : (newC n).bytes.length = 256 * n := by
  show (spl _ _ _).length = 256 * n
  rw [spl_length _ _ _ (by rw [headB_length 1 0 [] (by simp)]; simp; omega)]
  simp
theorem new_page0 (n : Nat) (_h : 4 ≤ n) : (newC n).page 0 = headB 1 0 [] := by
  have hl := headB_length 1 0 [] (by simp)
  show ((spl (List.replicate (256 * n) 0) 0 (headB 1 0 [])).drop (0 * 256)).take 256 = _
  generalize headB 1 0 [] = H at hl ⊢
  unfold spl
  rw [Nat.zero_mul, List.drop_zero, List.take_zero, List.nil_append, List.take_left' hl]
theorem new_page1 (n : Nat) (h : 4 ≤ n) : (newC n).page 1 = zp := by
  have hl := headB_length 1 0 [] (by simp)
  show ((spl (List.replicate (256 * n) 0) 0 (headB 1 0 [])).drop (1 * 256)).take 256 = _
  generalize headB 1 0 [] = H at hl ⊢
  unfold spl
  rw [Nat.one_mul, List.take_zero, List.nil_append, List.drop_left' hl, hl, Nat.zero_add, List.drop_replicate, List.take_replicate]
  rw [Nat.min_eq_left (by omega)]; rfl
theorem rep_new (n : Nat) (h4 : 4 ≤ n) (h5 : n ≤ 4096) : Rep (newC n) (newA n) := by
  refine ⟨rfl, rfl, rfl, rfl, newC_len n h4, h4, h5, by show (-1 : Int) ≤ _; omega, by show 0 ≤ 1; omega, by show 1 ≤ 1; omega, by show 1 < _; omega, new_page0 n h4, ?_, ?_, ?_, ?_, ?_, ?_, ?_, ?_, ?_, ?_⟩
  · show ((newC n).page 1).getD 255 0 = _
    rw [new_page1 n h4]; rfl
  · refine .inr ?_
    show headNum (newC n) 1 < 1
    unfold headNum
    rw [new_page1 n h4]
    decide
  · exact ⟨by simp [AD.dirB, AD.des, newA, enc, parts], fun k hk => by cases hk⟩
  · intro e he; cases he
  · intro q a f hq; cases hq
  · exact List.nodup_nil
  · intro q hq; cases hq
  · exact List.Pairwise.nil
  · intro e he; cases he
  · show ([] : List Nat).length ≤ 100
    simp
def AD.hurt (A : AD) (q a : Nat) (f : UInt8) : AD :=
  { A with hurts := if ((A.hurts q).getD (0, 0)).2 = f then healF A.hurts q else hurtF A.hurts q a (((A.hurts q).getD (0, 0)).2 ^^^ f) }
theorem hurt_page {C : Cn} (hl : C.bytes.length = 256 * C.n) {q a p : Nat} (hq : q < C.n) (hp : p < C.n) (ha : a < 256) (f : UInt8) :
    (C.hurt q a f).page p = if p = q then (C.page q).set a ((C.page q).getD a 0 ^^^ f) else C.page p := by
  have hg : (C.page q).getD a 0 = C.bytes.getD (q * 256 + a) 0 := by
    unfold Cn.page
    simp [List.getD_eq_getElem?_getD, List.getElem?_drop, ha]
  rw [hg]
  unfold Cn.page Cn.hurt
  dsimp only
  generalize C.bytes.getD (q * 256 + a) 0 ^^^ f = b
  apply List.ext_getElem?
  intro j
  by_cases hpq : p = q
  · subst hpq
    rw [if_pos rfl]
    simp only [List.getElem?_take, List.getElem?_drop, List.getElem?_set, List.length_take, List.length_drop]
    grind
  · rw [if_neg hpq]
    simp only [List.getElem?_take, List.getElem?_drop, List.getElem?_set]
    rcases Nat.lt_or_gt_of_ne hpq with hlt | hgt
    · have := next256 hlt
      grind
    · have := next256 hgt
      grind
section
variable {C : Cn} {A : AD}
theorem Rep.fail (h : Rep C A) {n : Int} (hn : n ≤ 9223372036854775807) : Rep { C with fuse := n } { A with fuse := n } :=
  ⟨h.n, rfl, h.down, h.flaws, h.len, h.n4, h.n5, hn, h.place, h.ch, h.chb, h.head, h.old255, h.old0, h.ix, h.vs, h.hurts, h.nodup, h.rng, h.asc, h.fit, h.ixl⟩
theorem Rep.restart (h : Rep C A) : Rep { C with fuse := -1, down := false } { A with fuse := -1, down := false } :=
  ⟨h.n, rfl, rfl, h.flaws, h.len, h.n4, h.n5, by show (-1 : Int) ≤ _; omega, h.place, h.ch, h.chb, h.head, h.old255, h.old0, h.ix, h.vs, h.hurts, h.nodup, h.rng, h.asc, h.fit, h.ixl⟩
theorem hurt_flaws (C : Cn) (q a : Nat) (f : UInt8) (p : Nat) (h : p ≠ q) : (C.hurt q a f).flaws p = C.flaws p := by
  unfold Cn.hurt
  dsimp only
  split
  · exact healF_ne h
  · unfold hurtF; rw [if_neg h]
theorem hurtP_hurt {P : List UInt8} {a : Nat} (ha : a < P.length) {fl : Option (Nat × UInt8)} (hfl : ∀ a' f', fl = some (a', f') → a' = a) (f : UInt8) (hf : f ≠ 0) :
    (hurtP P fl).set a ((hurtP P fl).getD a 0 ^^^ f) = hurtP P (if (fl.getD (0, 0)).2 = f then none else some (a, (fl.getD (0, 0)).2 ^^^ f)) := by
  cases fl with
  | none =>
    show P.set a (P.getD a 0 ^^^ f) = hurtP P (if (0 : UInt8) = f then none else some (a, 0 ^^^ f))
    rw [if_neg fun e => hf e.symm]
    show _ = P.set a (P.getD a 0 ^^^ (0 ^^^ f))
    rw [UInt8.zero_xor]
  | some x =>
    obtain ⟨a', g⟩ := x
    have := hfl a' g rfl
    subst this
    show ((P.set a' (P.getD a' 0 ^^^ g)).set a' ((P.set a' (P.getD a' 0 ^^^ g)).getD a' 0 ^^^ f)) = hurtP P (if g = f then none else some (a', g ^^^ f))
    have hg : (P.set a' (P.getD a' 0 ^^^ g)).getD a' 0 = P.getD a' 0 ^^^ g := by simp [List.getD_eq_getElem?_getD, ha]
    rw [hg, List.set_set]
    by_cases hgf : g = f
    · subst hgf
      rw [if_pos rfl, UInt8.xor_assoc, UInt8.xor_self, UInt8.xor_zero]
      show P.set a' (P.getD a' 0) = P
      apply List.ext_getElem?
      intro j
      rw [List.getElem?_set]
      by_cases hj : a' = j
      · subst hj
        rw [if_pos rfl, if_pos ha, List.getD_eq_getElem?_getD, List.getElem?_eq_getElem ha]; rfl
      · rw [if_neg hj]
    · rw [if_neg hgf]
      show _ = P.set a' (P.getD a' 0 ^^^ (g ^^^ f))
      rw [UInt8.xor_assoc]
theorem hurt_flaw_same (C : Cn) (q a : Nat) (f : UInt8) : (C.hurt q a f).flaws q = if ((C.flaws q).getD (0, 0)).2 = f then none else some (a, ((C.flaws q).getD (0, 0)).2 ^^^ f) := by
  unfold Cn.hurt
  dsimp only
  split
  · exact healF_same _ _
  · unfold hurtF; rw [if_pos rfl]
theorem Rep.hurt (h : Rep C A) {q a : Nat} (h2 : 2 ≤ q) (hq : q < A.n) (ha : a < 256) {f : UInt8} (hf : f ≠ 0) (hfl : ∀ a' f', A.hurts q = some (a', f') → a' = a) : Rep (C.hurt q a f) (A.hurt q a f) := by
  have hqC : q < C.n := by rw [h.n]; exact hq
  have hn4 := h.n4
  have hpl := h.place
  have hfl' : ∀ a' f', C.flaws q = some (a', f') → a' = a := by rw [h.flaws]; exact hfl
  have pg : ∀ p, p < 2 → (C.hurt q a f).page p = C.page p := fun p hp => by
    rw [hurt_page h.len hqC (by rw [h.n]; omega) ha, if_neg (by omega)]
  have hnum : ∀ p, p < 2 → headNum (C.hurt q a f) p = headNum C p := fun p hp => by unfold headNum; rw [pg p hp]
  have hpa : ∀ {pages : List Nat} {L : List UInt8}, PagesAre C pages L → (∀ p ∈ pages, p < A.n) → PagesAre (C.hurt q a f) pages L := fun {pages L} hp hlt => ⟨hp.1, fun k hk => by
    have hm := hlt _ (List.getElem_mem hk)
    have hk2 := hp.2 k hk
    rw [hurt_page h.len hqC (by rw [h.n]; exact hm) ha]
    by_cases he : pages[k] = q
    · rw [if_pos he, he, hurt_flaw_same]
      rw [he] at hk2
      rw [hk2]
      exact hurtP_hurt (by rw [madeB_length _ (partL_length L k)]; exact ha) hfl' f hf
    · rw [if_neg he, hurt_flaws _ _ _ _ _ he]
      exact hk2⟩
  refine ⟨h.n, h.fuse, h.down, ?_, ?_, h.n4, h.n5, h.fuseb, h.place, h.ch, h.chb, ?_, ?_, ?_, hpa h.ix fun p hp => (h.used_ix hp).2, fun e he => hpa (h.vs e he) fun p hp => (h.used_es he hp).2, ?_, h.nodup, h.rng, h.asc, h.fit, h.ixl⟩
  · show (if _ then _ else _) = (if _ then _ else _)
    rw [h.flaws]
  · show (C.bytes.set _ _).length = _
    rw [List.length_set]; exact h.len
  · rw [pg _ (by show A.place < 2; omega)]; exact h.head
  · rw [pg _ (by show 1 - A.place < 2; omega)]; exact h.old255
  · rw [pg _ (by show 1 - A.place < 2; omega), hnum _ (by show 1 - A.place < 2; omega)]; exact h.old0
  · intro p a' f' hp
    have hp' : (if ((A.hurts q).getD (0, 0)).2 = f then healF A.hurts q else hurtF A.hurts q a (((A.hurts q).getD (0, 0)).2 ^^^ f)) p = some (a', f') := hp
    by_cases hg : ((A.hurts q).getD (0, 0)).2 = f
    · rw [if_pos hg] at hp'
      exact h.hurts p a' f' (healF_of hp')
    · rw [if_neg hg] at hp'
      unfold hurtF at hp'
      by_cases he : p = q
      · rw [if_pos he] at hp'
        cases hp'
        refine ⟨by omega, by show p < A.n; omega, ha, fun hz => hg ?_⟩
        have h1 : ((A.hurts q).getD (0, 0)).2 ^^^ f ^^^ f = 0 ^^^ f := by rw [hz]
        rwa [UInt8.xor_assoc, UInt8.xor_self, UInt8.xor_zero, UInt8.zero_xor] at h1
      · rw [if_neg he] at hp'
        exact h.hurts p a' f' hp'
end
end Go.Proofs.Ytcgapfmdpchemaa
