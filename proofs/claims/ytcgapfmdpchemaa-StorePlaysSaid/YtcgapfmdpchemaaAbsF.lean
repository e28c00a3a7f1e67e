/- Do of the abstract disk is Do of the disk. No function is walked here. -/
import Derived.Test.YtcgapfmdpchemaaAbsD
namespace Go.Proofs.Ytcgapfmdpchemaa
open Go.RowKit
theorem zip_fst {α β : Type} : ∀ (l : List α) (m : List β), l.length = m.length → (l.zip m).map (·.1) = l
  | [], [], _ => rfl
  | a :: l, b :: m, h => by rw [List.zip_cons_cons, List.map_cons, zip_fst l m (by simpa using h)]
theorem zip_snd_mem {α β : Type} {l : List α} {m : List β} {x : α × β} (h : x ∈ l.zip m) : x.1 ∈ l ∧ x.2 ∈ m := by
  obtain ⟨a, b⟩ := x
  exact ⟨(List.of_mem_zip h).1, (List.of_mem_zip h).2⟩
theorem wrq_hurts (A : AD) (q : Nat) {k : Nat} (h : k ≠ 0) : (A.wrq q k).hurts = healF A.hurts q := by
  unfold AD.wrq
  dsimp only
  rw [if_neg h]
theorem wrAll_one {C : Cn} {q : Nat} {P : List UInt8} (h : C.fuse < 0 ∨ 256 ≤ C.fuse) : wrAll C [(q, P)] = (C.wr q P 256, true) := by
  show (if C.fuse < 0 ∨ 256 ≤ C.fuse then _ else _) = _
  rw [if_pos h]; rfl
theorem wrAll_cut {C : Cn} {q : Nat} {P : List UInt8} (h : ¬ (C.fuse < 0 ∨ 256 ≤ C.fuse)) : wrAll C [(q, P)] = ({ C.wr q P C.fuse.toNat with down := true }, false) := by
  show (if C.fuse < 0 ∨ 256 ≤ C.fuse then _ else _) = _
  rw [if_neg h]
theorem wrL_one {A : AD} {q : Nat} (h : A.fuse < 0 ∨ 256 ≤ A.fuse) : A.wrL [q] = (A.wrq q 256, true) := by
  show (if A.fuse < 0 ∨ 256 ≤ A.fuse then _ else _) = _
  rw [if_pos h]; rfl
theorem wrL_cut {A : AD} {q : Nat} (h : ¬ (A.fuse < 0 ∨ 256 ≤ A.fuse)) : A.wrL [q] = ({ A.wrq q A.fuse.toNat with down := true }, false) := by
  show (if A.fuse < 0 ∨ 256 ≤ A.fuse then _ else _) = _
  rw [if_neg h]
section
variable {C : Cn} {A : AD}
theorem Rep.doS (h : Rep C A) {s : WA} {pgs : List (List UInt8)} (hw : WAOk A s pgs) {F m0 : Nat} (hS : WS.Ok A.n F m0 (s.toWS pgs)) (hch : A.change + 1 < 4294967296)
    (hroom : ¬ (s.free.length < parts (enc s.des).length ∨ 100 < parts (enc s.des).length)) :
    (if (doWr C (s.toWS pgs) (s.free.take (parts (enc s.des).length)) (enc s.des)).2 then 0 else 9) = (A.doS s).1
      ∧ Rep (doWr C (s.toWS pgs) (s.free.take (parts (enc s.des).length)) (enc s.des)).1 (A.doS s).2 := by
  unfold AD.doS
  rw [if_neg hroom]
  obtain ⟨m, hm⟩ : ∃ m, parts (enc s.des).length = m := ⟨_, rfl⟩
  obtain ⟨B, hB⟩ : ∃ B, enc s.des = B := ⟨_, rfl⟩
  rw [hB] at hm hroom ⊢
  rw [hm] at hroom ⊢
  obtain ⟨ix, hix⟩ : ∃ ix, s.free.take m = ix := ⟨_, rfl⟩
  have hixl : ix.length = m := by rw [← hix, List.length_take]; omega
  have hpre : s.places ++ s.free = A.freeL := hw.fl
  have hsub : (s.places ++ ix).Sublist A.freeL := by
    rw [← hpre, ← hix]; exact List.Sublist.append_left (List.take_sublist _ _) _
  have hcl : (chunksB B).length = m := by rw [chunksB_length, hm]
  have hlen : (s.places ++ ix).length = (pgs ++ chunksB B).length := by rw [List.length_append, List.length_append, hw.len, hcl, hixl]
  have hfst := zip_fst (s.places ++ ix) (pgs ++ chunksB B) hlen
  have hdo : doWr C (s.toWS pgs) ix B = if (wrAll C ((s.places ++ ix).zip (pgs ++ chunksB B))).2 then
      Ytcgapfmdpchemaa.wrAll (wrAll C ((s.places ++ ix).zip (pgs ++ chunksB B))).1 [(1 - (newestTo (wrAll C ((s.places ++ ix).zip (pgs ++ chunksB B))).1 2).2.1, headB ((newestTo (wrAll C ((s.places ++ ix).zip (pgs ++ chunksB B))).1 2).2.2 + 1) B.length ix)]
      else wrAll C ((s.places ++ ix).zip (pgs ++ chunksB B)) := rfl
  rw [hix, hdo]
  obtain ⟨ops, hops⟩ : ∃ ops, (s.places ++ ix).zip (pgs ++ chunksB B) = ops := ⟨_, rfl⟩
  rw [hops] at hfst ⊢
  have hx : ∀ x ∈ ops, x.1 < A.n ∧ 2 ≤ x.1 ∧ x.1 ∉ A.used ∧ x.2.length = 256 := fun x hx => by
    rw [← hops] at hx
    obtain ⟨h1, h2⟩ := zip_snd_mem hx
    have hp := h.free_page (hsub.mem h1)
    refine ⟨hp.1, hp.2.1, hp.2.2, ?_⟩
    rcases List.mem_append.1 h2 with h2 | h2
    · exact hS.long _ h2
    · exact chunksB_long _ _ h2
  have hnd : (ops.map (·.1)).Nodup := by rw [hfst]; exact (freeL_nodup _).sublist hsub
  obtain ⟨i1, i2, i3, -⟩ := h.wrote ops hnd hx
  have hnew := h.change ops fun x hx' => (hx x hx').2.1
  rw [hfst] at i1 i2
  obtain ⟨k1, k2, k3, k4, k5⟩ := wrL_keeps (s.places ++ ix) A
  obtain ⟨⟨A1, b⟩, hA1⟩ : ∃ r, A.wrL (s.places ++ ix) = r := ⟨_, rfl⟩
  obtain ⟨⟨C1, b'⟩, hC1⟩ : ∃ r, wrAll C ops = r := ⟨_, rfl⟩
  rw [hA1] at i1 i2 k1 k2 k3 k4 k5 ⊢
  rw [hC1] at i1 i2 i3 hnew ⊢
  dsimp only at i1 i2 i3 hnew k1 k2 k3 k4 k5 ⊢
  subst i1
  cases b' with
  | false => exact ⟨rfl, i2⟩
  | true =>
    have hpg := i3 rfl
    rw [if_pos rfl, hnew]
    dsimp only
    have hB100 : ix.length ≤ 100 := by omega
    have hpl := h.place
    by_cases hf : A1.fuse < 0 ∨ 256 ≤ A1.fuse
    · have hf' : C1.fuse < 0 ∨ 256 ≤ C1.fuse := by rw [i2.fuse]; exact hf
      rw [wrAll_one hf', wrL_one hf]
      refine ⟨rfl, ?_⟩
      dsimp only
      have hP := headB_length (A.change + 1) B.length ix hB100
      obtain ⟨P, hPe⟩ : ∃ P, headB (A.change + 1) B.length ix = P := ⟨_, rfl⟩
      rw [hPe] at hP ⊢
      have hn4 := h.n4
      have hqC : 1 - A.place < C1.n := by rw [i2.n, k1]; omega
      have hk : 256 ≤ 256 := Nat.le_refl _
      have pgne : ∀ p, p < C1.n → p ≠ 1 - A.place → (C1.wr (1 - A.place) P 256).page p = C1.page p := fun p hp hne => by rw [wr_page i2.len hqC hp hP hk, if_neg hne]
      have hlow : ∀ x ∈ ops, x.1 < C1.n ∧ x.1 ≠ 1 - A.place := fun x hx' => by
        have := hx x hx'
        exact ⟨by rw [i2.n, k1]; exact this.1, by omega⟩
      have hput : ∀ x ∈ ops, (C1.wr (1 - A.place) P 256).page x.1 = hurtP x.2 ((C1.wr (1 - A.place) P 256).flaws x.1) := fun x hx' => by
        obtain ⟨a, b⟩ := hlow x hx'
        rw [pgne _ a b, wr_flaws _ _ _ _ _ b, (hpg x hx').1, (hpg x hx').2]; rfl
      have hsne : A.dirB.length ≤ 24800 := h.dirlen.2
      refine ⟨i2.n, ?_, i2.down, ?_, wr_len i2.len hqC hP hk, i2.n4, i2.n5, ?_, by show 1 - A.place ≤ 1; omega, by show 1 ≤ A.change + 1; omega, hch, ?_, ?_, ?_, ?_, ?_, ?_, ?_, ?_, hS.asc, hS.fit, hB100⟩
      · show (if C1.fuse < 0 then C1.fuse else C1.fuse - (256 : Nat)) = _
        rw [i2.fuse]; rfl
      · show (if 256 = 0 then C1.flaws else healF C1.flaws _) = _
        rw [i2.flaws]; rfl
      · show (if A1.fuse < 0 then A1.fuse else A1.fuse - (256 : Nat)) ≤ _
        have := i2.fuseb
        split <;> omega
      · show (C1.wr (1 - A.place) P 256).page (1 - A.place) = headB (A.change + 1) (enc s.des).length ix
        rw [wr_page i2.len hqC hqC hP hk, if_pos rfl, List.take_of_length_le (by omega), spl_all _ _ (by rw [C1.page_length i2.len hqC, hP]), hB, hPe]
      · show ((C1.wr (1 - A.place) P 256).page (1 - (1 - A.place))).getD 255 0 = UInt8.ofNat (A.change + 1 - 1)
        rw [show 1 - (1 - A.place) = A.place by omega, pgne A.place (by rw [i2.n, k1]; omega) (by omega)]
        have := i2.head
        rw [k5] at this
        rw [this, headB_last _ _ _ i2.ixl, k4, Nat.add_sub_cancel]
      · refine .inr ?_
        show headNum (C1.wr (1 - A.place) P 256) (1 - (1 - A.place)) < A.change + 1
        have hh := i2.head
        rw [k5] at hh
        have h1 : (C1.wr (1 - A.place) P 256).page A.place = headB A1.change A1.dirB.length A1.index := by
          rw [pgne A.place (by rw [i2.n, k1]; omega) (by omega)]; exact hh
        rw [show 1 - (1 - A.place) = A.place by omega, (headNum_headB i2.ixl h1 i2.chb).1, k4]
        omega
      · show PagesAre _ ix (enc s.des)
        rw [hB]
        refine ⟨by rw [hixl, hm], fun k hk' => ?_⟩
        have hk2 : k < (chunksB B).length := by omega
        have hz := zip_mem ix (chunksB B) k hk' hk2
        rw [chunksB_get] at hz
        have hz' : (ix[k], madeB (partL B k)) ∈ ops := by
          rw [← hops, List.zip_append hw.len.symm]
          exact List.mem_append_right _ hz
        exact hput (ix[k], madeB (partL B k)) hz'
      · intro e he
        rcases hw.ent e he with h1 | ⟨h1, h2⟩
        · refine pagesAre_wr i2.len hqC hP hk (i2.vs e (by rw [k2]; exact h1)) fun p hp => ?_
          have := h.used_es h1 hp
          exact ⟨by rw [i2.n, k1]; exact this.2, by omega⟩
        · refine ⟨by rw [nameBytes_length]; exact h1, fun k hk' => ?_⟩
          refine hput (e.pages[k], madeB (partL (nameBytes e.value) k)) ?_
          rw [← hops, List.zip_append hw.len.symm]
          exact List.mem_append_left _ (h2 k hk')
      · intro p a f hpf
        apply i2.hurts p a f
        have hpf' : (A1.wrq (1 - A.place) 256).hurts p = some (a, f) := hpf
        rw [wrq_hurts A1 (1 - A.place) (show (256 : Nat) ≠ 0 by omega)] at hpf'
        exact healF_of hpf'
      · show (ix ++ s.es.flatMap (·.pages)).Nodup
        have h1 : (s.es.flatMap (·.pages) ++ ix).Nodup := List.Nodup.sublist (by rw [← hix]; exact List.Sublist.append_left (List.take_sublist _ _) _) hw.nd
        exact List.perm_append_comm.nodup h1
      · intro q hq
        show 2 ≤ q ∧ q < A1.n
        rw [k1]
        have hfree : ∀ q ∈ s.places ++ ix, 2 ≤ q ∧ q < A.n := fun q hq => by
          have := h.free_page (hsub.mem hq)
          exact ⟨this.2.1, this.1⟩
        rcases List.mem_append.1 hq with hq | hq
        · exact hfree q (List.mem_append_right _ hq)
        · obtain ⟨e, he, hq⟩ := List.mem_flatMap.1 hq
          rcases hw.ent e he with h1 | ⟨h1, h2⟩
          · exact h.used_es h1 hq
          · obtain ⟨k, hk', rfl⟩ := List.getElem_of_mem hq
            exact hfree _ (List.mem_append_left _ (zip_snd_mem (h2 k hk')).1)
    · have hf' : ¬ (C1.fuse < 0 ∨ 256 ≤ C1.fuse) := by rw [i2.fuse]; exact hf
      rw [wrAll_cut hf', wrL_cut hf]
      refine ⟨rfl, ?_⟩
      have := (i2.wr_cut (z := B.length) (k := A1.fuse.toNat) hB100 (by omega)).fell
      rw [k5, k4] at this
      rw [i2.fuse]
      exact this
theorem Rep.doA (h : Rep C A) (hch : A.change + 1 < 4294967296) (l : List Pt) {r : Nat} (hr : RefusedIs l r) : (doR C A.index A.des l r).1 = (A.doA l r).1 ∧ Rep (doR C A.index A.des l r).2 (A.doA l r).2 := by
  unfold doR AD.doA
  rw [h.state]
  split
  · exact ⟨rfl, h⟩
  · rename_i hst
    have hr0 : r = 0 := by
      apply Classical.byContradiction
      intro hne
      apply hst
      left
      unfold AD.state
      split
      · omega
      · exact hne
    subst hr0
    split
    · exact ⟨rfl, h⟩
    · have hn : C.n = A.n := h.n
      have hst0 : (⟨A.des, Ytcgapfmdpchemaa.freeL (usedB C.n A.index A.des), [], []⟩ : WS) = WA.toWS ⟨A.es, A.freeL, []⟩ [] := by rw [hn]; rfl
      rw [hst0, puts_sim]
      have hok := start_ok h.dir (by rw [hn]; exact h.two)
      rw [hst0] at hok
      cases hp : WA.puts ⟨A.es, A.freeL, []⟩ l with
      | none => exact ⟨rfl, h⟩
      | some s =>
        have hps : WS.puts (WA.toWS ⟨A.es, A.freeL, []⟩ []) l = some (s.toWS ([] ++ l.flatMap pgx)) := by rw [puts_sim, hp]; rfl
        have hSok := hok.puts (by rw [hn]; exact h.n5) hr.ok.2 hps
        have hW := h.start.puts hp
        rw [hn] at hSok
        simp only [Option.map_some]
        by_cases hroom : s.free.length < parts (enc s.des).length ∨ 100 < parts (enc s.des).length
        · have hroom' : (s.toWS ([] ++ l.flatMap pgx)).free.length < parts (enc (s.toWS ([] ++ l.flatMap pgx)).es).length ∨ 100 < parts (enc (s.toWS ([] ++ l.flatMap pgx)).es).length := hroom
          rw [if_pos hroom']
          unfold AD.doS
          rw [if_pos hroom]
          exact ⟨rfl, h⟩
        · have hroom' : ¬ ((s.toWS ([] ++ l.flatMap pgx)).free.length < parts (enc (s.toWS ([] ++ l.flatMap pgx)).es).length ∨ 100 < parts (enc (s.toWS ([] ++ l.flatMap pgx)).es).length) := hroom
          rw [if_neg hroom']
          exact h.doS hW hSok hch hroom
theorem Rep.hchg (h : Rep C A) (hch : A.change + 1 < 4294967296) (ops : List (Nat × List UInt8)) (hx : ∀ x ∈ ops, 2 ≤ x.1) : (newestTo (Ytcgapfmdpchemaa.wrAll C ops).1 2).2.2 + 1 < 4294967296 := by
  rw [h.change ops hx]; exact hch
end
end Go.Proofs.Ytcgapfmdpchemaa
/- A new disk, power failing, a restart and damage, of the abstract disk. No function is walked here. -/
namespace Go.Proofs.Ytcgapfmdpchemaa
open Go.RowKit
def newA (n : Nat) : AD := ⟨n, -1, false, [], [], fun _ => none, 1, 0⟩
theorem newC_len (n : Nat) (h : 4 ≤ n) : (newC n).bytes.length = 256 * n := by
  show (spl _ _ _).length = 256 * n
  rw [spl_length _ _ _ (by rw [headB_length 1 0 [] (by simp)]; simp; omega)]
  simp
theorem new_page0 (n : Nat) (_h : 4 ≤ n) : (newC n).page 0 = headB 1 0 [] := by
  have hl := headB_length 1 0 [] (by simp)
  show ((spl (List.replicate (256 * n) 0) 0 (headB 1 0 [])).drop (0 * 256)).take 256 = _
  generalize headB 1 0 [] = H at hl ⊢
  unfold spl
  rw [Nat.zero_mul, List.drop_zero, List.take_zero, List.nil_append, List.take_left' hl]
theorem new_page1 (n : Nat) (h : 4 ≤ n) : (newC n).page 1 = zp := by
  have hl := headB_length 1 0 [] (by simp)
  show ((spl (List.replicate (256 * n) 0) 0 (headB 1 0 [])).drop (1 * 256)).take 256 = _
  generalize headB 1 0 [] = H at hl ⊢
  unfold spl
  rw [Nat.one_mul, List.take_zero, List.nil_append, List.drop_left' hl, hl, Nat.zero_add, List.drop_replicate, List.take_replicate]
  rw [Nat.min_eq_left (by omega)]; rfl
theorem rep_new (n : Nat) (h4 : 4 ≤ n) (h5 : n ≤ 4096) : Rep (newC n) (newA n) := by
  refine ⟨rfl, rfl, rfl, rfl, newC_len n h4, h4, h5, by show (-1 : Int) ≤ _; omega, by show 0 ≤ 1; omega, by show 1 ≤ 1; omega, by show 1 < _; omega, new_page0 n h4, ?_, ?_, ?_, ?_, ?_, ?_, ?_, ?_, ?_, ?_⟩
  · show ((newC n).page 1).getD 255 0 = _
    rw [new_page1 n h4]; rfl
  · refine .inr ?_
    show headNum (newC n) 1 < 1
    unfold headNum
    rw [new_page1 n h4]
    decide
  · exact ⟨by simp [AD.dirB, AD.des, newA, enc, parts], fun k hk => by cases hk⟩
  · intro e he; cases he
  · intro q a f hq; cases hq
  · exact List.nodup_nil
  · intro q hq; cases hq
  · exact List.Pairwise.nil
  · intro e he; cases he
  · show ([] : List Nat).length ≤ 100
    simp
def AD.hurt (A : AD) (q a : Nat) (f : UInt8) : AD :=
  { A with hurts := if ((A.hurts q).getD (0, 0)).2 = f then healF A.hurts q else hurtF A.hurts q a (((A.hurts q).getD (0, 0)).2 ^^^ f) }
theorem hurt_page {C : Cn} (hl : C.bytes.length = 256 * C.n) {q a p : Nat} (hq : q < C.n) (hp : p < C.n) (ha : a < 256) (f : UInt8) :
    (C.hurt q a f).page p = if p = q then (C.page q).set a ((C.page q).getD a 0 ^^^ f) else C.page p := by
  have hg : (C.page q).getD a 0 = C.bytes.getD (q * 256 + a) 0 := by
    unfold Cn.page
    simp [List.getD_eq_getElem?_getD, List.getElem?_drop, ha]
  rw [hg]
  unfold Cn.page Cn.hurt
  dsimp only
  generalize C.bytes.getD (q * 256 + a) 0 ^^^ f = b
  apply List.ext_getElem?
  intro j
  by_cases hpq : p = q
  · subst hpq
    rw [if_pos rfl]
    simp only [List.getElem?_take, List.getElem?_drop, List.getElem?_set, List.length_take, List.length_drop]
    grind
  · rw [if_neg hpq]
    simp only [List.getElem?_take, List.getElem?_drop, List.getElem?_set]
    rcases Nat.lt_or_gt_of_ne hpq with hlt | hgt
    · have := next256 hlt
      grind
    · have := next256 hgt
      grind
section
variable {C : Cn} {A : AD}
theorem Rep.fail (h : Rep C A) {n : Int} (hn : n ≤ 9223372036854775807) : Rep { C with fuse := n } { A with fuse := n } :=
  ⟨h.n, rfl, h.down, h.flaws, h.len, h.n4, h.n5, hn, h.place, h.ch, h.chb, h.head, h.old255, h.old0, h.ix, h.vs, h.hurts, h.nodup, h.rng, h.asc, h.fit, h.ixl⟩
theorem Rep.restart (h : Rep C A) : Rep { C with fuse := -1, down := false } { A with fuse := -1, down := false } :=
  ⟨h.n, rfl, rfl, h.flaws, h.len, h.n4, h.n5, by show (-1 : Int) ≤ _; omega, h.place, h.ch, h.chb, h.head, h.old255, h.old0, h.ix, h.vs, h.hurts, h.nodup, h.rng, h.asc, h.fit, h.ixl⟩
theorem hurt_flaws (C : Cn) (q a : Nat) (f : UInt8) (p : Nat) (h : p ≠ q) : (C.hurt q a f).flaws p = C.flaws p := by
  unfold Cn.hurt
  dsimp only
  split
  · exact healF_ne h
  · unfold hurtF; rw [if_neg h]
theorem hurtP_hurt {P : List UInt8} {a : Nat} (ha : a < P.length) {fl : Option (Nat × UInt8)} (hfl : ∀ a' f', fl = some (a', f') → a' = a) (f : UInt8) (hf : f ≠ 0) :
    (hurtP P fl).set a ((hurtP P fl).getD a 0 ^^^ f) = hurtP P (if (fl.getD (0, 0)).2 = f then none else some (a, (fl.getD (0, 0)).2 ^^^ f)) := by
  cases fl with
  | none =>
    show P.set a (P.getD a 0 ^^^ f) = hurtP P (if (0 : UInt8) = f then none else some (a, 0 ^^^ f))
    rw [if_neg fun e => hf e.symm]
    show _ = P.set a (P.getD a 0 ^^^ (0 ^^^ f))
    rw [UInt8.zero_xor]
  | some x =>
    obtain ⟨a', g⟩ := x
    have := hfl a' g rfl
    subst this
    show ((P.set a' (P.getD a' 0 ^^^ g)).set a' ((P.set a' (P.getD a' 0 ^^^ g)).getD a' 0 ^^^ f)) = hurtP P (if g = f then none else some (a', g ^^^ f))
    have hg : (P.set a' (P.getD a' 0 ^^^ g)).getD a' 0 = P.getD a' 0 ^^^ g := by simp [List.getD_eq_getElem?_getD, ha]
    rw [hg, List.set_set]
    by_cases hgf : g = f
    · subst hgf
      rw [if_pos rfl, UInt8.xor_assoc, UInt8.xor_self, UInt8.xor_zero]
      show P.set a' (P.getD a' 0) = P
      apply List.ext_getElem?
      intro j
      rw [List.getElem?_set]
      by_cases hj : a' = j
      · subst hj
        rw [if_pos rfl, if_pos ha, List.getD_eq_getElem?_getD, List.getElem?_eq_getElem ha]; rfl
      · rw [if_neg hj]
    · rw [if_neg hgf]
      show _ = P.set a' (P.getD a' 0 ^^^ (g ^^^ f))
      rw [UInt8.xor_assoc]
theorem hurt_flaw_same (C : Cn) (q a : Nat) (f : UInt8) : (C.hurt q a f).flaws q = if ((C.flaws q).getD (0, 0)).2 = f then none else some (a, ((C.flaws q).getD (0, 0)).2 ^^^ f) := by
  unfold Cn.hurt
  dsimp only
  split
  · exact healF_same _ _
  · unfold hurtF; rw [if_pos rfl]
theorem Rep.hurt (h : Rep C A) {q a : Nat} (h2 : 2 ≤ q) (hq : q < A.n) (ha : a < 256) {f : UInt8} (hf : f ≠ 0) (hfl : ∀ a' f', A.hurts q = some (a', f') → a' = a) : Rep (C.hurt q a f) (A.hurt q a f) := by
  have hqC : q < C.n := by rw [h.n]; exact hq
  have hn4 := h.n4
  have hpl := h.place
  have hfl' : ∀ a' f', C.flaws q = some (a', f') → a' = a := by rw [h.flaws]; exact hfl
  have pg : ∀ p, p < 2 → (C.hurt q a f).page p = C.page p := fun p hp => by
    rw [hurt_page h.len hqC (by rw [h.n]; omega) ha, if_neg (by omega)]
  have hnum : ∀ p, p < 2 → headNum (C.hurt q a f) p = headNum C p := fun p hp => by unfold headNum; rw [pg p hp]
  have hpa : ∀ {pages : List Nat} {L : List UInt8}, PagesAre C pages L → (∀ p ∈ pages, p < A.n) → PagesAre (C.hurt q a f) pages L := fun {pages L} hp hlt => ⟨hp.1, fun k hk => by
    have hm := hlt _ (List.getElem_mem hk)
    have hk2 := hp.2 k hk
    rw [hurt_page h.len hqC (by rw [h.n]; exact hm) ha]
    by_cases he : pages[k] = q
    · rw [if_pos he, he, hurt_flaw_same]
      rw [he] at hk2
      rw [hk2]
      exact hurtP_hurt (by rw [madeB_length _ (partL_length L k)]; exact ha) hfl' f hf
    · rw [if_neg he, hurt_flaws _ _ _ _ _ he]
      exact hk2⟩
  refine ⟨h.n, h.fuse, h.down, ?_, ?_, h.n4, h.n5, h.fuseb, h.place, h.ch, h.chb, ?_, ?_, ?_, hpa h.ix fun p hp => (h.used_ix hp).2, fun e he => hpa (h.vs e he) fun p hp => (h.used_es he hp).2, ?_, h.nodup, h.rng, h.asc, h.fit, h.ixl⟩
  · show (if _ then _ else _) = (if _ then _ else _)
    rw [h.flaws]
  · show (C.bytes.set _ _).length = _
    rw [List.length_set]; exact h.len
  · rw [pg _ (by show A.place < 2; omega)]; exact h.head
  · rw [pg _ (by show 1 - A.place < 2; omega)]; exact h.old255
  · rw [pg _ (by show 1 - A.place < 2; omega), hnum _ (by show 1 - A.place < 2; omega)]; exact h.old0
  · intro p a' f' hp
    have hp' : (if ((A.hurts q).getD (0, 0)).2 = f then healF A.hurts q else hurtF A.hurts q a (((A.hurts q).getD (0, 0)).2 ^^^ f)) p = some (a', f') := hp
    by_cases hg : ((A.hurts q).getD (0, 0)).2 = f
    · rw [if_pos hg] at hp'
      exact h.hurts p a' f' (healF_of hp')
    · rw [if_neg hg] at hp'
      unfold hurtF at hp'
      by_cases he : p = q
      · rw [if_pos he] at hp'
        cases hp'
        refine ⟨by omega, by show p < A.n; omega, ha, fun hz => hg ?_⟩
        have h1 : ((A.hurts q).getD (0, 0)).2 ^^^ f ^^^ f = 0 ^^^ f := by rw [hz]
        rwa [UInt8.xor_assoc, UInt8.xor_self, UInt8.xor_zero, UInt8.zero_xor] at h1
      · rw [if_neg he] at hp'
        exact h.hurts p a' f' hp'
end
end Go.Proofs.Ytcgapfmdpchemaa
