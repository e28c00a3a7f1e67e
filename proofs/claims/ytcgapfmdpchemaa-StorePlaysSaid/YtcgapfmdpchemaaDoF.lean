/- The walk of Do. -/
import Derived.Test.YtcgapfmdpchemaaDoR
namespace Go.Proofs.Ytcgapfmdpchemaa
open Go.RowKit
/-- what Do returns, and the disk behind it; r: the error of its arguments -/
def doR (C : Cn) (index : List Nat) (es : List DE) (l : List Pt) (r : Nat) : Nat × Cn :=
  if stateB C index r ≠ 0 ∨ l = [] then (stateB C index r, C)
  else if noneB es l then (4, C)
  else match WS.puts ⟨es, freeL (usedB C.n index es), [], []⟩ l with
    | none => (5, C)
    | some s =>
      if s.free.length < parts (enc s.es).length ∨ 100 < parts (enc s.es).length then (5, C)
      else (if (doWr C s (s.free.take (parts (enc s.es).length)) (enc s.es)).2 then 0 else 9, (doWr C s (s.free.take (parts (enc s.es).length)) (enc s.es)).1)
def DoPost (C : Cn) (index : List Nat) (es : List DE) (l : List Pt) (bd bp bm : Nat) (w : World) (e : Ending) (w' : World) : Prop :=
  ∃ r, RefusedIs l r ∧ e = .returned (iv (doR C index es l r).1) ∧ DiskAt w' bd bp bm (doR C index es l r).2 ∧ Only3 bd bp bm w w'
theorem RefusedIs.lt {l : List Pt} {r : Nat} (h : RefusedIs l r) : r < 1000 := by
  rcases h with ⟨h, _⟩ | ⟨h, _⟩ | ⟨h, _⟩ <;> omega
/-- the same value stored again -/
theorem same_store {w : World} {b : Nat} {x : Value} {t : TypeId} (h : w.heap[b]? = some (.cells #[x] t (0, 0))) : ∀ k : Nat, (w.setCell ⟨b, 0, none⟩ x).heap[k]? = w.heap[k]? := fun k => by
  by_cases hk : k = b
  · subst hk; rw [heap_setCell_same w k 0 _ t _ h, h]; rfl
  · exact heap_setCell_other w ⟨b, 0, none⟩ k x hk
theorem usedB_true (n : Nat) (index : List Nat) (es : List DE) (j : Nat) (hj : j < 2) : (usedB n index es).getD j true = true := by
  have hset : ∀ (L : List Bool) (p : Nat), L.getD j true = true → (L.set p true).getD j true = true := fun L p h => by
    simp only [List.getD_eq_getElem?_getD, List.getElem?_set] at *
    split
    · split <;> rfl
    · exact h
  have hmark : ∀ (l : List Nat) (L : List Bool), L.getD j true = true → (mark L l).getD j true = true := fun l => by
    induction l with
    | nil => exact fun L h => h
    | cons p l ih => exact fun L h => ih _ (hset L p h)
  have hes : ∀ (es : List DE) (L : List Bool), L.getD j true = true → (es.foldl (fun L e => mark L e.pages) L).getD j true = true := fun es => by
    induction es with
    | nil => exact fun L h => h
    | cons e es ih => exact fun L h => ih _ (hmark _ _ h)
  refine hes _ _ (hmark _ _ ?_)
  rcases j with _ | _ | j
  · rfl
  · rfl
  · omega
theorem freeL_two (n : Nat) (index : List Nat) (es : List DE) : ∀ p ∈ freeL (usedB n index es), 2 ≤ p := fun p hp => by
  apply Nat.le_of_not_lt
  intro h
  have h2 := (List.mem_filter.1 hp).2
  rw [usedB_true n index es p h] at h2
  cases h2
theorem start_ok {C : Cn} {size : Nat} {index : List Nat} {es : List DE} (hd : Dir C size index es) (h2 : 2 ≤ C.n) : WS.Ok C.n (freeL (usedB C.n index es)).length 24800 ⟨es, freeL (usedB C.n index es), [], []⟩ :=
  ⟨hd.asc, hd.fit, hd.pg, hd.room, hd.many, rfl, by simp, fun p hp => by have := freeL_lt _ p hp; rwa [usedB_length C.n h2] at this, by simp, freeL_two _ _ _, by simp, by simp⟩
theorem only3_of_keep {a b c : Nat} {w w' : World} (h : Keep3 w.heap.size a b c w w') : Only3 a b c w w' := ⟨h.os, h.tape, h.output, h.size, h.block⟩
theorem below_same {B : Nat} {w w' : World} (h : ∀ k : Nat, w'.heap[k]? = w.heap[k]?) (h1 : w'.os = w.os) (h2 : w'.tape = w.tape) (h3 : w'.output = w.output) (h4 : w'.heap.size = w.heap.size) : Below B w w' := ⟨h1, h2, h3, Nat.le_of_eq h4.symm, fun k _ => h k⟩
set_option maxRecDepth 1000000 in
set_option maxHeartbeats 8000000 in
theorem do_any {bs bd bp bm : Nat} {C : Cn} {size : Nat} {index : List Nat} {es : List DE} (w : World) (hs : StoreAt w bs bd) (hD : DiskAt w bd bp bm C) (hd : Dir C size index es) (v : Value) (l : List Pt) (hp : PutsAt w v l) (hl : l.length ≤ 1000000)
    (hfb : C.fuse ≤ 9223372036854775807) (hchg : ∀ ops : List (Nat × List UInt8), (∀ x ∈ ops, 2 ≤ x.1) → (newestTo (wrAll C ops).1 2).2.2 + 1 < 4294967296) :
    Calls Try.prog 11 #[.pointer (some ⟨bs, 0, none⟩), v] w (DoPost C index es l bd bp bm w) := by
  obtain ⟨Ap, cp, rfl, hnc, hcm, -⟩ := id hp
  have hbl := hD.lt
  have hbsl : bs < w.heap.size := block_lt_of_cell hs
  -- the named result
  obtain ⟨w1, hw1⟩ : ∃ w1, w.alloc (.cells #[.int .i64 0] 29) = w1 := ⟨_, rfl⟩
  have b1 : Below w.heap.size w w1 := by rw [← hw1]; exact (Below.refl _ w).alloc (Nat.le_refl _) _
  have hbe1 : w1.heap[w.heap.size]? = some (.cells #[.int .i64 0] 29 (0, 0)) := by rw [← hw1]; exact heap_alloc_new w _
  have href := refused_any w1 _ l (hp.below b1 (Nat.le_refl _)) hl
  obtain ⟨be, hbe⟩ : ∃ be, w.heap.size = be := ⟨_, rfl⟩
  have HREF := Lib.hid href; have HB1 := Lib.hid b1; have HBE1 := Lib.hid hbe1; have HP := Lib.hid hp; have HS := Lib.hid hs; have HD := Lib.hid hD
  clear href b1 hbe1 hp hs hD
  go_enter_defers Try.func11, Try.ntmps11
  go_wp2_with fail
  refine HREF.out.mono ?_
  rintro e w2 ⟨⟨r, rfl, hr⟩, b2⟩
  have hr1000 := hr.lt
  have bw2 : Below w.heap.size w w2 := HB1.out.trans (b2.mono HB1.out.size)
  have hbe1' : w1.heap[be]? = some (.cells #[.int .i64 0] 29 (0, 0)) := by rw [← hbe]; exact HBE1.out
  have hbe2 := (b2.block be (Array.getElem?_eq_some_iff.1 hbe1').1).trans hbe1'
  have hbg := begin_any w2 (HS.out.below bw2 (Nat.le_refl _)) (HD.out.below bw2 (Nat.le_refl _)) hd r hr1000
  have HBG := Lib.hid hbg; have HBE2 := Lib.hid hbe2; have HB2 := Lib.hid bw2; have HR := Lib.hid hr
  clear hbg hbe2 bw2 b2 hr hbe1'
  unfold iv
  go_wp2_with fail
  refine HBG.out.mono ?_
  rintro e w3 ⟨b3, v5, ix, rfl, hst⟩
  have hbe3 := (b3.block be (Array.getElem?_eq_some_iff.1 HBE2.out).1).trans HBE2.out
  have bw3 : Below w.heap.size w w3 := HB2.out.trans (b3.mono HB2.out.size)
  have cbe3 : w3.cell? ⟨be, 0, none⟩ = some (.int .i64 0) := by rw [cell_of_row _ _ _ _ _ _ hbe3]; rfl
  have fbe3 : w3.frozen? ⟨be, 0, none⟩ = false := frozen_of_row _ _ _ _ _ hbe3
  by_cases hst0 : stateB C index r = 0
  · obtain ⟨ps, hrow, hps, hix⟩ := hst hst0
    have HST := Lib.hid hst0
    rw [hst0]
    obtain ⟨w4, hw4⟩ : ∃ w4, w3.setCell ⟨be, 0, none⟩ (.int .i64 0) = w4 := ⟨_, rfl⟩
    have hsame : ∀ k : Nat, w4.heap[k]? = w3.heap[k]? := by rw [← hw4]; exact same_store hbe3
    have b34 : ∀ B, Below B w3 w4 := fun B => by rw [← hw4] at hsame ⊢; exact below_same hsame rfl rfl rfl (by simp [World.setCell])
    have hrow4 := hrow.below (b34 _) (Nat.le_refl _)
    have hix4 := hix.below (b34 _) (Nat.le_refl _)
    have hbe4 := ((b34 w3.heap.size).block be (Array.getElem?_eq_some_iff.1 hbe3).1).trans hbe3
    have bw4 := bw3.trans (b34 _)
    have cbe4 : w4.cell? ⟨be, 0, none⟩ = some (.int .i64 0) := by rw [cell_of_row _ _ _ _ _ _ hbe4]; rfl
    have fbe4 : w4.frozen? ⟨be, 0, none⟩ = false := frozen_of_row _ _ _ _ _ hbe4
    have HROW4 := Lib.hid hrow4; have HIX4 := Lib.hid hix4; have HBE4 := Lib.hid hbe4; have HB4 := Lib.hid bw4; have HPS := Lib.hid hps; have HBE3 := Lib.hid hbe3
    clear hst hrow hix b3 hsame b34 hrow4 hix4 hbe4 bw4 bw3 hps hbe3 hst0
    by_cases hl0 : l = []
    · subst hl0
      have HRES := Lib.hid (show doR C index es [] r = (0, C) by unfold doR; rw [if_pos (.inr rfl), HST.out])
      have HROWB := Lib.hid (show (w4.setCell ⟨be, 0, none⟩ (.int .i64 0)).heap[be]? = some (.cells #[.int .i64 0] 29 (0, 0)) by rw [heap_setCell_same w4 be 0 _ 29 _ HBE4.out]; rfl)
      have HBF := Lib.hid (HB4.out.setCell (p := ⟨be, 0, none⟩) (Nat.le_of_eq hbe) (.int .i64 0))
      go_wp2_with fail
      refine do_ret rfl HROWB.out ⟨r, HR.out, ?_, ?_, Only3.of_below HBF.out⟩
      · rw [HRES.out]; rfl
      · rw [HRES.out]; exact HD.out.below HBF.out (Nat.le_refl _)
    · have hl1 : 1 ≤ l.length := List.length_pos_iff.2 hl0
      have hl1i : ((l.length : Int) == 0) = false := by
        rw [Bool.eq_false_iff]; intro h; have := eq_of_beq h; omega
      have hlok : l.length ≤ 100 ∧ ∀ x ∈ l, x.ok := by
        have : r = 0 := by
          have := HST.out
          unfold stateB at this
          split at this
          · omega
          · split at this
            · omega
            · omega
        subst this
        exact HR.out.ok
      obtain ⟨w5, hw5⟩ : ∃ w5, w4.alloc (.cells #[.slice none 0 0, .slice none 0 0, .slice none 0 0] 87) = w5 := ⟨_, rfl⟩
      have b45 : Below w4.heap.size w4 w5 := by rw [← hw5]; exact (Below.refl _ w4).alloc (Nat.le_refl _) _
      have hbw5 : w5.heap[w4.heap.size]? = some (.cells #[.slice none 0 0, .slice none 0 0, .slice none 0 0] 87 (0, 0)) := by rw [← hw5]; exact heap_alloc_new w4 _
      obtain ⟨bw, hbw⟩ : ∃ bw, w4.heap.size = bw := ⟨_, rfl⟩
      rw [hbw] at hbw5
      have hrow5 := HROW4.out.below b45 (Nat.le_refl _)
      have hix5 := HIX4.out.below b45 (Nat.le_refl _)
      have hbe5 := (b45.block be (Array.getElem?_eq_some_iff.1 HBE4.out).1).trans HBE4.out
      have bw5 := HB4.out.trans (b45.mono HB4.out.size)
      have hus := used_any (_size := size) w5 (HS.out.below bw5 (Nat.le_refl _)) (HD.out.below bw5 (Nat.le_refl _)) ps v5 ix hrow5.rd hix5 hd.ix (fun p hp q hq => hd.pg p.1 (by rw [← HPS.out]; exact List.mem_map.2 ⟨p, hp, rfl⟩) q hq)
      rw [HPS.out] at hus
      have HUS := Lib.hid hus; have HROW5 := Lib.hid hrow5; have HBE5 := Lib.hid hbe5; have HB5 := Lib.hid bw5; have HBW5 := Lib.hid hbw5
      clear hus hrow5 hix5 hbe5 bw5 hbw5 b45
      go_wp2_with fail
      refine HUS.out.mono ?_
      rintro e w6 ⟨g, rfl, hgs, hg, b6⟩
      have hul := usedB_length C.n HD.out.two index es
      have hsm := HD.out.small
      have HUL := Lib.hid hul
      have hrow6 := HROW5.out.below b6 (Nat.le_refl _)
      have hbe6 := (b6.block be (Array.getElem?_eq_some_iff.1 HBE5.out).1).trans HBE5.out
      have hbw6 := (b6.block bw (Array.getElem?_eq_some_iff.1 HBW5.out).1).trans HBW5.out
      have bw6 := HB5.out.trans (b6.mono HB5.out.size)
      have HROW6 := Lib.hid hrow6; have HBE6 := Lib.hid hbe6; have HBW6 := Lib.hid hbw6; have HB6 := Lib.hid bw6; have HG := Lib.hid hg
      have HSO := Lib.hid (start_ok hd HD.out.two)
      clear hrow6 hbe6 hbw6 bw6 b6 hg hgs cbe4 fbe4 cbe3 fbe3 hw4 hw5
      rw [← hul]
      generalize hUU : usedB C.n index es = U at *
      have HUU := Lib.hid hUU; clear hUU hul
      have hU1 : U.length ≤ 100000 := by rw [HUL.out]; omega
      have HU1 := Lib.hid hU1; clear hU1
      go_wp2_with fail
      refine do_loop0 w6 g bw U HU1.out HG.out HBW6.out _ _ _ _ _ _ _ _ _ _ _ _ _ _ _ _ _ _ _ _ _ _ _ _ _ _ _ _ _ _ _ _ _ _ _ _ _ _ _ _ _ _ _ _ _ _ _ _ _ _ _ _ _ _ _ _ _ _ _ _ _ _ _ _ _ _ _ _ _ _ _ _ _ _ _ _ _ _ _ _ _ _ _ _ _ _ _ _ _ _ _ _ _ _ _ _ _ _ _ _ _ _ _ _ _ _ _ _ _ _ _ _ _ _ _ _ _ _ _ _ _ _ _ _ _ _ _ _ _ _ _ _ _ _ _ _ _ _ _ _ _ _ _ _ _ _ _ _ _ _ _ _ _ _ _ _ _ _ _ _ _ _ _ _ _ _ _ _ _ _ _ _ _ _ _ _ _ _ ?_
      intro _ _ _ _ _ _ _ _ _ _ _ _ _ _ _ _ w7 ⟨tk7, vf, hbw7, hvf⟩
      have hbgne : be ≠ bw := by have := (Array.getElem?_eq_some_iff.1 HBE4.out).1; omega
      have hbe7 := tk7.row HBE6.out hbgne (by decide) (by decide)
      have hnbw : be ≤ bw := by have := HB4.out.size; omega
      have hlt6 : bw < w6.heap.size := (Array.getElem?_eq_some_iff.1 HBW6.out).1
      have bw7 : Below w.heap.size w w7 := HB6.out.trans (tk7.below (by omega) (by omega) (by omega))
      have hrow7 := HROW6.out.tk (base := w6.heap.size) (fun p hp => (HROW6.out.at_ p hp).low) tk7 HBW6.out
      have hsz7 := tk7.size
      have hW7 : WorkAt w7 w7.heap.size bw vf (freeL U) [] [] := ⟨by omega, Nat.le_refl _, hvf.low, ⟨_, _, hbw7, World.ownsRow_nil _ _ _ _, World.ownsRow_nil _ _ _ _⟩, by simp⟩
      have HROW7 := Lib.hid hrow7; have HBE7 := Lib.hid hbe7; have HB7 := Lib.hid bw7; have HW7 := Lib.hid hW7
      clear hrow7 hbe7 bw7 hW7 tk7 hbw7 hvf
      have hps5 : ps.length ≤ 24800 := by rw [← ents_length, HPS.out]; exact hd.many
      have hasc : Asc (ents ps) := by rw [HPS.out]; exact hd.asc
      have hp7 := HP.out.below HB7.out (Nat.le_refl _)
      have HP7 := Lib.hid hp7; clear hp7
      go_wp2_with fail
      refine do_loop2 w7 be l Ap cp v5 ps _ HP7.out hl HROW7.out.rd hasc (by omega) HBE7.out _ _ _ _ _ _ _ _ _ _ _ _ _ _ _ _ _ _ _ _ _ _ _ _ _ _ _ _ _ _ _ _ _ _ _ _ _ _ _ _ _ _ _ _ _ _ _ _ _ _ _ _ _ _ _ _ _ _ _ _ _ _ _ _ _ _ _ _ _ _ _ _ _ _ _ _ _ _ _ _ _ _ _ _ _ _ _ _ _ _ _ _ _ _ _ _ _ _ _ _ _ _ _ _ _ _ _ _ _ _ _ _ _ _ _ _ _ _ _ _ _ _ _ _ _ _ _ _ _ _ _ _ _ _ _ _ _ _ _ _ _ _ _ _ _ _ _ _ _ _ _ _ _ _ _ _ _ _ _ _ _ _ _ _ _ _ _ _ _ _ _ _ _ _ _ _ _ ?exit2 ?ret2
      case ret2 =>
        intro _ _ _ _ _ _ _ _ _ _ _ _ _ _ _ _ _ _ _ _ _ w8 b8 hno
        have bw8 := HB7.out.trans (b8.mono HB7.out.size)
        have hbe8 := (b8.block be (Array.getElem?_eq_some_iff.1 HBE7.out).1).trans HBE7.out
        have hbf := bw8.setCell (p := ⟨be, 0, none⟩) (Nat.le_of_eq hbe) (.int .i64 4)
        have hres : doR C index es l r = (4, C) := by unfold doR; rw [if_neg (by rw [HST.out]; simp [hl0]), if_pos (by rw [← HPS.out]; exact hno)]
        refine do_ret (be := be) rfl (show (w8.setCell ⟨be, 0, none⟩ (.int .i64 4)).heap[be]? = some (.cells #[.int .i64 4] 29 (0, 0)) by rw [heap_setCell_same w8 be 0 _ 29 _ hbe8]; rfl) ⟨r, HR.out, ?_, ?_, Only3.of_below hbf⟩
        · rw [hres]; rfl
        · rw [hres]; exact HD.out.below hbf (Nat.le_refl _)
      case exit2 =>
        intro _ _ _ _ _ _ _ _ _ _ _ _ _ _ _ _ _ _ _ _ _ w8 b8 hno
        have bw8 := HB7.out.trans (b8.mono HB7.out.size)
        have hbe8 := (b8.block be (Array.getElem?_eq_some_iff.1 HBE7.out).1).trans HBE7.out
        have hrow8 := HROW7.out.below b8 (Nat.le_refl _)
        have hlow8 : ∀ p ∈ ps, IntsLow w7.heap.size w8 p.2 p.1.pages := fun p hp => ((HROW7.out.at_ p hp).low).below b8 (Nat.le_refl _)
        have hW8 := HW7.out.below b8 (Nat.le_refl _)
        have hrow8' : EntRow w8 be v5 ps := ⟨own_base hrow8.own (by have := HB2.out.size; omega), hrow8.at_⟩
        have HROW8 := Lib.hid hrow8'; have HLOW8 := Lib.hid hlow8; have HW8 := Lib.hid hW8; have HBE8 := Lib.hid hbe8; have HB8 := Lib.hid bw8
        have HNO := Lib.hid hno
        have hbase : be ≤ w7.heap.size := by have := HB7.out.size; omega
        have hbebase : be < w7.heap.size := (Array.getElem?_eq_some_iff.1 HBE7.out).1
        have hw8s : be ≤ w8.heap.size := by have := b8.size; omega
        clear hrow8 hrow8' hlow8 hW8 hbe8 bw8 b8 hno
        go_wp2_with fail
        have hHP8 : ∀ w', Below be w8 w' → PutsAt w' (.slice Ap l.length cp) l := fun w' b => HP.out.below (HB8.out.trans (by rw [hbe]; exact b)) (Nat.le_refl _)
        have HHP8 := Lib.hid hHP8; clear hHP8
        have hF : (freeL U).length ≤ 4096 := by have := freeL_length U; rw [HUL.out] at this; omega
        refine do_loop4 w8 be w7.heap.size be bw C.n (freeL U).length l Ap cp v5 vf ps ⟨es, freeL U, [], []⟩ (.int .i64 0) HHP8.out hlok.1 hlok.2 HSO.out hsm hF HPS.out HROW8.out HLOW8.out HW8.out HBE8.out hnbw hbase hw8s _ _ _ _ _ _ _ _ _ _ _ _ _ _ _ _ _ _ _ _ _ _ _ _ _ _ _ _ _ _ _ _ _ _ _ _ _ _ _ _ _ _ _ _ _ _ _ _ _ _ _ _ _ _ _ _ _ _ _ _ _ _ _ _ _ _ _ _ _ _ _ _ _ _ _ _ _ _ _ _ _ _ _ _ _ _ _ _ _ _ _ _ _ _ _ _ _ _ _ _ _ _ _ _ _ _ _ _ _ _ _ _ _ _ _ _ _ _ _ _ _ _ _ _ _ _ _ _ _ _ _ _ _ _ _ _ _ _ _ _ _ _ _ _ _ _ _ _ _ _ _ _ _ _ _ _ _ _ _ _ _ _ _ _ _ _ _ _ _ _ _ _ _ _ _ _ ?exit4 ?ret4
        case ret4 =>
          intro _ _ _ _ _ _ _ _ _ _ _ _ _ _ _ _ _ _ _ _ _ _ _ _ _ _ _ _ _ _ _ _ _ _ _ _ _ _ _ _ _ _ _ _ _ _ _ w9 b9 hno hbe9
          have bw9 : Below w.heap.size w w9 := HB8.out.trans (by rw [hbe]; exact b9)
          have hbf := bw9.setCell (p := ⟨be, 0, none⟩) (Nat.le_of_eq hbe) (.int .i64 5)
          have hres : doR C index es l r = (5, C) := by unfold doR; rw [if_neg (by rw [HST.out]; simp [hl0]), if_neg (by rw [← HPS.out, HNO.out]; decide), HUU.out, hno]
          refine do_ret (be := be) rfl (show (w9.setCell ⟨be, 0, none⟩ (.int .i64 5)).heap[be]? = some (.cells #[.int .i64 5] 29 (0, 0)) by rw [heap_setCell_same w9 be 0 _ 29 _ hbe9]; rfl) ⟨r, HR.out, ?_, ?_, Only3.of_below hbf⟩
          · rw [hres]; rfl
          · rw [hres]; exact HD.out.below hbf (Nat.le_refl _)
        case exit4 =>
          intro _ _ _ _ _ _ _ _ _ _ _ _ _ _ _ _ _ _ _ _ _ _ _ _ _ _ _ _ _ _ _ _ _ _ _ _ _ _ _ _ _ _ _ _ _ _ v5' vf' ps' s w9 hputs hps' hrow9 hlow9 hW9 b9 hbe9
          have bw9 : Below w.heap.size w w9 := HB8.out.trans (by rw [hbe]; exact b9)
          have hSok := (HSO.out.puts hsm hlok.2 hputs).mono (show 24800 + l.length ≤ 24900 by omega)
          have hDl := HD.out.lt
          have hsz9 := b9.size
          have hD9 := HD.out.below bw9 (Nat.le_refl _)
          have hs9 := HS.out.below bw9 (Nat.le_refl _)
          have hch : (newestTo (wrAll C ((s.places ++ s.free.take (parts (enc s.es).length)).zip (s.pgs ++ chunksB (enc s.es)))).1 2).2.2 + 1 < 4294967296 := hchg _ fun x hx => by
            have h1 := (List.of_mem_zip (a := x.1) (b := x.2) hx).1
            rcases List.mem_append.1 h1 with h | h
            · exact hSok.ptwo _ h
            · exact hSok.two _ (List.mem_of_mem_take h)
          have hbase9 : doR C index es l r = if s.free.length < parts (enc s.es).length ∨ 100 < parts (enc s.es).length then (5, C)
              else (if (doWr C s (s.free.take (parts (enc s.es).length)) (enc s.es)).2 then 0 else 9, (doWr C s (s.free.take (parts (enc s.es).length)) (enc s.es)).1) := by
            unfold doR; rw [if_neg (by rw [HST.out]; simp [hl0]), if_neg (by rw [← HPS.out, HNO.out]; decide), HUU.out, hputs]
          have HRES := Lib.hid hbase9; clear hbase9
          simp only [Exit.inBlock, Exit.then, if_true]
          refine (‹∀ (a : Act) (w : World), Code.wp Try.prog _ _ a w → _›) _ _ ?_
          refine do_tail w9 be w7.heap.size be bw bs bd bp bm (freeL U).length v5' vf' (.int .i64 0) ps' s C hSok hF hps' hrow9 hW9 hbe9 (Nat.le_refl _) hbebase hnbw hbase (by omega) hD9 hs9 (by omega) (by omega) hfb hch _ _ _ _ _ _ _ _ _ _ _ _ _ _ _ _ _ _ _ _ _ _ _ _ _ _ _ _ _ _ _ _ _ _ _ _ _ _ _ _ _ _ _ _ _ _ _ _ _ _ _ _ _ _ _ _ _ _ _ _ _ _ _ _ _ _ _ _ _ _ _ _ _ _ _ _ _ _ _ _ _ _ _ _ _ _ _ _ _ _ _ _ _ _ _ _ _ _ _ _ _ _ _ _ _ _ _ _ _ _ _ _ _ _ _ _ _ _ _ _ _ _ _ _ _ _ _ _ _ _ _ _ _ _ _ _ _ _ _ _ _ _ _ _ _ _ _ _ _ _ _ _ _ _ _ _ _ _ _ _ _ _ _ _ _ _ _ _ _ _ _ _ _ _ _ _ _ _ ?full ?pan ?ok
          case full =>
            intro _ _ _ _ _ _ _ _ _ _ _ _ _ _ _ _ _ _ _ _ _ _ _ _ _ _ _ _ _ _ _ _ _ _ _ _ _ _ _ _ _ _ _ _ _ _ _ _ _ _ _ _ _ _ _ _ _ _ _ _ _ _ _ _ _ _ _ _ _ _ _ _ _ _ _ _ _ _ _ _ _ _ _ _ _ _ _ _ _ _ _ _ _ _ _ _ _ _ _ _ _ _ _ _ _ _ _ _ _ _ _ _ _ _ _ _ _ _ _ _ _ _ _ _ _ _ _ _ _ _ _ _ _ _ _ _ _ _ _ _ _ _ _ _ _ _ _ _ _ _ _ _ _ _ _ _ _ _ _ _ _ _ _ _ _ _ _ _ _ _ _ _ _ _ _ _ _ _ _ _ w10 b10 hfull hbe10
            have bw10 : Below w.heap.size w w10 := bw9.trans (by rw [hbe]; exact b10)
            have hbf := bw10.setCell (p := ⟨be, 0, none⟩) (Nat.le_of_eq hbe) (.int .i64 5)
            have hres : doR C index es l r = (5, C) := by rw [HRES.out, if_pos hfull]
            refine do_ret (be := be) rfl (show (w10.setCell ⟨be, 0, none⟩ (.int .i64 5)).heap[be]? = some (.cells #[.int .i64 5] 29 (0, 0)) by rw [heap_setCell_same w10 be 0 _ 29 _ hbe10]; rfl) ⟨r, HR.out, ?_, ?_, Only3.of_below hbf⟩
            · rw [hres]; rfl
            · rw [hres]; exact HD.out.below hbf (Nat.le_refl _)
          case pan =>
            intro a C' w10 hN h100 h4 hdl hdw hD10 hk10 hbe10
            have hres : doR C index es l r = (9, C') := by rw [HRES.out, if_neg (by omega), hdw]; rfl
            have hk : Only3 bd bp bm w w10 := only3_of_keep ⟨hk10.os.trans bw9.os, hk10.tape.trans bw9.tape, hk10.output.trans bw9.output, Nat.le_trans bw9.size hk10.size, fun k hk h1 h2 h3 => (hk10.block k (by omega) h1 h2 h3).trans (bw9.block k hk)⟩
            have hlt10 := (Array.getElem?_eq_some_iff.1 hbe10).1
            have b1011 : Below be w10 ((w10.alloc (.cells #[] 101)).setCell ⟨be, 0, none⟩ (.int .i64 9)) := ((Below.refl be w10).alloc (by omega) _).setCell (p := ⟨be, 0, none⟩) (Nat.le_refl _) _
            have hD11 : DiskAt ((w10.alloc (.cells #[] 101)).setCell ⟨be, 0, none⟩ (.int .i64 9)) bd bp bm C' := hD10.kept (b1011.block _ (by omega)) (b1011.block _ (by omega)) (b1011.block _ (by omega))
            have ho11 : Only3 bd bp bm w ((w10.alloc (.cells #[] 101)).setCell ⟨be, 0, none⟩ (.int .i64 9)) := only3_of_keep ⟨b1011.os.trans hk.os, b1011.tape.trans hk.tape, b1011.output.trans hk.output, Nat.le_trans hk.size b1011.size, fun k hk' h1 h2 h3 => (b1011.block k (by omega)).trans (hk.block k hk' h1 h2 h3)⟩
            refine do_cut h4 hdl hbe10 ⟨r, HR.out, ?_, ?_, ho11⟩
            · rw [hres]; rfl
            · rw [hres]; exact hD11
          case ok =>
            intro _ _ _ _ _ _ _ _ _ _ _ _ _ _ _ _ _ _ _ _ _ _ _ _ _ _ _ _ _ _ _ _ _ _ _ _ _ _ _ _ _ _ _ _ _ _ _ _ _ _ _ _ _ _ _ _ _ _ _ _ _ _ _ _ _ _ _ _ _ _ _ _ _ _ _ _ _ _ _ _ _ _ _ _ _ _ _ _ _ _ _ _ _ _ _ _ _ _ _ _ _ _ _ _ _ _ _ _ _ _ _ _ _ _ _ _ _ _ _ _ _ _ _ _ _ _ _ _ _ _ _ _ _ _ _ _ _ _ _ _ _ _ _ _ _ _ _ _ _ _ _ _ _ _ _ _ _ _ _ _ _ _ _ _ _ _ _ _ _ _ _ _ _ _ _ _ _ _ _ _ C' w10 hN h100 hdw hD10 hk10 hbe10
            have hres : doR C index es l r = (0, C') := by rw [HRES.out, if_neg (by omega), hdw]; rfl
            have hk : Only3 bd bp bm w w10 := only3_of_keep ⟨hk10.os.trans bw9.os, hk10.tape.trans bw9.tape, hk10.output.trans bw9.output, Nat.le_trans bw9.size hk10.size, fun k hk h1 h2 h3 => (hk10.block k (by omega) h1 h2 h3).trans (bw9.block k hk)⟩
            have b1011 : Below be w10 (w10.setCell ⟨be, 0, none⟩ (.int .i64 0)) := (Below.refl be w10).setCell (p := ⟨be, 0, none⟩) (Nat.le_refl _) _
            have hD11 : DiskAt (w10.setCell ⟨be, 0, none⟩ (.int .i64 0)) bd bp bm C' := hD10.kept (b1011.block _ (by omega)) (b1011.block _ (by omega)) (b1011.block _ (by omega))
            have ho11 : Only3 bd bp bm w (w10.setCell ⟨be, 0, none⟩ (.int .i64 0)) := only3_of_keep ⟨b1011.os.trans hk.os, b1011.tape.trans hk.tape, b1011.output.trans hk.output, Nat.le_trans hk.size b1011.size, fun k hk' h1 h2 h3 => (b1011.block k (by omega)).trans (hk.block k hk' h1 h2 h3)⟩
            refine do_ret_idle rfl (show (w10.setCell ⟨be, 0, none⟩ (.int .i64 0)).heap[be]? = some (.cells #[.int .i64 0] 29 (0, 0)) by rw [heap_setCell_same w10 be 0 _ 29 _ hbe10]; rfl) ⟨r, HR.out, ?_, ?_, ho11⟩
            · rw [hres]; rfl
            · rw [hres]; exact hD11
  · have HNE := Lib.hid hst0
    have hres : doR C index es l r = (stateB C index r, C) := by unfold doR; rw [if_pos (.inl hst0)]
    have HRES := Lib.hid hres
    have hne1 : ((stateB C index r : Int) != 0) = true := by simp; omega
    have HROWB := Lib.hid (show (w3.setCell ⟨be, 0, none⟩ (.int .i64 (stateB C index r : Int))).heap[be]? = some (.cells #[.int .i64 (stateB C index r : Int)] 29 (0, 0)) by rw [heap_setCell_same w3 be 0 _ 29 _ hbe3]; rfl)
    have HBF := Lib.hid (bw3.setCell (p := ⟨be, 0, none⟩) (Nat.le_of_eq hbe) (.int .i64 (stateB C index r : Int)))
    obtain ⟨w4, hw4⟩ : ∃ w4, w3.setCell ⟨be, 0, none⟩ (.int .i64 (stateB C index r : Int)) = w4 := ⟨_, rfl⟩
    rw [hw4] at HROWB HBF
    have cbe4 : w4.cell? ⟨be, 0, none⟩ = some (.int .i64 (stateB C index r : Int)) := by rw [cell_of_row _ _ _ _ _ _ HROWB.out]; rfl
    have fbe4 : w4.frozen? ⟨be, 0, none⟩ = false := frozen_of_row _ _ _ _ _ HROWB.out
    have HROWC := Lib.hid (show (w4.setCell ⟨be, 0, none⟩ (.int .i64 (stateB C index r : Int))).heap[be]? = some (.cells #[.int .i64 (stateB C index r : Int)] 29 (0, 0)) by rw [heap_setCell_same w4 be 0 _ 29 _ HROWB.out]; rfl)
    have HBG := Lib.hid (HBF.out.setCell (p := ⟨be, 0, none⟩) (Nat.le_of_eq hbe) (.int .i64 (stateB C index r : Int)))
    clear hst hbe3 bw3 b3 hres hst0
    generalize hsb : stateB C index r = st at *
    clear hsb
    go_wp2_with fail
    refine do_ret rfl HROWC.out ⟨r, HR.out, ?_, ?_, Only3.of_below HBG.out⟩
    · rw [HRES.out]; rfl
    · rw [HRES.out]; exact HD.out.below HBG.out (Nat.le_refl _)
end Go.Proofs.Ytcgapfmdpchemaa
