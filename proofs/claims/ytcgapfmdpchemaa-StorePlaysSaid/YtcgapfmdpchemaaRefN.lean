/- The walk of the reference's Do. -/
import Derived.Test.YtcgapfmdpchemaaRefM
namespace Go.Proofs.Ytcgapfmdpchemaa
open Go.RowKit
theorem refused_det {l : List Pt} {r r' : Nat} (h : RefusedIs l r) (k : RefusedIs l r') : r = r' := by
  rcases h with ⟨rfl, h⟩ | ⟨rfl, h1, h2, h3⟩ | ⟨rfl, h1, h2, h3⟩ <;> rcases k with ⟨rfl, k⟩ | ⟨rfl, k1, k2, k3⟩ | ⟨rfl, k1, k2, k3⟩
  · rfl
  · rcases h with h | h
    · omega
    · rw [k2] at h; cases h
  · rcases h with h | h
    · omega
    · rw [k2] at h; cases h
  · rcases k with k | k
    · omega
    · rw [h2] at k; cases k
  · rfl
  · exact absurd h3 k3
  · rcases k with k | k
    · omega
    · rw [h2] at k; cases k
  · exact absurd k3 h3
  · rfl
section
variable {B eb et m : Nat} {A : AD} {C : Cn}
/-- what Do returns, and what it leaves -/
def DoneR (B eb m : Nat) (A : AD) (l : List Pt) (w : World) (e : Ending) (w' : World) : Prop := ∃ r, RefusedIs l r ∧ e = .returned (iv (A.doA l r).1) ∧ RIs w' B eb (A.doA l r).2 m ∧ OnlyR B w w'
theorem doneR_same {l : List Pt} {r : Nat} {w w' : World} {e : Ending} {c : Nat} (hr : RefusedIs l r) (hd : A.doA l r = (c, A)) (he : e = .returned (.int .i64 c)) (h : RIs w B eb A m) (b : Below w.heap.size w w') : DoneR B eb m A l w e w' :=
  ⟨r, hr, by rw [hd, he]; rfl, by rw [hd]; exact h.below b (Nat.le_refl _), OnlyR.of_below b⟩
set_option maxRecDepth 1000000 in
set_option maxHeartbeats 8000000 in
theorem rdo_any (w : World) (hs' : RSt w et eb) (h : RIs w B eb A m) (hR : Rep C A) (hB : B ≤ w.heap.size) (hm : m ≤ 4000) (v : Value) (l : List Pt) (hp : PutsAt w v l) (hl : l.length ≤ 1000000) :
    Calls Try.prog 55 #[.pointer (some ⟨et, 0, none⟩), v] w fun e w' => DoneR B eb m A l w e w' := by
  have HS := Lib.hid hs'; have H := Lib.hid h; have HR := Lib.hid hR; have HB := Lib.hid hB
  obtain ⟨Av, cv, rfl, -, -, -⟩ := id hp
  have HP := Lib.hid hp
  clear hs' h hR hp hB
  go_enter Try.func55, Try.ntmps55
  go_wp2_with fail
  refine (rwrong_any w _ l HP.out hl).mono ?_
  rintro e w1 ⟨⟨r, rfl, hr⟩, k1, hw1⟩
  have b1 : Below w.heap.size w w1 := by rw [hw1]; exact below_drewN w k1
  have HRF := Lib.hid hr; have B1 := Lib.hid b1
  clear hw1 hr b1
  unfold iv
  go_wp2_with fail
  refine (rstate_any w1 (HS.out.below B1.out (Nat.le_refl _)) (H.out.below B1.out (Nat.le_refl _)) r).mono ?_
  rintro e w2 ⟨rfl, b2⟩
  have B2 := Lib.hid (below_more B1.out b2 (Nat.le_refl _)); clear b2 B1
  by_cases hst : A.state r = 0
  case neg =>
    have hsb : ((A.state r : Nat) : Int) ≠ 0 := by omega
    have hsi : (((A.state r : Nat) : Int) != 0) = true := by rw [bne_iff_ne]; exact hsb
    have HD := Lib.hid (show A.doA l r = (A.state r, A) by unfold AD.doA; rw [if_pos (.inl hst)])
    go_wp2
    go_ret
    exact doneR_same HRF.out HD.out rfl H.out B2.out
  rw [hst]
  by_cases hl0 : l = []
  · subst hl0
    have HD := Lib.hid (show A.doA [] r = (0, A) by unfold AD.doA; rw [if_pos (.inr rfl), hst])
    have hz : (([] : List Pt).length : Int) = 0 := rfl
    go_wp2
    go_ret
    exact doneR_same HRF.out HD.out rfl H.out B2.out
  have hlpos : 0 < l.length := List.length_pos_iff.2 hl0
  have hln0 : ¬ ((l.length : Int) = 0) := by omega
  have hln0b : ((l.length : Int) == 0) = false := by rw [beq_eq_false_iff_ne]; exact hln0
  have hr0 : r = 0 := by
    apply Classical.byContradiction
    intro hne
    unfold AD.state at hst
    split at hst
    · omega
    · simp [hne] at hst
  subst hr0
  have hun : ¬ (A.state 0 ≠ 0 ∨ l = []) := by
    rintro (h | h)
    · exact h hst
    · exact hl0 h
  have HD4 := Lib.hid (show noneB A.des l = true → A.doA l 0 = (4, A) from fun h => by unfold AD.doA; rw [if_neg hun, if_pos h])
  have HD5 := Lib.hid (show noneB A.des l = false → WA.puts ⟨A.es, A.freeL, []⟩ l = none → A.doA l 0 = (5, A) from fun h h2 => by unfold AD.doA; rw [if_neg hun, if_neg (by rw [h]; simp), h2])
  have HDS := Lib.hid (show ∀ s, noneB A.des l = false → WA.puts ⟨A.es, A.freeL, []⟩ l = some s → A.doA l 0 = A.doS s from fun s h h2 => by unfold AD.doA; rw [if_neg hun, if_neg (by rw [h]; simp), h2])
  clear hun
  have HL := Lib.hid (show l.length ≤ 100 from HRF.out.ok.1)
  have HOK := Lib.hid HRF.out.ok.2
  have hlb : l.length ≤ 9223372036854775807 := by have := HL.out; omega
  have hc2 := (HS.out.below B2.out (Nat.le_refl _)).c
  clear hst hl0 hln0 hlpos
  have H2 := Lib.hid (H.out.below B2.out (Nat.le_refl _))
  have HPW := Lib.hid (HP.out.below B2.out (Nat.le_refl _))
  have hn4 := HR.out.n4
  have HASC : Hid (Asc A.des) := Lib.hid HR.out.asc
  go_wp2
  go_loopw [7] (fun i wr => ∃ k : Nat, k ≤ l.length ∧ i = .int .i64 k ∧ Below w2.heap.size w2 wr ∧ Hid (∀ j, (h : j < l.length) → j < k → (l[j].drop && !(isB A.des l[j].name)) = false)) (fun i _ => l.length - (intOf i).toNat)
  case atStart => exact ⟨0, by omega, rfl, Below.refl _ _, Lib.hid fun j _ hj => by omega⟩
  case round =>
    obtain ⟨k, hk, rfl, hbr, HB1⟩ := hrel
    obtain ⟨dhs, ve, vi, vh, ps, hr, -⟩ := H2.out.below hbr (Nat.le_refl _)
    have c3 := hr.c.2.2.2.1
    have hed : edes ps = A.des := by unfold edes; rw [hr.eq]; rfl
    by_cases hlt : k < l.length
    · have hki : (k : Int) < (l.length : Int) := by omega
      obtain ⟨b, off, c', he, h0, -, h2⟩ := PutsAt.cells (ps := l) (Rd.below HPW.out hbr (Nat.le_refl _)) hlt
      cases he
      have HNX : Hid ((l[k].drop && !(isB A.des l[k].name)) = false → ∀ j, (h : j < l.length) → j < k + 1 → (l[j].drop && !(isB A.des l[j].name)) = false) := Lib.hid fun h1 j hj hjk => by
        rcases Nat.lt_succ_iff_lt_or_eq.1 hjk with hlt | rfl
        · exact HB1.out j hj hlt
        · exact h1
      have HBAD := Lib.hid (fun h => noneB_at (es := A.des) hlt h)
      clear HB1
      generalize l[k] = x at *
      have HRE := Lib.hid (show REnts wr ve ps from hr.es)
      have HED := Lib.hid hed
      have HBR := Lib.hid hbr
      have HAS2 := Lib.hid (show Asc (edes ps) by rw [hed]; exact HASC.out)
      clear hr hed hbr
      go_wp2
      go_quiet ((go_at_call 72; exact (rat_any _ _ _ (HRE.out.below (below_drewN wr _) (Nat.le_refl _)) HAS2.out x.name).mono fun _ _ ⟨h1, k, h2⟩ => ⟨h1, _, h2.trans (World.drewN_drewN _ _ _)⟩))
      rw [HED.out]
      cases hd : x.drop
      · have HN := Lib.hid (HNX.out (by rw [hd]; rfl))
        rw [hd] at h2
        clear HNX HBAD hd
        go_wp2
        go_roundw
        case rel => exact ⟨k + 1, by omega, by go_num, HBR.out.trans ((below_drewN wr nq).mono HBR.out.size), HN⟩
        case measure => simp [intOf]; omega
      · rw [hd] at h2
        cases his : isB A.des x.name
        · have HD := Lib.hid (HD4.out (HBAD.out (by rw [hd, his]; rfl)))
          clear HNX HBAD hd his
          go_wp2
          go_ret
          exact doneR_same HRF.out HD.out rfl H.out (below_more B2.out (HBR.out.trans ((below_drewN wr nq).mono HBR.out.size)) (Nat.le_refl _))
        · have HN := Lib.hid (HNX.out (by rw [hd, his]; rfl))
          clear HNX HBAD hd his
          go_wp2
          go_roundw
          case rel => exact ⟨k + 1, by omega, by go_num, HBR.out.trans ((below_drewN wr nq).mono HBR.out.size), HN⟩
          case measure => simp [intOf]; omega
    · obtain rfl : k = l.length := by omega
      have hnb : noneB A.des l = false := by
        unfold noneB
        rw [List.any_eq_false]
        intro x hx
        obtain ⟨j, hj, rfl⟩ := List.getElem_of_mem hx
        rw [HB1.out j hj hj]; simp
      have HE5 := Lib.hid (HD5.out hnb); have HES := Lib.hid (fun s => HDS.out s hnb)
      have HBW := Lib.hid (below_more B2.out hbr (Nat.le_refl _))
      have HWF := Lib.hid (show RIs wr B eb A m from H2.out.below hbr (Nat.le_refl _))
      clear HB1 hnb HD4 HD5 HDS hr hbr hed c3
      have HIX : Hid (∀ q ∈ A.index, q < A.n) := Lib.hid fun q hq => (HR.out.used_ix hq).2
      have HPN : Hid (∀ e ∈ A.es, ∀ q ∈ e.pages, q < A.n) := Lib.hid fun e he q hq => (HR.out.used_es he hq).2
      go_wp2_with fail
      refine (rfree_any wr HWF.out HR.out.n4 HR.out.n5 HIX.out HPN.out).mono ?_
      rintro e w3 ⟨vf, rfl, b3, ownf⟩
      have HF := Lib.hid (TRd_own ownf)
      have B3 := Lib.hid (below_more HBW.out b3 (Nat.le_refl _))
      obtain ⟨dhs, ve, vi, vh, ps, hr3, hm3⟩ := HWF.out.below b3 (Nat.le_refl _)
      have c33 := hr3.c.2.2.2.1
      have HR3 := Lib.hid hr3; have HM3 := Lib.hid hm3
      have HPS := Lib.hid (show eas ps = A.es from hr3.eq)
      clear b3 ownf hr3 hm3 HBW HIX HPN HWF H2 HPW
      obtain ⟨Ae, ce, hve, -⟩ := HR3.out.es.1
      subst hve
      have hps : ps.length ≤ 24800 := by
        have h1 := HR.out.dir.many
        have h2 : A.des.length = ps.length := by unfold AD.des; rw [← HPS.out]; simp [eas]
        omega
      obtain ⟨Af, cf, hvf, -⟩ := id HF.out
      subst hvf
      have hb0 : Below w3.heap.size w3 (w3.alloc (.cells #[] 144)) := (Below.refl _ w3).alloc (Nat.le_refl _) _
      have HB0 := Lib.hid hb0
      have hown0 : (w3.alloc (.cells #[] 144)).ownsRow w3.heap.size 144 3 (.slice (some ⟨w3.heap.size, 0, none⟩) 0 0) 0 [] := World.ownsRow_made w3 #[] 0 (Nat.le_refl _) (Nat.zero_le _) rfl
      have c34 := (HR3.out.below hb0 (Nat.le_refl _)).c.2.2.2.1
      have hrd0 := (HR3.out.es.1.below hb0 (Nat.le_refl _)).rd
      have HPG0 := Lib.hid (HR3.out.es.2.below hb0 (Nat.le_refl _))
      have hln0' : 0 + ps.length ≤ 1000000000 := by omega
      have hbs0 : w3.heap.size ≤ (w3.alloc (.cells #[] 144)).heap.size := hb0.size
      have hone0 := reCells_one HPG0.out
      go_wp2_with (at_builtin; refine app_rd el112 rfl _ _ rfl rfl hown0 rfl hrd0 (reCells_length ps) hone0 hln0' hbs0 ?_)
      intro v4 w4 own4 g4 b4
      have HPG4 := Lib.hid (HR3.out.es.2.below (HB0.out.trans b4) (Nat.le_refl _))
      have B4 := Lib.hid (HB0.out.trans b4)
      have HOWN4 := Lib.hid (show w4.ownsRow w3.heap.size 144 3 v4 ps.length (ps.flatMap reCells) by simpa using own4)
      obtain ⟨A4, c4, rfl⟩ := own_slice own4
      clear hb0 hown0 c34 hrd0 hln0' hbs0 hone0 own4 g4 b4 HPG0 c33
      go_wp2
      go_loopw [11, 12, 13] (fun o t i wr => ∃ k : Nat, ∃ ps' : List (EA × Value), ∃ s : WA, k ≤ l.length ∧ i = .int .i64 k ∧ t = .int .i64 s.places.length ∧ wr.ownsRow w3.heap.size 144 3 o ps'.length (ps'.flatMap reCells) ∧ Below w3.heap.size w3 wr ∧ Hid (PgsAt wr ps' ∧ eas ps' = s.es ∧ WA.puts ⟨A.es, A.freeL, []⟩ (l.take k) = some s)) (fun _ _ i _ => l.length - (intOf i).toNat)
      case atStart => exact ⟨0, ps, ⟨A.es, A.freeL, []⟩, by omega, rfl, rfl, HOWN4.out, B4.out, Lib.hid ⟨HPG4.out, HPS.out, rfl⟩⟩
      case round =>
        obtain ⟨k, ps', s, hk, rfl, rfl, own, hbr, HI⟩ := hrel
        obtain ⟨hpg, heas, hpt⟩ := HI.out
        have hwk := work_at HR.out HOK.out hpt
        by_cases hlt : k < l.length
        · have hki : (k : Int) < (l.length : Int) := by omega
          have hbw := below_more B3.out hbr (Nat.le_refl _)
          obtain ⟨b, off, c', he, h0, h1, h2⟩ := PutsAt.cells (ps := l) (Rd.below HP.out hbw (Nat.le_refl _)) hlt
          cases he
          obtain ⟨hsu, hsn⟩ := WA.puts_succ hlt hpt
          have hxok := HOK.out _ (List.getElem_mem hlt)
          have HSU := Lib.hid hsu; have HSN := Lib.hid hsn; have HXO := Lib.hid hxok
          have HPT := Lib.hid hpt; have HWK := Lib.hid hwk; have HPG := Lib.hid hpg; have HEA := Lib.hid heas
          have HBR := Lib.hid hbr; have HBW' := Lib.hid hbw
          have hed : edes ps' = s.des := by unfold edes; rw [heas]; rfl
          have HED := Lib.hid hed
          have HAS := Lib.hid (show Asc (edes ps') by rw [hed]; exact hwk.2.1)
          clear hsu hsn hxok hpt hwk hpg heas hbr hbw HI hed
          generalize l[k] = x at *
          obtain ⟨Ao, co, rfl⟩ := own_slice own
          have HOWN := Lib.hid own
          go_wp2_with fail
          refine (rat_any wr _ ps' ⟨TRd_own HOWN.out, HPG.out⟩ HAS.out x.name).mono ?_
          rintro e w5 ⟨rfl, k5, hw5⟩
          have b5 : Below wr.heap.size wr w5 := by rw [hw5]; exact below_drewN wr k5
          have hs5 : wr.heap.size = w5.heap.size := by rw [hw5]; rfl
          have g0 : w5.cell? ⟨b, off + k * 3, none⟩ = some (.string x.name) := (b5.cell (p := ⟨b, off + k * 3, none⟩) (block_lt_of_cell h0)).trans h0
          have g1 : w5.cell? ⟨b, off + k * 3 + 1, none⟩ = some (.string x.value) := (b5.cell (p := ⟨b, off + k * 3 + 1, none⟩) (block_lt_of_cell h1)).trans h1
          have g2 : w5.cell? ⟨b, off + k * 3 + 2, none⟩ = some (.bool x.drop) := (b5.cell (p := ⟨b, off + k * 3 + 2, none⟩) (block_lt_of_cell h2)).trans h2
          have own5 := own_below HOWN.out b5 (Nat.le_refl _)
          have hpg5 := HPG.out.below b5 (Nat.le_refl _)
          have HBR5 := Lib.hid (HBR.out.trans (b5.mono HBR.out.size))
          have hIle : atB (edes ps') x.name ≤ ps'.length := by
            have h := atB_le (edes ps') x.name
            have h2 : (edes ps').length = ps'.length := by simp [edes, eas]
            omega
          have hIS : isB (edes ps') x.name = true → atB (edes ps') x.name < ps'.length := fun h => by
            obtain ⟨h1, _⟩ := isB_lt HAS.out h
            have h2 : (edes ps').length = ps'.length := by simp [edes, eas]
            omega
          clear hw5 h0 h1 h2 own HOWN HPG b5
          rw [HED.out] at hIle hIS ⊢
          have HIS := Lib.hid hIS
          clear hIS
          have hps' : ps'.length ≤ 24900 := by
            have h1 := HWK.out.2.2.1
            have h2 : s.es.length = ps'.length := by rw [← HEA.out]; simp [eas]
            have := HL.out
            omega
          generalize hI : atB s.des x.name = I at *
          have HI := Lib.hid hI
          clear hI
          have HOWN5 := Lib.hid own5; have HPG5 := Lib.hid hpg5
          obtain ⟨q, hq⟩ : ∃ q, co = I + q := ⟨co - I, by
            obtain ⟨_, _, he, h1, _⟩ := Rd_owns own5
            cases he
            omega⟩
          have hco : ps'.length ≤ co := by
            obtain ⟨_, _, he, h1, _⟩ := Rd_owns own5
            cases he
            exact h1
          obtain ⟨r, hr⟩ : ∃ r, ps'.length = I + r := ⟨ps'.length - I, by omega⟩
          have HRD := Lib.hid (rents_cut (Rd_owns own5) rfl hr hq)
          have HQ := Lib.hid hq; have HRR := Lib.hid hr
          have b6 : Below w5.heap.size w5 (w5.alloc (.cells #[] 144)) := (Below.refl _ w5).alloc (Nat.le_refl _) _
          have B6 := Lib.hid b6
          have hown6 : (w5.alloc (.cells #[] 144)).ownsRow w5.heap.size 144 3 (.slice (some ⟨w5.heap.size, 0, none⟩) 0 0) 0 [] := World.ownsRow_made w5 #[] 0 (Nat.le_refl _) (Nat.zero_le _) rfl
          have hrd6 := HRD.out.below b6 (Nat.le_refl _)
          have hln6 : 0 + r ≤ 1000000000 := by omega
          have hbs6 : w5.heap.size ≤ (w5.alloc (.cells #[] 144)).heap.size := b6.size
          have hone6 := reCells_one (hpg5.mono (qs := ps'.drop I) fun p hp => List.mem_of_mem_drop hp)
          have hlr : ((ps'.drop I).flatMap reCells).length = r * 3 := by rw [reCells_length, List.length_drop]; omega
          clear hq hr own5 hpg5
          go_wp2_with (first | (refine sl_l Try.underlying112 size144 rfl _ _ rfl rfl I r q rfl rfl HRR.out HQ.out ?_) | (at_builtin; refine app_rd el112 rfl _ _ rfl rfl hown6 rfl hrd6 hlr hone6 hln6 hbs6 ?_))
          intro v7 w7 own7 gr7 b7
          have B7 := Lib.hid (B6.out.trans b7)
          have own7' : w7.ownsRow w5.heap.size 144 3 v7 r ((ps'.drop I).flatMap reCells) := by simpa using own7
          obtain ⟨A7, c7, rfl⟩ := own_slice own7'
          have OWN7 := Lib.hid own7'
          have OWNE := Lib.hid (own_cut (own_below HOWN5.out B7.out (Nat.le_refl _)) hIle)
          have HPG7 := Lib.hid (HPG5.out.below B7.out (Nat.le_refl _))
          have g07 : w7.cell? ⟨b, off + k * 3, none⟩ = some (.string x.name) := (B7.out.cell (p := ⟨b, off + k * 3, none⟩) (block_lt_of_cell g0)).trans g0
          have g17 : w7.cell? ⟨b, off + k * 3 + 1, none⟩ = some (.string x.value) := (B7.out.cell (p := ⟨b, off + k * 3 + 1, none⟩) (block_lt_of_cell g1)).trans g1
          have g27 : w7.cell? ⟨b, off + k * 3 + 2, none⟩ = some (.bool x.drop) := (B7.out.cell (p := ⟨b, off + k * 3 + 2, none⟩) (block_lt_of_cell g2)).trans g2
          have HBR7 := Lib.hid (HBR5.out.trans (B7.out.mono HBR5.out.size))
          have HICO := Lib.hid (show I ≤ co by have := HQ.out; omega)
          have hr25 : r ≤ 24900 := by have := HRR.out; omega
          have hc7 : r ≤ c7 := by
            obtain ⟨_, _, he, h1, _⟩ := Rd_owns own7'
            cases he
            exact h1
          have HEAI := Lib.hid (show eas (ps'.take I) = s.es.take I by rw [← HEA.out]; simp [eas])
          have HBASE := Lib.hid (show w3.heap.size ≤ w7.heap.size from HBR7.out.size)
          clear own7 own7' gr7 b7 g0 g1 g2 b6 hown6 hrd6 hln6 hbs6 hone6 hlr HRD
          cases his : isB s.des x.name
          · have HREST := Lib.hid (show eas (ps'.drop I) = restA s.es x.name by
              unfold restA
              rw [if_neg (by show ¬ isB s.des x.name = true; rw [his]; simp), show atB (s.es.map EA.de) x.name = I from HI.out, ← HEA.out]
              simp [eas])
            have HRS : Hid (∀ W, W.ownsRow w5.heap.size 144 3 (.slice A7 r c7) r ((ps'.drop I).flatMap reCells) → Rd W (.slice A7 r c7) (ps'.drop I).length ((ps'.drop I).flatMap reCells)) := Lib.hid fun W h => by
              have := Rd_owns h
              rwa [show (ps'.drop I).length = r by rw [List.length_drop]; have := HRR.out; omega]

            cases hdr : x.drop
            · rw [hdr] at g27
              have HDR := Lib.hid hdr
              have HVS := Lib.hid (show x.value.size ≤ 60000 from HXO.out.2.2)
              have HSZ := Lib.hid (show s.places.length + s.free.length = A.freeL.length by rw [← HWK.out.1, List.length_append])
              have HFM := Lib.hid (show A.freeL.length ≤ 4096 by
                unfold AD.freeL AD.usedL
                have h1 := freeL_length (usedB A.n A.index A.des)
                rw [usedB_length A.n HR.out.two] at h1
                have := HR.out.n5
                omega)
              have hsv : x.value.size < 1000000000 := by have := HVS.out; omega
              have HPB := Lib.hid (show parts x.value.size ≤ 300 by unfold parts; have := HVS.out; omega)
              have hfree := put_eq s x
              rw [if_neg (by rw [hdr]; simp)] at hfree
              have HFREE := Lib.hid hfree
              clear his hdr hfree
              go_wp2_with (first | (refine sl_h Try.underlying112 size144 rfl _ _ rfl rfl I rfl rfl HICO.out ?_))
              refine (rrooms_any x.value.size hsv _).mono ?_
              rintro e w8 ⟨rfl, rfl⟩
              obtain ⟨p, hp⟩ : ∃ p, parts x.value.size = p := ⟨_, rfl⟩
              obtain ⟨t, ht⟩ : ∃ t, s.places.length = t := ⟨_, rfl⟩
              rw [hp] at HFREE HPB ⊢
              rw [ht] at HSZ ⊢
              have HT := Lib.hid ht
              clear hp ht
              have hpb := HPB.out
              have hsz := HSZ.out
              have hfm := HFM.out
              have hw1 : IntKind.i64.wrap ((t : Int) + (p : Int)) = (t : Int) + (p : Int) := by rw [IntKind.wrap_i64]; omega
              by_cases hfull : s.free.length < p
              · have hgt : (A.freeL.length : Int) < (t : Int) + (p : Int) := by omega
                have HD := Lib.hid (HE5.out (HSN.out (HFREE.out.trans (if_pos hfull))))
                clear hsz hfm hpb
                go_wp2
                go_ret
                exact doneR_same HRF.out HD.out rfl H.out (B3.out.trans (HBR7.out.mono B3.out.size))
              have hgt : ¬ (A.freeL.length : Int) < (t : Int) + (p : Int) := by omega
              have HFREE2 := Lib.hid (HFREE.out.trans (if_neg hfull))
              have hcf : A.freeL.length ≤ cf := by
                obtain ⟨_, _, he, h1, _⟩ := HF.out
                cases he
                exact h1
              have hw2 : (0 : Int) ≤ (t : Int) + (p : Int) := by omega
              have hw3 : ((t : Int) + (p : Int)).toNat = t + p := by omega
              have hw4 : (t : Int) + (p : Int) ≤ (cf : Int) := by omega
              have hw5 : (t : Int) ≤ (t : Int) + (p : Int) := by omega
              have HTP := Lib.hid (show t + p ≤ A.freeL.length by omega)
              clear hsz hfm hpb hfull
              go_wp2
              obtain ⟨pv, hpv⟩ : ∃ pv, Value.slice (if cf = t then Af else Option.map (fun x => x.add t) Af) p (cf - t) = pv := ⟨_, rfl⟩
              have hpg := HF.out.pages t p HTP.out hcf
              rw [hpv] at hpg
              have hfd : (A.freeL.drop t).take p = s.free.take p := by
                rw [← HWK.out.1, ← HT.out, List.drop_left]
              rw [hfd] at hpg
              have HPV := Lib.hid hpg; have HPVE := Lib.hid hpv
              have hpone : pv.oneCell' = true := by rw [← hpv]; rfl
              clear hpg hpv hfd hcf
              obtain ⟨o8, ho8⟩ : ∃ o8, Obj.cells #[.string x.name, .string x.value, pv] 144 = o8 := ⟨_, rfl⟩
              have hb8 : Below w7.heap.size w7 (w7.alloc o8).drew := ((Below.refl _ w7).alloc (Nat.le_refl _) _).drew
              have hrd8 : Rd (w7.alloc o8).drew (.slice (some ⟨w7.heap.size, 0, none⟩) 1 1) 1 [.string x.name, .string x.value, pv] := by
                rw [← ho8]
                exact Rd_new w7 [.string x.name, .string x.value, pv] 144 _ 1 rfl
              have HB8 := Lib.hid hb8; have HO8 := Lib.hid ho8; have HRD8 := Lib.hid hrd8
              have OWNE8 := Lib.hid (own_below OWNE.out hb8 (Nat.le_refl _))
              have OWN78 := Lib.hid (own_below OWN7.out hb8 (Nat.le_refl _))
              have HLT8 : Hid (∀ g, (Value.slice (cut Ao 0 co 3) I co).ownBlock = some g → g < w5.heap.size) := Lib.hid fun g hg => ((own_cut HOWN5.out hIle).lt g hg).2
              have HPGN := Lib.hid (((HPG7.out.mono (qs := ps'.take I) fun p hp => List.mem_of_mem_take hp).append (show PgsAt w7 (((⟨x.name, x.value, s.free.take p⟩ : EA), pv) :: ps'.drop I) from fun y hy => by
                rcases List.mem_cons.1 hy with rfl | hy
                · exact HPV.out.below HBR7.out (Nat.le_refl _)
                · exact HPG7.out y (List.mem_of_mem_drop hy))).below hb8 (Nat.le_refl _))
              have HONE8 : Hid (∀ u ∈ [Value.string x.name, .string x.value, pv], u.oneCell' = true) := Lib.hid (by
                intro u hu
                simp only [List.mem_cons, List.not_mem_nil, or_false] at hu
                rcases hu with rfl | rfl | rfl
                · rfl
                · rfl
                · exact hpone)
              have HBS8 := Lib.hid (show w3.heap.size ≤ (w7.alloc o8).drew.heap.size from Nat.le_trans HBASE.out hb8.size)
              have HLN8 := Lib.hid (show I + 1 ≤ 1000000000 by omega)
              clear ho8 hrd8 hpone
              refine wp_region_held (S := fun W => W.cell? ⟨b, off + k * 3, none⟩ = some (.string x.name) ∧ W.cell? ⟨b, off + k * 3 + 1, none⟩ = some (.string x.value)) (by kernel_rfl) ?_
              have hS0 : w7.drew.cell? ⟨b, off + k * 3, none⟩ = some (.string x.name) ∧ w7.drew.cell? ⟨b, off + k * 3 + 1, none⟩ = some (.string x.value) := ⟨g07, g17⟩
              change wpAnyH _ _ _ _ _ _ _ _ w7.drew
              refine wpAnyH_take (i := 0) (v := ?_) rfl (by kernel_rfl) (by kernel_rfl) (by kernel_rfl) (fun _ _ _ h => h) (.inl ⟨by rfl, fun W hS => ?_⟩) hS0 ?_
              rotate_left
              · obtain ⟨s0, s1⟩ := hS; unfold execOp; go_simp; try with_reducible rfl
              refine wpAnyH_take (i := 1) (v := ?_) rfl (by kernel_rfl) (by kernel_rfl) (by kernel_rfl) (fun _ _ _ h => h) (.inl ⟨by rfl, fun W hS => ?_⟩) hS0 ?_
              rotate_left
              · obtain ⟨s0, s1⟩ := hS; unfold execOp; go_simp; try with_reducible rfl
              refine wpAnyH_take (i := 2) (v := ?_) rfl (by kernel_rfl) (by kernel_rfl) (by kernel_rfl) (fun _ _ _ h => h) (.inl ⟨by rfl, fun W hS => ?_⟩) hS0 ?_
              rotate_left
              · obtain ⟨s0, s1⟩ := hS; unfold execOp; go_simp; try with_reducible rfl
              refine wpAnyH_take (i := 3) (v := ?_) rfl (by kernel_rfl) (by kernel_rfl) (by kernel_rfl) (fun _ _ _ h => h) (.inl ⟨by rfl, fun W hS => ?_⟩) hS0 ?_
              rotate_left
              · obtain ⟨s0, s1⟩ := hS; unfold execOp; go_simp; try with_reducible rfl
              refine wpAnyH_take (i := 4) (v := ?_) rfl (by kernel_rfl) (by kernel_rfl) (by kernel_rfl) (fun _ _ _ h => h) (.inl ⟨by rfl, fun W hS => ?_⟩) hS0 ?_
              rotate_left
              · obtain ⟨s0, s1⟩ := hS; unfold execOp; go_simp; try with_reducible rfl
              refine wpAnyH_take (i := 5) (v := ?_) rfl (by kernel_rfl) (by kernel_rfl) (by kernel_rfl) (fun _ _ _ h => h) (.inl ⟨by rfl, fun W hS => ?_⟩) hS0 ?_
              rotate_left
              · obtain ⟨s0, s1⟩ := hS; unfold execOp; go_simp; try with_reducible rfl
              refine wpAnyH_take (i := 6) (v := ?_) rfl (by kernel_rfl) (by kernel_rfl) (by kernel_rfl) (fun _ _ _ h => h) (.inl ⟨by rfl, fun W hS => ?_⟩) hS0 ?_
              rotate_left
              · obtain ⟨s0, s1⟩ := hS; unfold execOp; go_simp; try with_reducible rfl
              refine wpAnyH_take (i := 7) (v := ?_) rfl (by kernel_rfl) (by kernel_rfl) (by kernel_rfl) (fun _ _ _ h => h) (.inl ⟨by rfl, fun W hS => ?_⟩) hS0 ?_
              rotate_left
              · obtain ⟨s0, s1⟩ := hS; unfold execOp; go_simp; try with_reducible rfl
              refine wpAnyH_take (i := 8) (v := ?_) rfl (by kernel_rfl) (by kernel_rfl) (by kernel_rfl) (fun _ _ _ h => h) (.inl ⟨by rfl, fun W hS => ?_⟩) hS0 ?_
              rotate_left
              · obtain ⟨s0, s1⟩ := hS; unfold execOp; go_simp; try with_reducible rfl
              refine wpAnyH_take (i := 9) (v := ?_) rfl (by kernel_rfl) (by kernel_rfl) (by kernel_rfl) (fun _ _ _ h => h) (.inl ⟨by rfl, fun W hS => ?_⟩) hS0 ?_
              rotate_left
              · obtain ⟨s0, s1⟩ := hS; unfold execOp; go_simp; try with_reducible rfl
              refine wpAnyH_take (i := 10) (v := ?_) rfl (by kernel_rfl) (by kernel_rfl) (by kernel_rfl) (fun _ _ _ h => h) (.inl ⟨by rfl, fun W hS => ?_⟩) hS0 ?_
              rotate_left
              · obtain ⟨s0, s1⟩ := hS; unfold execOp; go_simp; try with_reducible rfl
              refine wpAnyH_take (i := 11) (v := ?_) rfl (by kernel_rfl) (by kernel_rfl) (by kernel_rfl) (fun _ _ _ h => h) (.inl ⟨by rfl, fun W hS => ?_⟩) hS0 ?_
              rotate_left
              · obtain ⟨s0, s1⟩ := hS; unfold execOp; go_simp; try with_reducible rfl
              refine wpAnyH_take (i := 12) (v := ?_) rfl (by kernel_rfl) (by kernel_rfl) (by kernel_rfl) (fun _ _ _ h => h) (.inl ⟨by rfl, fun W hS => ?_⟩) hS0 ?_
              rotate_left
              · obtain ⟨s0, s1⟩ := hS; unfold execOp; go_simp; try with_reducible rfl
              refine wpAnyH_take (i := 13) (v := ?_) rfl (by kernel_rfl) (by kernel_rfl) (by kernel_rfl) (fun _ _ _ h => h) (.inl ⟨by rfl, fun W hS => ?_⟩) hS0 ?_
              rotate_left
              · obtain ⟨s0, s1⟩ := hS; unfold execOp; go_simp; try with_reducible rfl
              refine wpAnyH_take (i := 14) (v := ?_) rfl (by kernel_rfl) (by kernel_rfl) (by kernel_rfl) (fun _ _ _ h => h) (.inl ⟨by rfl, fun W hS => ?_⟩) hS0 ?_
              rotate_left
              · obtain ⟨s0, s1⟩ := hS; unfold execOp; go_simp; try with_reducible rfl
              refine wpAnyH_take (i := 15) (v := ?_) rfl (by kernel_rfl) (by kernel_rfl) (by kernel_rfl) (fun _ _ _ h => h) (.inl ⟨by rfl, fun W hS => ?_⟩) hS0 ?_
              rotate_left
              · obtain ⟨s0, s1⟩ := hS; unfold execOp; go_simp; try with_reducible rfl
              refine wpAnyH_take (i := 16) (v := ?_) rfl (by kernel_rfl) (by kernel_rfl) (by kernel_rfl) (fun _ _ _ h => h) (.inl ⟨by rfl, fun W hS => ?_⟩) hS0 ?_
              rotate_left
              · obtain ⟨s0, s1⟩ := hS; unfold execOp; go_simp; try with_reducible rfl
              refine wpAnyH_take (i := 17) (v := ?_) rfl (by kernel_rfl) (by kernel_rfl) (by kernel_rfl) (fun _ _ _ h => h) (.inl ⟨by rfl, fun W hS => ?_⟩) hS0 ?_
              rotate_left
              · obtain ⟨s0, s1⟩ := hS; unfold execOp; go_simp; try with_reducible rfl
              refine wpAnyH_all (rs := [18]) (by kernel_rfl) (by simp) ?_
              intro i hi
              obtain rfl : i = 18 := by simpa using hi
              refine op_at rfl rfl ?_
              go_simp
              rw [HPVE.out, HO8.out]
              have hS8 : (w7.alloc o8).drew.cell? ⟨b, off + k * 3, none⟩ = some (.string x.name) ∧ (w7.alloc o8).drew.cell? ⟨b, off + k * 3 + 1, none⟩ = some (.string x.value) := ⟨(HB8.out.cell (p := ⟨b, off + k * 3, none⟩) (block_lt_of_cell g07)).trans g07, (HB8.out.cell (p := ⟨b, off + k * 3 + 1, none⟩) (block_lt_of_cell g17)).trans g17⟩
              refine ⟨hS8, ?_⟩
              refine wpAnyH_all (rs := [19]) (by kernel_rfl) (by simp) ?_
              intro i hi
              obtain rfl : i = 19 := by simpa using hi
              refine op_at rfl rfl ?_
              change Oper.wp _ _ _ (w7.alloc o8).drew _ _
              refine op_app_rd el112 _ _ rfl (by rfl) OWNE8.out (by rfl) HRD8.out rfl (by simp) HONE8.out HLN8.out HBS8.out ?_
              intro v9 w9 own9 gr9 b9
              have hlow : b < w3.heap.size := by
                obtain ⟨b', off', c', he, h0, -, -⟩ := PutsAt.cells (ps := l) HP.out hlt
                cases he
                exact Nat.lt_of_lt_of_le (block_lt_of_cell h0) B3.out.size
              have hS9 : w9.cell? ⟨b, off + k * 3, none⟩ = some (.string x.name) ∧ w9.cell? ⟨b, off + k * 3 + 1, none⟩ = some (.string x.value) := ⟨(b9.cell (p := ⟨b, off + k * 3, none⟩) hlow).trans hS8.1, (b9.cell (p := ⟨b, off + k * 3 + 1, none⟩) hlow).trans hS8.2⟩
              refine ⟨hS9, ?_⟩
              have HOWN9 := Lib.hid own9
              have HREST9 := Lib.hid (own_stays OWN78.out (Nat.le_refl _) HLT8.out gr9)
              have HPG9 := Lib.hid (HPGN.out.grown OWNE8.out gr9)
              have HBR9 := Lib.hid (HBR7.out.trans ((HB8.out.mono HBASE.out).trans b9))
              clear gr9 b9 own9
              refine wpAnyH_take (i := 20) (v := ?_) rfl (by kernel_rfl) (by kernel_rfl) (by kernel_rfl) (fun _ _ _ h => h) (.inl ⟨by rfl, fun W hS => ?_⟩) hS9 ?_
              rotate_left
              · unfold execOp; go_simp; try with_reducible rfl
              refine wpAnyH_done (by kernel_rfl) ?_ _
              have HPUT := Lib.hid (show WA.puts ⟨A.es, A.freeL, []⟩ (l.take (k + 1)) = some ⟨eas (ps'.take I ++ ((⟨x.name, x.value, s.free.take p⟩ : EA), pv) :: ps'.drop I), s.free.drop p, s.places ++ s.free.take p⟩ by
                rw [HSU.out, HFREE2.out, HI.out, ← HREST.out, ← HEAI.out]
                simp [eas])
              have hrd := HRS.out w9 HREST9.out
              have hown := HOWN9.out
              have hone := reCells_one (HPG9.out.mono (qs := ps'.drop I) fun y hy => List.mem_append_right _ (List.mem_cons_of_mem _ hy))
              have hln : I + 1 + (ps'.drop I).length ≤ 1000000000 := by rw [List.length_drop]; omega
              have hbs : w3.heap.size ≤ w9.heap.size := HBR9.out.size
              have hlr := reCells_length (ps'.drop I)
              have hpl : (s.places ++ s.free.take p).length = t + p := by
                rw [List.length_append, List.length_take, HT.out]
                have h1 := HSZ.out
                have h2 := HTP.out
                omega
              have HPL := Lib.hid hpl
              obtain ⟨A9, n9, c9, rfl⟩ : ∃ A9 n9 c9, v9 = .slice A9 n9 c9 := by
                obtain ⟨A9, c9, h⟩ := own_slice hown
                exact ⟨_, _, _, h⟩
              clear hS8 hS9 hS0 hlow hpl
              go_wp2_with (at_builtin; refine app_rd el112 rfl _ _ rfl rfl hown rfl hrd hlr hone hln hbs ?_)
              intro v10 w10 own10 gr10 b10
              have HP10 := Lib.hid (HPG9.out.grown hown gr10)
              have HO10 := Lib.hid own10; have B10 := Lib.hid (HBR9.out.trans b10)
              clear own10 gr10 b10 hrd hown hone hln hbs hlr
              go_wp2
              go_roundw
              case rel => exact ⟨k + 1, ps'.take I ++ ((⟨x.name, x.value, s.free.take p⟩ : EA), pv) :: ps'.drop I, ⟨eas (ps'.take I ++ ((⟨x.name, x.value, s.free.take p⟩ : EA), pv) :: ps'.drop I), s.free.drop p, s.places ++ s.free.take p⟩, by omega, by go_num, by rw [HPL.out]; go_num, by
                have h := HO10.out
                have he : (ps'.take I ++ ((⟨x.name, x.value, s.free.take p⟩ : EA), pv) :: ps'.drop I).flatMap reCells = (ps'.take I).flatMap reCells ++ Value.string x.name :: .string x.value :: pv :: (ps'.drop I).flatMap reCells := by
                  rw [List.flatMap_append, List.flatMap_cons]
                  rfl
                rw [← he] at h
                exact own_fit h, B10.out, Lib.hid ⟨HP10.out, rfl, HPUT.out⟩⟩
              case measure => simp [intOf]; omega
            · rw [hdr] at g27
              have HPUT := Lib.hid (show WA.puts ⟨A.es, A.freeL, []⟩ (l.take (k + 1)) = some { s with es := eas (ps'.take I ++ ps'.drop I) } by
                rw [HSU.out, put_eq, if_pos hdr, HI.out, ← HREST.out, ← HEAI.out]
                simp [eas])
              have hrd := HRS.out w7 OWN7.out
              have hown := OWNE.out
              have HPN := Lib.hid ((HPG7.out.mono (qs := ps'.take I) fun p hp => List.mem_of_mem_take hp).append (HPG7.out.mono (qs := ps'.drop I) fun p hp => List.mem_of_mem_drop hp))
              have hone := reCells_one (HPG7.out.mono (qs := ps'.drop I) fun p hp => List.mem_of_mem_drop hp)
              have hln : I + (ps'.drop I).length ≤ 1000000000 := by rw [List.length_drop]; omega
              have hbs := HBASE.out
              have hlr := reCells_length (ps'.drop I)
              clear his hdr
              go_wp2_with (first | (refine sl_h Try.underlying112 size144 rfl _ _ rfl rfl I rfl rfl HICO.out ?_) | (at_builtin; refine app_rd el112 rfl _ _ rfl rfl hown rfl hrd hlr hone hln hbs ?_))
              intro v8 w8 own8 gr8 b8
              have HP8 := Lib.hid (HPN.out.grown OWNE.out gr8)
              have HO8 := Lib.hid own8; have B8 := Lib.hid (HBR7.out.trans b8)
              clear own8 gr8 b8 hrd hown hone hln hbs hlr
              go_wp2
              go_roundw
              case rel => exact ⟨k + 1, ps'.take I ++ ps'.drop I, { s with es := eas (ps'.take I ++ ps'.drop I) }, by omega, by go_num, rfl, by
                have h := HO8.out
                rw [← List.flatMap_append] at h
                exact own_fit h, B8.out, Lib.hid ⟨HP8.out, rfl, HPUT.out⟩⟩
              case measure => simp [intOf]; omega
          · have hIlt := HIS.out his
            obtain ⟨r1, hr1⟩ : ∃ r1, r = 1 + r1 := ⟨r - 1, by have := HRR.out; omega⟩
            obtain ⟨q1, hq1⟩ : ∃ q1, c7 = 1 + q1 := ⟨c7 - 1, by omega⟩
            have HR1 := Lib.hid hr1; have HQ1 := Lib.hid hq1
            have HREST := Lib.hid (show eas (ps'.drop (I + 1)) = restA s.es x.name by
              unfold restA
              rw [if_pos (by show isB s.des x.name = true; exact his), show atB (s.es.map EA.de) x.name = I from HI.out, ← HEA.out]
              simp [eas])
            have HRS : Hid (∀ W, W.ownsRow w5.heap.size 144 3 (.slice A7 r c7) r ((ps'.drop I).flatMap reCells) → Rd W (.slice (cut A7 1 c7 3) r1 q1) (ps'.drop (I + 1)).length ((ps'.drop (I + 1)).flatMap reCells)) := Lib.hid fun W h => by
              have := rents_cut (Rd_owns h) (by rw [List.length_drop]; have := HRR.out; omega) HR1.out HQ1.out
              rw [List.drop_drop] at this
              rwa [show (ps'.drop (I + 1)).length = r1 by rw [List.length_drop]; have := HRR.out; have := HR1.out; omega]
            clear hr1 hq1

            cases hdr : x.drop
            · rw [hdr] at g27
              have HDR := Lib.hid hdr
              have HVS := Lib.hid (show x.value.size ≤ 60000 from HXO.out.2.2)
              have HSZ := Lib.hid (show s.places.length + s.free.length = A.freeL.length by rw [← HWK.out.1, List.length_append])
              have HFM := Lib.hid (show A.freeL.length ≤ 4096 by
                unfold AD.freeL AD.usedL
                have h1 := freeL_length (usedB A.n A.index A.des)
                rw [usedB_length A.n HR.out.two] at h1
                have := HR.out.n5
                omega)
              have hsv : x.value.size < 1000000000 := by have := HVS.out; omega
              have HPB := Lib.hid (show parts x.value.size ≤ 300 by unfold parts; have := HVS.out; omega)
              have hfree := put_eq s x
              rw [if_neg (by rw [hdr]; simp)] at hfree
              have HFREE := Lib.hid hfree
              clear his hdr hfree
              go_wp2_with (first | (refine sl_l Try.underlying112 size144 rfl _ _ rfl rfl 1 r1 q1 rfl rfl HR1.out HQ1.out ?_) | (refine sl_h Try.underlying112 size144 rfl _ _ rfl rfl I rfl rfl HICO.out ?_))
              refine (rrooms_any x.value.size hsv _).mono ?_
              rintro e w8 ⟨rfl, rfl⟩
              obtain ⟨p, hp⟩ : ∃ p, parts x.value.size = p := ⟨_, rfl⟩
              obtain ⟨t, ht⟩ : ∃ t, s.places.length = t := ⟨_, rfl⟩
              rw [hp] at HFREE HPB ⊢
              rw [ht] at HSZ ⊢
              have HT := Lib.hid ht
              clear hp ht
              have hpb := HPB.out
              have hsz := HSZ.out
              have hfm := HFM.out
              have hw1 : IntKind.i64.wrap ((t : Int) + (p : Int)) = (t : Int) + (p : Int) := by rw [IntKind.wrap_i64]; omega
              by_cases hfull : s.free.length < p
              · have hgt : (A.freeL.length : Int) < (t : Int) + (p : Int) := by omega
                have HD := Lib.hid (HE5.out (HSN.out (HFREE.out.trans (if_pos hfull))))
                clear hsz hfm hpb
                go_wp2
                go_ret
                exact doneR_same HRF.out HD.out rfl H.out (B3.out.trans (HBR7.out.mono B3.out.size))
              have hgt : ¬ (A.freeL.length : Int) < (t : Int) + (p : Int) := by omega
              have HFREE2 := Lib.hid (HFREE.out.trans (if_neg hfull))
              have hcf : A.freeL.length ≤ cf := by
                obtain ⟨_, _, he, h1, _⟩ := HF.out
                cases he
                exact h1
              have hw2 : (0 : Int) ≤ (t : Int) + (p : Int) := by omega
              have hw3 : ((t : Int) + (p : Int)).toNat = t + p := by omega
              have hw4 : (t : Int) + (p : Int) ≤ (cf : Int) := by omega
              have hw5 : (t : Int) ≤ (t : Int) + (p : Int) := by omega
              have HTP := Lib.hid (show t + p ≤ A.freeL.length by omega)
              clear hsz hfm hpb hfull
              go_wp2
              obtain ⟨pv, hpv⟩ : ∃ pv, Value.slice (if cf = t then Af else Option.map (fun x => x.add t) Af) p (cf - t) = pv := ⟨_, rfl⟩
              have hpg := HF.out.pages t p HTP.out hcf
              rw [hpv] at hpg
              have hfd : (A.freeL.drop t).take p = s.free.take p := by
                rw [← HWK.out.1, ← HT.out, List.drop_left]
              rw [hfd] at hpg
              have HPV := Lib.hid hpg; have HPVE := Lib.hid hpv
              have hpone : pv.oneCell' = true := by rw [← hpv]; rfl
              clear hpg hpv hfd hcf
              obtain ⟨o8, ho8⟩ : ∃ o8, Obj.cells #[.string x.name, .string x.value, pv] 144 = o8 := ⟨_, rfl⟩
              have hb8 : Below w7.heap.size w7 (w7.alloc o8).drew := ((Below.refl _ w7).alloc (Nat.le_refl _) _).drew
              have hrd8 : Rd (w7.alloc o8).drew (.slice (some ⟨w7.heap.size, 0, none⟩) 1 1) 1 [.string x.name, .string x.value, pv] := by
                rw [← ho8]
                exact Rd_new w7 [.string x.name, .string x.value, pv] 144 _ 1 rfl
              have HB8 := Lib.hid hb8; have HO8 := Lib.hid ho8; have HRD8 := Lib.hid hrd8
              have OWNE8 := Lib.hid (own_below OWNE.out hb8 (Nat.le_refl _))
              have OWN78 := Lib.hid (own_below OWN7.out hb8 (Nat.le_refl _))
              have HLT8 : Hid (∀ g, (Value.slice (cut Ao 0 co 3) I co).ownBlock = some g → g < w5.heap.size) := Lib.hid fun g hg => ((own_cut HOWN5.out hIle).lt g hg).2
              have HPGN := Lib.hid (((HPG7.out.mono (qs := ps'.take I) fun p hp => List.mem_of_mem_take hp).append (show PgsAt w7 (((⟨x.name, x.value, s.free.take p⟩ : EA), pv) :: ps'.drop (I + 1)) from fun y hy => by
                rcases List.mem_cons.1 hy with rfl | hy
                · exact HPV.out.below HBR7.out (Nat.le_refl _)
                · exact HPG7.out y (List.mem_of_mem_drop hy))).below hb8 (Nat.le_refl _))
              have HONE8 : Hid (∀ u ∈ [Value.string x.name, .string x.value, pv], u.oneCell' = true) := Lib.hid (by
                intro u hu
                simp only [List.mem_cons, List.not_mem_nil, or_false] at hu
                rcases hu with rfl | rfl | rfl
                · rfl
                · rfl
                · exact hpone)
              have HBS8 := Lib.hid (show w3.heap.size ≤ (w7.alloc o8).drew.heap.size from Nat.le_trans HBASE.out hb8.size)
              have HLN8 := Lib.hid (show I + 1 ≤ 1000000000 by omega)
              clear ho8 hrd8 hpone
              refine wp_region_held (S := fun W => W.cell? ⟨b, off + k * 3, none⟩ = some (.string x.name) ∧ W.cell? ⟨b, off + k * 3 + 1, none⟩ = some (.string x.value)) (by kernel_rfl) ?_
              have hS0 : w7.drew.cell? ⟨b, off + k * 3, none⟩ = some (.string x.name) ∧ w7.drew.cell? ⟨b, off + k * 3 + 1, none⟩ = some (.string x.value) := ⟨g07, g17⟩
              change wpAnyH _ _ _ _ _ _ _ _ w7.drew
              refine wpAnyH_take (i := 0) (v := ?_) rfl (by kernel_rfl) (by kernel_rfl) (by kernel_rfl) (fun _ _ _ h => h) (.inl ⟨by rfl, fun W hS => ?_⟩) hS0 ?_
              rotate_left
              · obtain ⟨s0, s1⟩ := hS; unfold execOp; go_simp; try with_reducible rfl
              refine wpAnyH_take (i := 1) (v := ?_) rfl (by kernel_rfl) (by kernel_rfl) (by kernel_rfl) (fun _ _ _ h => h) (.inl ⟨by rfl, fun W hS => ?_⟩) hS0 ?_
              rotate_left
              · obtain ⟨s0, s1⟩ := hS; unfold execOp; go_simp; try with_reducible rfl
              refine wpAnyH_take (i := 2) (v := ?_) rfl (by kernel_rfl) (by kernel_rfl) (by kernel_rfl) (fun _ _ _ h => h) (.inl ⟨by rfl, fun W hS => ?_⟩) hS0 ?_
              rotate_left
              · obtain ⟨s0, s1⟩ := hS; unfold execOp; go_simp; try with_reducible rfl
              refine wpAnyH_take (i := 3) (v := ?_) rfl (by kernel_rfl) (by kernel_rfl) (by kernel_rfl) (fun _ _ _ h => h) (.inl ⟨by rfl, fun W hS => ?_⟩) hS0 ?_
              rotate_left
              · obtain ⟨s0, s1⟩ := hS; unfold execOp; go_simp; try with_reducible rfl
              refine wpAnyH_take (i := 4) (v := ?_) rfl (by kernel_rfl) (by kernel_rfl) (by kernel_rfl) (fun _ _ _ h => h) (.inl ⟨by rfl, fun W hS => ?_⟩) hS0 ?_
              rotate_left
              · obtain ⟨s0, s1⟩ := hS; unfold execOp; go_simp; try with_reducible rfl
              refine wpAnyH_take (i := 5) (v := ?_) rfl (by kernel_rfl) (by kernel_rfl) (by kernel_rfl) (fun _ _ _ h => h) (.inl ⟨by rfl, fun W hS => ?_⟩) hS0 ?_
              rotate_left
              · obtain ⟨s0, s1⟩ := hS; unfold execOp; go_simp; try with_reducible rfl
              refine wpAnyH_take (i := 6) (v := ?_) rfl (by kernel_rfl) (by kernel_rfl) (by kernel_rfl) (fun _ _ _ h => h) (.inl ⟨by rfl, fun W hS => ?_⟩) hS0 ?_
              rotate_left
              · obtain ⟨s0, s1⟩ := hS; unfold execOp; go_simp; try with_reducible rfl
              refine wpAnyH_take (i := 7) (v := ?_) rfl (by kernel_rfl) (by kernel_rfl) (by kernel_rfl) (fun _ _ _ h => h) (.inl ⟨by rfl, fun W hS => ?_⟩) hS0 ?_
              rotate_left
              · obtain ⟨s0, s1⟩ := hS; unfold execOp; go_simp; try with_reducible rfl
              refine wpAnyH_take (i := 8) (v := ?_) rfl (by kernel_rfl) (by kernel_rfl) (by kernel_rfl) (fun _ _ _ h => h) (.inl ⟨by rfl, fun W hS => ?_⟩) hS0 ?_
              rotate_left
              · obtain ⟨s0, s1⟩ := hS; unfold execOp; go_simp; try with_reducible rfl
              refine wpAnyH_take (i := 9) (v := ?_) rfl (by kernel_rfl) (by kernel_rfl) (by kernel_rfl) (fun _ _ _ h => h) (.inl ⟨by rfl, fun W hS => ?_⟩) hS0 ?_
              rotate_left
              · obtain ⟨s0, s1⟩ := hS; unfold execOp; go_simp; try with_reducible rfl
              refine wpAnyH_take (i := 10) (v := ?_) rfl (by kernel_rfl) (by kernel_rfl) (by kernel_rfl) (fun _ _ _ h => h) (.inl ⟨by rfl, fun W hS => ?_⟩) hS0 ?_
              rotate_left
              · obtain ⟨s0, s1⟩ := hS; unfold execOp; go_simp; try with_reducible rfl
              refine wpAnyH_take (i := 11) (v := ?_) rfl (by kernel_rfl) (by kernel_rfl) (by kernel_rfl) (fun _ _ _ h => h) (.inl ⟨by rfl, fun W hS => ?_⟩) hS0 ?_
              rotate_left
              · obtain ⟨s0, s1⟩ := hS; unfold execOp; go_simp; try with_reducible rfl
              refine wpAnyH_take (i := 12) (v := ?_) rfl (by kernel_rfl) (by kernel_rfl) (by kernel_rfl) (fun _ _ _ h => h) (.inl ⟨by rfl, fun W hS => ?_⟩) hS0 ?_
              rotate_left
              · obtain ⟨s0, s1⟩ := hS; unfold execOp; go_simp; try with_reducible rfl
              refine wpAnyH_take (i := 13) (v := ?_) rfl (by kernel_rfl) (by kernel_rfl) (by kernel_rfl) (fun _ _ _ h => h) (.inl ⟨by rfl, fun W hS => ?_⟩) hS0 ?_
              rotate_left
              · obtain ⟨s0, s1⟩ := hS; unfold execOp; go_simp; try with_reducible rfl
              refine wpAnyH_take (i := 14) (v := ?_) rfl (by kernel_rfl) (by kernel_rfl) (by kernel_rfl) (fun _ _ _ h => h) (.inl ⟨by rfl, fun W hS => ?_⟩) hS0 ?_
              rotate_left
              · obtain ⟨s0, s1⟩ := hS; unfold execOp; go_simp; try with_reducible rfl
              refine wpAnyH_take (i := 15) (v := ?_) rfl (by kernel_rfl) (by kernel_rfl) (by kernel_rfl) (fun _ _ _ h => h) (.inl ⟨by rfl, fun W hS => ?_⟩) hS0 ?_
              rotate_left
              · obtain ⟨s0, s1⟩ := hS; unfold execOp; go_simp; try with_reducible rfl
              refine wpAnyH_take (i := 16) (v := ?_) rfl (by kernel_rfl) (by kernel_rfl) (by kernel_rfl) (fun _ _ _ h => h) (.inl ⟨by rfl, fun W hS => ?_⟩) hS0 ?_
              rotate_left
              · obtain ⟨s0, s1⟩ := hS; unfold execOp; go_simp; try with_reducible rfl
              refine wpAnyH_take (i := 17) (v := ?_) rfl (by kernel_rfl) (by kernel_rfl) (by kernel_rfl) (fun _ _ _ h => h) (.inl ⟨by rfl, fun W hS => ?_⟩) hS0 ?_
              rotate_left
              · obtain ⟨s0, s1⟩ := hS; unfold execOp; go_simp; try with_reducible rfl
              refine wpAnyH_all (rs := [18]) (by kernel_rfl) (by simp) ?_
              intro i hi
              obtain rfl : i = 18 := by simpa using hi
              refine op_at rfl rfl ?_
              go_simp
              rw [HPVE.out, HO8.out]
              have hS8 : (w7.alloc o8).drew.cell? ⟨b, off + k * 3, none⟩ = some (.string x.name) ∧ (w7.alloc o8).drew.cell? ⟨b, off + k * 3 + 1, none⟩ = some (.string x.value) := ⟨(HB8.out.cell (p := ⟨b, off + k * 3, none⟩) (block_lt_of_cell g07)).trans g07, (HB8.out.cell (p := ⟨b, off + k * 3 + 1, none⟩) (block_lt_of_cell g17)).trans g17⟩
              refine ⟨hS8, ?_⟩
              refine wpAnyH_all (rs := [19]) (by kernel_rfl) (by simp) ?_
              intro i hi
              obtain rfl : i = 19 := by simpa using hi
              refine op_at rfl rfl ?_
              change Oper.wp _ _ _ (w7.alloc o8).drew _ _
              refine op_app_rd el112 _ _ rfl (by rfl) OWNE8.out (by rfl) HRD8.out rfl (by simp) HONE8.out HLN8.out HBS8.out ?_
              intro v9 w9 own9 gr9 b9
              have hlow : b < w3.heap.size := by
                obtain ⟨b', off', c', he, h0, -, -⟩ := PutsAt.cells (ps := l) HP.out hlt
                cases he
                exact Nat.lt_of_lt_of_le (block_lt_of_cell h0) B3.out.size
              have hS9 : w9.cell? ⟨b, off + k * 3, none⟩ = some (.string x.name) ∧ w9.cell? ⟨b, off + k * 3 + 1, none⟩ = some (.string x.value) := ⟨(b9.cell (p := ⟨b, off + k * 3, none⟩) hlow).trans hS8.1, (b9.cell (p := ⟨b, off + k * 3 + 1, none⟩) hlow).trans hS8.2⟩
              refine ⟨hS9, ?_⟩
              have HOWN9 := Lib.hid own9
              have HREST9 := Lib.hid (own_stays OWN78.out (Nat.le_refl _) HLT8.out gr9)
              have HPG9 := Lib.hid (HPGN.out.grown OWNE8.out gr9)
              have HBR9 := Lib.hid (HBR7.out.trans ((HB8.out.mono HBASE.out).trans b9))
              clear gr9 b9 own9
              refine wpAnyH_take (i := 20) (v := ?_) rfl (by kernel_rfl) (by kernel_rfl) (by kernel_rfl) (fun _ _ _ h => h) (.inl ⟨by rfl, fun W hS => ?_⟩) hS9 ?_
              rotate_left
              · unfold execOp; go_simp; try with_reducible rfl
              refine wpAnyH_done (by kernel_rfl) ?_ _
              have HPUT := Lib.hid (show WA.puts ⟨A.es, A.freeL, []⟩ (l.take (k + 1)) = some ⟨eas (ps'.take I ++ ((⟨x.name, x.value, s.free.take p⟩ : EA), pv) :: ps'.drop (I + 1)), s.free.drop p, s.places ++ s.free.take p⟩ by
                rw [HSU.out, HFREE2.out, HI.out, ← HREST.out, ← HEAI.out]
                simp [eas])
              have hrd := HRS.out w9 HREST9.out
              have hown := HOWN9.out
              have hone := reCells_one (HPG9.out.mono (qs := ps'.drop (I + 1)) fun y hy => List.mem_append_right _ (List.mem_cons_of_mem _ hy))
              have hln : I + 1 + (ps'.drop (I + 1)).length ≤ 1000000000 := by rw [List.length_drop]; omega
              have hbs : w3.heap.size ≤ w9.heap.size := HBR9.out.size
              have hlr := reCells_length (ps'.drop (I + 1))
              have hpl : (s.places ++ s.free.take p).length = t + p := by
                rw [List.length_append, List.length_take, HT.out]
                have h1 := HSZ.out
                have h2 := HTP.out
                omega
              have HPL := Lib.hid hpl
              obtain ⟨A9, n9, c9, rfl⟩ : ∃ A9 n9 c9, v9 = .slice A9 n9 c9 := by
                obtain ⟨A9, c9, h⟩ := own_slice hown
                exact ⟨_, _, _, h⟩
              clear hS8 hS9 hS0 hlow hpl
              go_wp2_with (at_builtin; refine app_rd el112 rfl _ _ rfl rfl hown rfl hrd hlr hone hln hbs ?_)
              intro v10 w10 own10 gr10 b10
              have HP10 := Lib.hid (HPG9.out.grown hown gr10)
              have HO10 := Lib.hid own10; have B10 := Lib.hid (HBR9.out.trans b10)
              clear own10 gr10 b10 hrd hown hone hln hbs hlr
              go_wp2
              go_roundw
              case rel => exact ⟨k + 1, ps'.take I ++ ((⟨x.name, x.value, s.free.take p⟩ : EA), pv) :: ps'.drop (I + 1), ⟨eas (ps'.take I ++ ((⟨x.name, x.value, s.free.take p⟩ : EA), pv) :: ps'.drop (I + 1)), s.free.drop p, s.places ++ s.free.take p⟩, by omega, by go_num, by rw [HPL.out]; go_num, by
                have h := HO10.out
                have he : (ps'.take I ++ ((⟨x.name, x.value, s.free.take p⟩ : EA), pv) :: ps'.drop (I + 1)).flatMap reCells = (ps'.take I).flatMap reCells ++ Value.string x.name :: .string x.value :: pv :: (ps'.drop (I + 1)).flatMap reCells := by
                  rw [List.flatMap_append, List.flatMap_cons]
                  rfl
                rw [← he] at h
                exact own_fit h, B10.out, Lib.hid ⟨HP10.out, rfl, HPUT.out⟩⟩
              case measure => simp [intOf]; omega
            · rw [hdr] at g27
              have HPUT := Lib.hid (show WA.puts ⟨A.es, A.freeL, []⟩ (l.take (k + 1)) = some { s with es := eas (ps'.take I ++ ps'.drop (I + 1)) } by
                rw [HSU.out, put_eq, if_pos hdr, HI.out, ← HREST.out, ← HEAI.out]
                simp [eas])
              have hrd := HRS.out w7 OWN7.out
              have hown := OWNE.out
              have HPN := Lib.hid ((HPG7.out.mono (qs := ps'.take I) fun p hp => List.mem_of_mem_take hp).append (HPG7.out.mono (qs := ps'.drop (I + 1)) fun p hp => List.mem_of_mem_drop hp))
              have hone := reCells_one (HPG7.out.mono (qs := ps'.drop (I + 1)) fun p hp => List.mem_of_mem_drop hp)
              have hln : I + (ps'.drop (I + 1)).length ≤ 1000000000 := by rw [List.length_drop]; omega
              have hbs := HBASE.out
              have hlr := reCells_length (ps'.drop (I + 1))
              clear his hdr
              go_wp2_with (first | (refine sl_l Try.underlying112 size144 rfl _ _ rfl rfl 1 r1 q1 rfl rfl HR1.out HQ1.out ?_) | (refine sl_h Try.underlying112 size144 rfl _ _ rfl rfl I rfl rfl HICO.out ?_) | (at_builtin; refine app_rd el112 rfl _ _ rfl rfl hown rfl hrd hlr hone hln hbs ?_))
              intro v8 w8 own8 gr8 b8
              have HP8 := Lib.hid (HPN.out.grown OWNE.out gr8)
              have HO8 := Lib.hid own8; have B8 := Lib.hid (HBR7.out.trans b8)
              clear own8 gr8 b8 hrd hown hone hln hbs hlr
              go_wp2
              go_roundw
              case rel => exact ⟨k + 1, ps'.take I ++ ps'.drop (I + 1), { s with es := eas (ps'.take I ++ ps'.drop (I + 1)) }, by omega, by go_num, rfl, by
                have h := HO8.out
                rw [← List.flatMap_append] at h
                exact own_fit h, B8.out, Lib.hid ⟨HP8.out, rfl, HPUT.out⟩⟩
              case measure => simp [intOf]; omega
        · obtain rfl : k = l.length := by omega
          rw [List.take_length] at hpt
          have hed : edes ps' = s.des := by unfold edes; rw [heas]; rfl
          have hps' : ps'.length ≤ 24900 := by
            have h1 := hwk.2.2.1
            have h2 : s.es.length = ps'.length := by rw [← heas]; simp [eas]
            have := HL.out
            omega
          obtain ⟨Ao, co, rfl⟩ := own_slice own
          have HWK := Lib.hid hwk; have HPG := Lib.hid hpg; have HEA := Lib.hid heas; have HBR := Lib.hid hbr; have HOWN := Lib.hid own; have HED := Lib.hid hed
          have HD := Lib.hid (HES.out s hpt)
          have HRE := Lib.hid (show REnts wr (.slice Ao ps'.length co) ps' from ⟨TRd_own own, hpg⟩)
          have HEL := Lib.hid (show (enc s.des).length ≤ 60000000 by
            have h1 := enc_le s.des hwk.2.2.2
            have h2 : s.des.length = ps'.length := by rw [← hed]; simp [edes, eas]
            omega)
          have HW := Lib.hid (show Below w.heap.size w wr from B3.out.trans (hbr.mono B3.out.size))
          have HRI := Lib.hid (show RIs wr B eb A m from ⟨_, _, _, _, _, HR3.out.below hbr (Nat.le_refl _), HM3.out⟩)
          clear hwk hpg heas hbr own hpt hed HI HE5 HES
          generalize wr = wo at *
          go_wp2
          go_loopw [18, 19] (fun u i wr => ∃ j : Nat, j ≤ ps'.length ∧ i = .int .i64 j ∧ u = .int .i64 ((enc (edes (ps'.take j))).length : Nat) ∧ ∃ q, wr = wo.drewN q) (fun _ i _ => ps'.length - (intOf i).toNat)
          case atStart => exact ⟨0, by omega, rfl, rfl, 0, rfl⟩
          case round =>
            obtain ⟨j, hj, rfl, rfl, q, rfl⟩ := hrel
            by_cases hjl : j < ps'.length
            · have hji : (j : Int) < (ps'.length : Int) := by omega
              obtain ⟨b, off, c', he, g0, -, g2⟩ := HRE.out.cells hjl
              cases he
              obtain ⟨Ap, cp, hpv, -⟩ := HPG.out _ (List.getElem_mem hjl)
              rw [hpv] at g2
              have hlen : (edes (ps'.take (j + 1))) = edes (ps'.take j) ++ [ps'[j].1.de] := by
                rw [List.take_succ_eq_append_getElem hjl]
                unfold edes eas
                rw [List.map_append, List.map_append]
                rfl
              have hsum : (enc (edes (ps'.take (j + 1)))).length = (enc (edes (ps'.take j))).length + 7 + ps'[j].1.name.size + 2 * ps'[j].1.pages.length := by
                rw [hlen, enc_append, List.length_append]
                show _ + (encE ps'[j].1.de ++ []).length = _
                rw [List.append_nil, encE_length]
                show _ + (7 + ps'[j].1.name.size + 2 * ps'[j].1.pages.length) = _
                omega
              have hle : (enc (edes (ps'.take (j + 1)))).length ≤ 60000000 := by
                have h1 := enc_take_le s.des (j + 1)
                have h2 : edes (ps'.take (j + 1)) = s.des.take (j + 1) := by rw [← HED.out]; simp [edes, eas, List.map_take]
                rw [h2]
                have := HEL.out
                omega
              rw [hsum] at hle
              have HSUM := Lib.hid hsum
              clear hsum hlen hpv
              generalize (enc (edes (ps'.take j))).length = X at *
              generalize ps'[j].1.name = nm at *
              generalize ps'[j].1.pages.length = pl at *
              have w1' : IntKind.i64.wrap ((X : Int) + 7) = (X : Int) + 7 := by rw [IntKind.wrap_i64]; omega
              have w2' : IntKind.i64.wrap ((X : Int) + 7 + (nm.size : Int)) = (X : Int) + 7 + (nm.size : Int) := by rw [IntKind.wrap_i64]; omega
              have w3' : IntKind.i64.wrap (2 * (pl : Int)) = 2 * (pl : Int) := by rw [IntKind.wrap_i64]; omega
              have w4' : IntKind.i64.wrap ((X : Int) + 7 + (nm.size : Int) + 2 * (pl : Int)) = (X : Int) + 7 + (nm.size : Int) + 2 * (pl : Int) := by rw [IntKind.wrap_i64]; omega
              have HCAST := Lib.hid (show (X : Int) + 7 + (nm.size : Int) + 2 * (pl : Int) = ((X + 7 + nm.size + 2 * pl : Nat) : Int) by omega)
              clear hle
              go_wp2
              go_quiet (fail)
              go_wp2
              go_roundw
              case rel => exact ⟨j + 1, by omega, by go_num, by rw [HSUM.out, HCAST.out], q + nq, rfl⟩
              case measure => simp [intOf]; omega
            · obtain rfl : j = ps'.length := by omega
              rw [List.take_length, HED.out]
              obtain ⟨w5, hw5⟩ : ∃ w5, wo.drewN q = w5 := ⟨_, rfl⟩
              rw [hw5]
              have b5 : Below wo.heap.size wo w5 := by rw [← hw5]; exact below_drewN wo q
              have HW5 := Lib.hid (below_more HW.out b5 (Nat.le_refl _))
              have HRI5 := Lib.hid (HRI.out.below b5 (Nat.le_refl _))
              have HRE5 := Lib.hid (HRE.out.below b5 (Nat.le_refl _))
              have HF5 := Lib.hid (HF.out.below (HBR.out.trans (b5.mono HBR.out.size)) (Nat.le_refl _))
              have hel : (enc s.des).length < 1000000000 := by have := HEL.out; omega
              have hpn : parts (enc s.des).length ≤ 300000 := by have := HEL.out; unfold parts; omega
              have HSZ := Lib.hid (show s.places.length + s.free.length = A.freeL.length by rw [← HWK.out.1, List.length_append])
              have HFM := Lib.hid (show A.freeL.length ≤ 4096 by
                unfold AD.freeL AD.usedL
                have h1 := freeL_length (usedB A.n A.index A.des)
                rw [usedB_length A.n HR.out.two] at h1
                have := HR.out.n5
                omega)
              clear hw5 b5
              go_wp2_with fail
              refine (rrooms_any (enc s.des).length hel w5).mono ?_
              rintro e w6 ⟨rfl, rfl⟩
              have hdo1 : (s.free.length < parts (enc s.des).length ∨ 100 < parts (enc s.des).length) → A.doS s = (5, A) := fun h => by unfold AD.doS; rw [if_pos h]
              have hdo2 := fun h => doS_wrR (A := A) (s := s) (by
                cases hh : A.hurts (1 - A.place) with
                | none => rfl
                | some z =>
                  obtain ⟨z1, z2⟩ := z
                  have := (HR.out.hurts _ _ _ hh).1
                  omega) h
              obtain ⟨p, hp⟩ : ∃ p, parts (enc s.des).length = p := ⟨_, rfl⟩
              obtain ⟨t, ht⟩ : ∃ t, s.places.length = t := ⟨_, rfl⟩
              rw [hp] at hdo1 hdo2 hpn ⊢
              rw [ht] at HSZ ⊢
              have HT := Lib.hid ht
              have HD1 := Lib.hid hdo1; have HD2 := Lib.hid hdo2
              clear hp ht hdo1 hdo2 hel
              by_cases h100 : 100 < p
              · have h100i : (100 : Int) < (p : Int) := by omega
                have HDF := Lib.hid (HD.out.trans (HD1.out (.inr h100)))
                go_wp2
                go_ret
                exact doneR_same HRF.out HDF.out rfl H.out HW5.out
              have h100i : ¬ (100 : Int) < (p : Int) := by omega
              have hsz := HSZ.out
              have hfm := HFM.out
              have hw1 : IntKind.i64.wrap ((t : Int) + (p : Int)) = (t : Int) + (p : Int) := by rw [IntKind.wrap_i64]; omega
              by_cases hfull : s.free.length < p
              · have hgt : (A.freeL.length : Int) < (t : Int) + (p : Int) := by omega
                have HDF := Lib.hid (HD.out.trans (HD1.out (.inl hfull)))
                clear hsz hfm
                go_wp2
                go_ret
                exact doneR_same HRF.out HDF.out rfl H.out HW5.out
              have hgt : ¬ (A.freeL.length : Int) < (t : Int) + (p : Int) := by omega
              have hcf : A.freeL.length ≤ cf := by
                obtain ⟨_, _, he, h1, _⟩ := HF.out
                cases he
                exact h1
              have HTP := Lib.hid (show t + p ≤ A.freeL.length by omega)
              have HD3 := Lib.hid (HD.out.trans (HD2.out (by omega)))
              obtain ⟨qf, hqf⟩ : ∃ qf, cf = t + qf := ⟨cf - t, by omega⟩
              have HHI := Lib.hid (show (t : Int) + (p : Int) = ((t + p : Nat) : Int) by omega)
              have HQF := Lib.hid hqf; have HPQ := Lib.hid (show p ≤ qf by omega); have HTC := Lib.hid (show t + p ≤ cf by omega)
              have hix := HF5.out.sub t p qf HTP.out hqf HPQ.out
              have hfd : (A.freeL.drop t).take p = s.free.take p := by rw [← HWK.out.1, ← HT.out, List.drop_left]
              rw [hfd] at hix
              have hfr := HF5.out.sub 0 (t + p) cf (by omega) (by omega) HTC.out
              have htk : (A.freeL.drop 0).take (t + p) = s.places ++ s.free.take p := by rw [List.drop_zero, ← HWK.out.1, ← HT.out, List.take_length_add_append]
              rw [htk] at hfr
              have hll : (s.places ++ s.free.take p).length = t + p := by
                rw [List.length_append, List.length_take, HT.out]; omega
              have HFR := Lib.hid hfr
              have HLL := Lib.hid (show (s.places ++ s.free.take p).length ≤ 100000 by rw [hll]; have := HTP.out; omega)
              have HIXP := Lib.hid hix
              have HB5 := Lib.hid (show B ≤ w5.heap.size from Nat.le_trans HB.out HW5.out.size)
              clear hsz hfm hfull hcf hix hfd hfr htk hll hqf
              go_wp2_with (first | (refine sl_lh Try.underlying51 size3 rfl _ _ _ rfl rfl t p qf rfl rfl rfl HHI.out HQF.out HPQ.out ?_) | (refine sl_h Try.underlying51 size3 rfl _ _ rfl rfl (t + p) rfl HHI.out HTC.out ?_))
              refine (rwrite_any w5 HRI5.out HB5.out (by omega) HR.out.fuseb _ _ HFR.out HLL.out).mono ?_
              rintro e w9 ⟨rfl, hr9, ho9⟩
              have HRE9 := Lib.hid (HRE5.out.only ho9)
              have HIX9 := Lib.hid (HIXP.out.only ho9 (by decide) (by decide))
              have HO9 := Lib.hid ((OnlyR.of_below (B := B) HW5.out).trans ho9)
              have HR9 := Lib.hid hr9
              clear hr9 ho9
              obtain ⟨A9, ok, hA9⟩ : ∃ A9 ok, A.wrR (s.places ++ s.free.take p) = (A9, ok) := ⟨_, _, rfl⟩
              rw [hA9] at HD3 HR9 ⊢
              clear hA9
              cases ok
              · have HDF : Hid (A.doA l 0 = (9, A9)) := Lib.hid HD3.out
                go_wp2
                go_ret
                exact ⟨0, HRF.out, by rw [HDF.out]; rfl, by rw [HDF.out]; exact HR9.out, HO9.out⟩
              · have HDF : Hid (A.doA l 0 = (0, { A9 with es := s.es, index := s.free.take p, change := A.change + 1, place := 1 - A.place })) := Lib.hid HD3.out
                obtain ⟨dhs9, ve9, vi9, vh9, ps9, hra9, -⟩ := HR9.out
                obtain ⟨-, -, -, e3, e4, -⟩ := hra9.c
                have f3 := hra9.fz 3
                have f4 := hra9.fz 4
                clear hra9
                go_wp2
                go_ret
                have hse := HR9.out.setES HRE9.out HIX9.out (A.change + 1) (1 - A.place)
                rw [HEA.out] at hse
                exact ⟨0, HRF.out, by rw [HDF.out]; rfl, by rw [HDF.out]; exact hse.1, HO9.out.trans hse.2⟩
end
end Go.Proofs.Ytcgapfmdpchemaa
