/- The walk of Get. -/
import Derived.Test.YtcgapfmdpchemaaBegin
namespace Go.Proofs.Ytcgapfmdpchemaa
open Go.RowKit
/-- read, in one piece -/
theorem read_one {bd bp bm : Nat} {C : Cn} (w : World) (h : DiskAt w bd bp bm C) (ns : List Nat) (hns : ∀ q ∈ ns, q < C.n) (hn : ns.length ≤ 1000) (size : Nat) (hsz : size ≤ 248 * ns.length) (v : Value) (hv : Rd w v ns.length (ivs ns)) :
    Calls Try.prog 44 #[.pointer (some ⟨bd, 0, none⟩), .int .i64 size, v] w fun e w' => ∃ v, e = .returned (.tuple #[v, .bool (allB C ns)]) ∧ Below w.heap.size w w' ∧ (allB C ns = true → Rd w' v size (bvs ((rooms C ns).take size))) := by
  refine (read_any w h ns hns hn size hsz v hv).mono ?_
  rintro e w' ⟨b, ⟨hall, v, rfl, r⟩ | ⟨⟨q, hq, hbad⟩, rfl⟩⟩
  · have : allB C ns = true := List.all_eq_true.2 hall
    exact ⟨v, by rw [this], b, fun _ => r⟩
  · have : allB C ns = false := by
      rw [Bool.eq_false_iff]
      intro hh
      have := List.all_eq_true.1 hh q hq
      rw [hbad] at this
      cases this
    exact ⟨_, by rw [this], b, fun hh => by rw [this] at hh; cases hh⟩
/-- what Get returns -/
def argB (name : ByteArray) : Nat := if name.size = 0 ∨ 64 < name.size then 2 else 0
def getB (C : Cn) (index : List Nat) (es : List DE) (name : ByteArray) : ByteArray × Nat :=
  if stateB C index (argB name) ≠ 0 then (ByteArray.empty, stateB C index (argB name))
  else if isB es name = false then (ByteArray.empty, 4)
  else match es[atB es name]? with
    | some e => if allB C e.pages then (⟨((rooms C e.pages).take e.size).toArray⟩, 0) else (ByteArray.empty, 370)
    | none => (ByteArray.empty, 4)
theorem atB_spec {es : List DE} (hs : Asc es) (name : ByteArray) : (∀ j, (h : j < es.length) → j < atB es name → nlt es[j].name name) ∧ (∀ j, (h : j < es.length) → atB es name ≤ j → ¬ nlt es[j].name name) := by
  refine ⟨fun j hj hja => ?_, fun j hj hja hn => ?_⟩
  · have := List.not_of_lt_findIdx hja
    simpa using this
  · have hlt : atB es name < es.length := by omega
    have := List.findIdx_getElem (xs := es) (p := fun (e : DE) => decide (¬ nlt e.name name)) (w := hlt)
    have h2 := nlt_of_le hs hlt hj hja hn
    exact of_decide_eq_true this h2
theorem isB_lt {es : List DE} (hs : Asc es) {name : ByteArray} (h : isB es name = true) : ∃ h : atB es name < es.length, es[atB es name].name = name :=
  (find_spec hs List.findIdx_le_length (atB_spec hs name).1 (atB_spec hs name).2).2.1 h
theorem stateB_two {C : Cn} {index : List Nat} {e0 : Nat} (h : e0 ≠ 0) : stateB C index e0 ≠ 0 := by
  unfold stateB; split <;> simp [h]
theorem nonempty_of {name : ByteArray} (h : name.size ≠ 0) : name.toList.isEmpty = false := by
  rw [ByteArray.toList_eq]
  have : name.data.toList.length ≠ 0 := by rw [Array.length_toList]; exact h
  cases hh : name.data.toList with
  | nil => rw [hh] at this; simp at this
  | cons a l => rfl
theorem empty_of {name : ByteArray} (h : name.size = 0) : name.toList.isEmpty = true := by
  rw [ByteArray.toList_eq]
  have : name.data.toList.length = 0 := by rw [Array.length_toList]; exact h
  rw [List.length_eq_zero_iff] at this
  rw [this]; rfl
set_option maxRecDepth 1000000 in
set_option maxHeartbeats 1000000 in
theorem get_any {bs bd bp bm : Nat} {C : Cn} {size : Nat} {index : List Nat} {es : List DE} (w : World) (hs : StoreAt w bs bd) (h : DiskAt w bd bp bm C) (hd : Dir C size index es) (name : ByteArray) :
    Calls Try.prog 21 #[.pointer (some ⟨bs, 0, none⟩), .string name] w fun e w' => e = .returned (.tuple #[.string (getB C index es name).1, .int .i64 (getB C index es name).2]) ∧ Below w.heap.size w w' := by
  by_cases harg : argB name = 0
  · have hz : name.size ≠ 0 := by intro h0; simp [argB, h0] at harg
    have h64 : ¬ (64 : Int) < (name.size : Int) := by intro h0; unfold argB at harg; rw [if_pos (.inr (by omega))] at harg; cases harg
    have hem := nonempty_of hz
    have HG := Lib.hid (show getB C index es name = _ from rfl)
    go_enter Try.func21, Try.ntmps21
    go_wp2_with fail
    refine (begin_any w hs h hd 0 (by decide)).mono ?_
    rintro e w1 ⟨b1, v, ix, rfl, hb⟩
    by_cases hst : stateB C index 0 = 0
    · obtain ⟨ps, hrow, hps, hix⟩ := hb hst
      rw [hst]
      have HST := Lib.hid hst; clear hst hb
      go_wp2_with fail
      have hasc : Asc (ents ps) := by rw [hps]; exact hd.asc
      have hmany : ps.length ≤ 1000000 := by have := hd.many; rw [← hps, ents_length] at this; omega
      refine (find_any w1 v ps hrow.rd hasc hmany name).mono ?_
      rintro e w2 ⟨rfl, b2⟩
      cases his : isB (ents ps) name
      · go_wp2
        go_ret2
        have : getB C index es name = (ByteArray.empty, 4) := by unfold getB; rw [harg, HST.out, ← hps, his]; simp
        exact ⟨by rw [this]; rfl, b1.trans (b2.mono b1.size)⟩
      · obtain ⟨hlt, hnm⟩ := isB_lt hasc his
        have hlt' : atB (ents ps) name < ps.length := by rwa [ents_length] at hlt
        have hmem := List.getElem_mem hlt'
        have hr2 := hrow.rd.below b2 (Nat.le_refl _)
        obtain ⟨b, off, c, rfl, h0, h1, h2⟩ := hr2.cells hlt'
        obtain ⟨A2, c2, hsl, -⟩ := hr2.at_ _ hmem
        have hin := hr2.at_ _ hmem
        have hmes : ps[atB (ents ps) name].1 ∈ es := by rw [← hps]; exact List.mem_map_of_mem hmem
        have hget : getB C index es name = if allB C ps[atB (ents ps) name].1.pages then (⟨((rooms C ps[atB (ents ps) name].1.pages).take ps[atB (ents ps) name].1.size).toArray⟩, 0) else (ByteArray.empty, 370) := by
          unfold getB
          rw [harg, HST.out, ← hps, his]
          have : (ents ps)[atB (ents ps) name]? = some ps[atB (ents ps) name].1 := by rw [List.getElem?_eq_getElem hlt, ents_at]
          simp [this]
        have hroom := hd.room _ hmes
        have hpg := hd.pg _ hmes
        obtain ⟨-, -, -, hp1000, -⟩ := hd.fit _ hmes
        rw [hsl] at h2 hin
        generalize hE : ps[atB (ents ps) name].1 = e at *
        have HGET := Lib.hid hget
        clear hE hsl hget hnm hlt
        generalize hI : atB (ents ps) name = i at *
        clear hI
        unfold iv at h1
        have hki : (i : Int) < (ps.length : Int) := by omega
        have hd2 := (h.below b1 (Nat.le_refl _)).below b2 (Nat.le_refl _)
        have hs2 : w2.cell? ⟨bs, 0, none⟩ = some (.pointer (some ⟨bd, 0, none⟩)) := (hs.below b1 (Nat.le_refl _)).below b2 (Nat.le_refl _)
        have hrdx := hin.rd
        have HRD := Lib.hid hrdx; clear hrdx hin
        have hlr : ((rooms C e.pages).take e.size).length = e.size := by rw [List.length_take, rooms_length C h.len _ hpg]; omega
        have HLR := Lib.hid hlr; clear hlr
        unfold iv
        go_wp2
        go_region_law (go_simp; go_at_call 44; refine (read_one _ hd2.drew e.pages hpg hp1000 e.size hroom _ (Rd.drew HRD.out)).mono ?_; rintro e' w3 ⟨v3, rfl, b3, hv3⟩)
        all_goals
          cases hA : allB C e.pages
          · go_wp2
            go_ret2
            exact ⟨by rw [HGET.out, hA]; rfl, b1.trans ((b2.mono b1.size).trans ((Below.refl _ w2).drew.trans (b3.mono (Nat.le_trans b1.size b2.size))))⟩
          · have r3 := Lib.hid (hv3 hA)
            clear hv3
            go_wp2_with (refine cv_str rfl _ rfl rfl r3.out HLR.out ?_)
            go_ret2
            exact ⟨by rw [HGET.out, hA]; rfl, b1.trans ((b2.mono b1.size).trans ((Below.refl _ w2).drew.trans (b3.mono (Nat.le_trans b1.size b2.size))))⟩
    · have hst0 : ¬ ((stateB C index 0 : Nat) : Int) = 0 := by omega
      go_wp2
      go_ret2
      have : getB C index es name = (ByteArray.empty, stateB C index 0) := by unfold getB; rw [harg, if_pos hst]
      exact ⟨by rw [this]; rfl, b1⟩
  · have harg2 : argB name = 2 := by
      unfold argB at harg ⊢
      by_cases hc : name.size = 0 ∨ 64 < name.size
      · rw [if_pos hc]
      · rw [if_neg hc] at harg; exact absurd rfl harg
    have hget : getB C index es name = (ByteArray.empty, stateB C index 2) := by unfold getB; rw [harg2, if_pos (stateB_two (by decide))]
    have hst0 : ¬ ((stateB C index 2 : Nat) : Int) = 0 := by have := stateB_two (C := C) (index := index) (e0 := 2) (by decide); omega
    have HST := Lib.hid hst0; clear hst0
    by_cases hz : name.size = 0
    · have hem := empty_of hz
      go_enter Try.func21, Try.ntmps21
      go_wp2_with fail
      refine (begin_any w hs h hd 2 (by decide)).mono ?_
      rintro e w1 ⟨b1, v, ix, rfl, hb⟩
      have hst0 := HST.out
      go_wp2
      go_ret2
      exact ⟨by rw [hget]; rfl, b1⟩
    · have hem := nonempty_of hz
      have h64 : (64 : Int) < (name.size : Int) := by
        unfold argB at harg
        by_cases h6 : 64 < name.size
        · omega
        · simp [hz, h6] at harg
      go_enter Try.func21, Try.ntmps21
      go_wp2_with fail
      refine (begin_any w hs h hd 2 (by decide)).mono ?_
      rintro e w1 ⟨b1, v, ix, rfl, hb⟩
      have hst0 := HST.out
      go_wp2
      go_ret2
      exact ⟨by rw [hget]; rfl, b1⟩
end Go.Proofs.Ytcgapfmdpchemaa
