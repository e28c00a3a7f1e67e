/- The walk of refused: the error of changes. -/
import Derived.Test.YtcgapfmdpchemaaDamage
namespace Go.Proofs.Ytcgapfmdpchemaa
open Go.RowKit
/-- a change -/
structure Pt where
  name : ByteArray
  value : ByteArray
  drop : Bool
def ptCells (p : Pt) : List Value := [.string p.name, .string p.value, .bool p.drop]
/-- what a slice of changes reads as -/
def PutsAt (w : World) (v : Value) (ps : List Pt) : Prop := Rd w v ps.length (ps.flatMap ptCells)
theorem ptCells_length (ps : List Pt) : (ps.flatMap ptCells).length = ps.length * 3 := by
  induction ps with
  | nil => rfl
  | cons p ps ih => simp only [List.flatMap_cons, List.length_append, ih, List.length_cons, ptCells, List.length_nil]; omega
theorem pflat3 (ps : List Pt) (k : Nat) (hk : k < ps.length) : (ps.flatMap ptCells)[k * 3]? = some (.string ps[k].name) ∧ (ps.flatMap ptCells)[k * 3 + 1]? = some (.string ps[k].value) ∧ (ps.flatMap ptCells)[k * 3 + 2]? = some (.bool ps[k].drop) := by
  induction ps generalizing k with
  | nil => simp at hk
  | cons p ps ih =>
    cases k with
    | zero => simp [ptCells]
    | succ k =>
      have := ih k (by simpa using hk)
      have e1 : ∀ j, ((p :: ps).flatMap ptCells)[(k + 1) * 3 + j]? = (ps.flatMap ptCells)[k * 3 + j]? := fun j => by
        rw [List.flatMap_cons, List.getElem?_append_right (by simp [ptCells]; omega)]
        congr 1
        simp [ptCells]; omega
      refine ⟨?_, ?_, ?_⟩
      · have h := e1 0; simp only [Nat.add_zero] at h; rw [h]; exact this.1
      · rw [e1 1]; exact this.2.1
      · rw [e1 2]; exact this.2.2
theorem PutsAt.cells {w : World} {v : Value} {ps : List Pt} (h : PutsAt w v ps) {k : Nat} (hk : k < ps.length) : ∃ b off c, v = .slice (some ⟨b, off, none⟩) ps.length c ∧
    w.cell? ⟨b, off + k * 3, none⟩ = some (.string ps[k].name) ∧ w.cell? ⟨b, off + k * 3 + 1, none⟩ = some (.string ps[k].value) ∧ w.cell? ⟨b, off + k * 3 + 2, none⟩ = some (.bool ps[k].drop) := by
  obtain ⟨A, c, rfl, _, _, hc⟩ := h
  have hl := ptCells_length ps
  obtain ⟨b, off, rfl, _⟩ := hc 0 (by omega)
  obtain ⟨f0, f1, f2⟩ := pflat3 ps k hk
  have hat : ∀ j u, (ps.flatMap ptCells)[j]? = some u → w.cell? ⟨b, off + j, none⟩ = some u := fun j u hu => by
    obtain ⟨hj, rfl⟩ := List.getElem?_eq_some_iff.1 hu
    obtain ⟨b2, o2, he, hcell⟩ := hc j hj
    cases he
    exact hcell
  exact ⟨b, off, c, rfl, hat _ _ f0, by rw [Nat.add_assoc]; exact hat _ _ f1, by rw [Nat.add_assoc]; exact hat _ _ f2⟩
def Pt.long (p : Pt) : Bool := decide (64 < p.name.size) || decide (60000 < p.value.size)
set_option maxHeartbeats 400000 in
theorem long_any (p : Pt) (w : World) : Calls Try.prog 60 #[.agg #[.string p.name, .string p.value, .bool p.drop]] w fun e w' => e = .returned (.bool p.long) ∧ Below w.heap.size w w' := by
  have b1 : ∀ o : Obj, Below w.heap.size w (w.alloc o) := fun o => (Below.refl _ w).alloc (Nat.le_refl _) o
  by_cases h1 : 64 < p.name.size
  · have h1i : (64 : Int) < (p.name.size : Int) := by omega
    have hp : p.long = true := by simp [Pt.long, h1]
    have HP := Lib.hid hp; clear hp
    go_enter Try.func60, Try.ntmps60
    go_wp2
    go_ret
    exact ⟨by rw [HP.out]; rfl, b1 _⟩
  · have h1i : ¬ (64 : Int) < (p.name.size : Int) := by omega
    have hp : p.long = decide (60000 < p.value.size) := by simp [Pt.long, h1]
    by_cases h2 : 60000 < p.value.size
    · have h2i : (60000 : Int) < (p.value.size : Int) := by omega
      have HP := Lib.hid hp; clear hp
      go_enter Try.func60, Try.ntmps60
      go_wp2
      go_ret
      exact ⟨by rw [HP.out]; simp [h2], b1 _⟩
    · have h2i : ¬ (60000 : Int) < (p.value.size : Int) := by omega
      have HP := Lib.hid hp; clear hp
      go_enter Try.func60, Try.ntmps60
      go_wp2
      go_ret
      exact ⟨by rw [HP.out]; simp [h2], b1 _⟩
set_option maxRecDepth 1000000 in
set_option maxHeartbeats 1000000 in
theorem anyLong_any (w : World) (v : Value) (ps : List Pt) (h : PutsAt w v ps) (hn : ps.length ≤ 1000000) : Calls Try.prog 79 #[v, .func (.func 60) #[] #[]] w fun e w' => (∃ i : Int, e = .returned (.int .i64 i) ∧ ((0 ≤ i) ↔ ps.any Pt.long = true)) ∧ Below w.heap.size w w' := by
  obtain ⟨A, c, rfl, hnc, hcm, -⟩ := id h
  go_enter Try.func79, Try.ntmps79
  go_wp2
  go_loopw [8] (fun i wr => ∃ k : Nat, k ≤ ps.length ∧ i = .int .i64 k ∧ Below w.heap.size w wr ∧ Hid (∀ j, (h : j < ps.length) → j < k → ps[j].long = false)) (fun i _ => ps.length - (intOf i).toNat)
  case atStart => exact ⟨0, by omega, rfl, Below.refl _ _, Lib.hid fun j _ hj => by omega⟩
  case round =>
    obtain ⟨k, hk, rfl, hbr, HB⟩ := hrel
    by_cases hlt : k < ps.length
    · have hr : PutsAt wr _ ps := Rd.below h hbr (Nat.le_refl _)
      obtain ⟨b, off, c', he, h0, h1, h2⟩ := hr.cells hlt
      cases he
      have hki : (k : Int) < (ps.length : Int) := by omega
      have hmem := List.getElem_mem hlt
      have hnx : ∀ j, (h : j < ps.length) → j < k + 1 → ps[k].long = false → ps[j].long = false := fun j hj hjk hf => by
        rcases Nat.lt_succ_iff_lt_or_eq.1 hjk with hlt | rfl
        · exact HB.out j hj hlt
        · exact hf
      have HNX := Lib.hid hnx; have HM := Lib.hid hmem; clear hnx hmem
      generalize hP : ps[k] = p at *
      clear hP h hr
      go_wp2_with fail
      refine (long_any p wr).mono ?_
      rintro e w1 ⟨rfl, b1⟩
      have d1 := hbr.trans (b1.mono hbr.size)
      clear h0 h1 h2
      cases hl : p.long
      · have HL := Lib.hid hl; clear hl
        go_wp2
        go_roundw
        case rel => exact ⟨k + 1, by omega, by go_num, d1, Lib.hid fun j hj hjk => HNX.out j hj hjk HL.out⟩
        case measure => simp [intOf]; omega
      · have HL := Lib.hid hl; clear hl
        go_wp2
        go_ret
        exact ⟨⟨_, rfl, fun _ => List.any_eq_true.2 ⟨p, HM.out, HL.out⟩, fun _ => by omega⟩, d1⟩
    · obtain rfl : k = ps.length := by omega
      go_wp2
      go_ret
      refine ⟨⟨_, rfl, fun h0 => by omega, fun hh => ?_⟩, hbr⟩
      obtain ⟨p, hp, hl⟩ := List.any_eq_true.1 hh
      obtain ⟨j, hj, rfl⟩ := List.mem_iff_getElem.1 hp
      rw [HB.out j hj hj] at hl
      cases hl
set_option maxHeartbeats 400000 in
theorem contains_any (w : World) (v : Value) (ps : List Pt) (h : PutsAt w v ps) (hn : ps.length ≤ 1000000) : Calls Try.prog 59 #[v, .func (.func 60) #[] #[]] w fun e w' => e = .returned (.bool (ps.any Pt.long)) ∧ Below w.heap.size w w' := by
  go_enter Try.func59, Try.ntmps59
  go_wp2_with fail
  refine (anyLong_any w v ps h hn).mono ?_
  rintro e w1 ⟨⟨i, rfl, hi⟩, b1⟩
  by_cases h0 : 0 ≤ i
  · have hp := Lib.hid (hi.1 h0); clear hi
    go_wp2
    go_ret
    exact ⟨by rw [hp.out]; rfl, b1⟩
  · have hp : ps.any Pt.long = false := by
      rw [Bool.eq_false_iff]; exact fun hh => h0 (hi.2 hh)
    have HP := Lib.hid hp; clear hp hi
    have h0i : ¬ 0 ≤ i := h0
    go_wp2
    go_ret
    exact ⟨by rw [HP.out]; simp [h0i], b1⟩
def seenB (S : List ByteArray) (n : ByteArray) : Bool := S.any fun m => decide (m = n)
theorem seenB_iff (S : List ByteArray) (n : ByteArray) : seenB S n = true ↔ n ∈ S := by
  unfold seenB
  rw [List.any_eq_true]
  exact ⟨fun ⟨m, h1, h2⟩ => by rw [← of_decide_eq_true h2]; exact h1, fun h => ⟨n, h, by simp⟩⟩
/-- the names that were seen -/
def SeenAt (w : World) (bm : Nat) (S : List ByteArray) : Prop :=
  ∃ es ck, w.heap[bm]? = some (.map es ck) ∧ (∀ x ∈ es.toList, ∃ n ∈ S, x.key = .string n ∧ x.val = .bool true) ∧ (∀ n ∈ S, ∃ x ∈ es.toList, x.key = .string n)
theorem SeenAt.below {w w' : World} {bm B : Nat} {S : List ByteArray} (h : SeenAt w bm S) (hb : Below B w w') (hB : w.heap.size ≤ B) : SeenAt w' bm S := by
  obtain ⟨es, ck, hm, r⟩ := h
  exact ⟨es, ck, (hb.block _ (Nat.lt_of_lt_of_le (Array.getElem?_eq_some_iff.1 hm).1 hB)).trans hm, r⟩
theorem run_seen {w : World} {bm : Nat} {S : List ByteArray} (h : SeenAt w bm S) (n : ByteArray) : (Instr.lookup 126 (.map (some bm)) (.string n) false).run Try.prog w = .ok (.bool (seenB S n)) w := by
  obtain ⟨es, ck, hm, h1, h2⟩ := h
  have hk : ∀ x ∈ es.toList, MapKept.IsKey .string x.key := fun x hx => by
    obtain ⟨n, _, hkk, _⟩ := h1 x hx
    rw [hkk]; exact trivial
  have hkn : MapKept.IsKey .string (.string n) := trivial
  have hz : (zeroValue 4).run Try.prog w = .ok (.bool false) w := by kernel_rfl
  rcases MapKept.findNow_spec hkn es.toList 0 hk with ⟨ha, hb⟩ | ⟨j, e, ha, hb, hc⟩
  · have hnot : n ∉ S := fun hn => by
      obtain ⟨x, hx, hxk⟩ := h2 n hn
      exact hb x hx hxk
    have hsn : seenB S n = false := by rw [Bool.eq_false_iff]; exact fun hh => hnot ((seenB_iff S n).1 hh)
    simp [Instr.lookup, run_underlying Try.underlying126, MapKept.run_getObj_map hm, MapKept.run_checkKey Try.underlying9 hkn, MapKept.run_findKey Try.underlying9 ha, hsn]
  · obtain ⟨n', hn', hk', hv'⟩ := h1 e (List.mem_of_getElem? hb)
    have : n' = n := by rw [hk'] at hc; injection hc
    subst this
    have hsn := (seenB_iff S n').2 hn'
    simp [Instr.lookup, run_underlying Try.underlying126, MapKept.run_getObj_map hm, MapKept.run_checkKey Try.underlying9 hkn, MapKept.run_findKey Try.underlying9 ha, hv', hsn]
theorem run_see {w : World} {bm : Nat} {S : List ByteArray} (h : SeenAt w bm S) (n : ByteArray) (hn : n ∉ S) : ∃ w', (Instr.mapUpdate 126 (.map (some bm)) (.string n) (.bool true)).run Try.prog w = .ok () w' ∧ SeenAt w' bm (n :: S) ∧ Only bm w w' := by
  obtain ⟨es, ck, hm, h1, h2⟩ := h
  have hk : ∀ x ∈ es.toList, MapKept.IsKey .string x.key := fun x hx => by
    obtain ⟨n, _, hkk, _⟩ := h1 x hx
    rw [hkk]; exact trivial
  have hkn : MapKept.IsKey .string (.string n) := trivial
  rcases MapKept.findNow_spec hkn es.toList 0 hk with ⟨ha, hb⟩ | ⟨j, e, ha, hb, hc⟩
  · obtain ⟨hO, hb'⟩ := only_set (o' := .map (es.push { key := .string n, val := .bool true, born := ck }) (ck + 1)) hm
    refine ⟨_, ?_, ⟨_, _, hb', ?_, ?_⟩, hO⟩
    · simp [Instr.mapUpdate, run_underlying Try.underlying126, MapKept.run_getObj_map hm, MapKept.run_checkKey Try.underlying9 hkn, MapKept.run_findKey Try.underlying9 ha, MapKept.run_setObj_map _ hm]
    · intro x hx
      rw [Array.toList_push, List.mem_append, List.mem_singleton] at hx
      rcases hx with hx | rfl
      · obtain ⟨m, hm1, hm2⟩ := h1 x hx
        exact ⟨m, List.mem_cons_of_mem _ hm1, hm2⟩
      · exact ⟨n, List.mem_cons_self, rfl, rfl⟩
    · intro m hm1
      rw [Array.toList_push]
      rcases List.mem_cons.1 hm1 with rfl | hm1
      · exact ⟨_, List.mem_append_right _ (List.mem_singleton_self _), rfl⟩
      · obtain ⟨x, hx, hxk⟩ := h2 m hm1
        exact ⟨x, List.mem_append_left _ hx, hxk⟩
  · obtain ⟨n', hn', hk', _⟩ := h1 e (List.mem_of_getElem? hb)
    have : n' = n := by rw [hk'] at hc; injection hc
    subst this
    exact absurd hn' hn
def namesTo (ps : List Pt) (k : Nat) : List ByteArray := ((ps.take k).map (·.name)).reverse
theorem namesTo_succ (ps : List Pt) (k : Nat) (hk : k < ps.length) : namesTo ps (k + 1) = ps[k].name :: namesTo ps k := by
  unfold namesTo
  rw [List.take_succ_eq_append_getElem hk, List.map_append, List.reverse_append]
  rfl
/-- is change number k not valid? -/
def badAt (ps : List Pt) (k : Nat) (p : Pt) : Bool := decide (p.name.size = 0) || seenB (namesTo ps k) p.name || (p.drop && decide (p.value.size ≠ 0))
def badPuts (ps : List Pt) : Prop := ∃ k, ∃ h : k < ps.length, badAt ps k ps[k] = true
/-- the error of changes -/
def RefusedIs (ps : List Pt) (n : Nat) : Prop :=
  (n = 3 ∧ (100 < ps.length ∨ ps.any Pt.long = true)) ∨
  (n = 2 ∧ ps.length ≤ 100 ∧ ps.any Pt.long = false ∧ badPuts ps) ∨
  (n = 0 ∧ ps.length ≤ 100 ∧ ps.any Pt.long = false ∧ ¬ badPuts ps)
set_option maxRecDepth 1000000 in
set_option maxHeartbeats 1000000 in
theorem refused_any (w : World) (v : Value) (ps : List Pt) (h : PutsAt w v ps) (hn : ps.length ≤ 1000000) : Calls Try.prog 34 #[v] w fun e w' => (∃ n : Nat, e = .returned (iv n) ∧ RefusedIs ps n) ∧ Below w.heap.size w w' := by
  obtain ⟨A, c, rfl, hnc, hcm, -⟩ := id h
  have hmk := fun w => run_makeMap (P := Try.prog) 126 w
  by_cases h100 : 100 < ps.length
  · have h100i : (100 : Int) < (ps.length : Int) := by omega
    go_enter Try.func34, Try.ntmps34
    go_wp2
    go_ret
    exact ⟨⟨3, rfl, .inl ⟨rfl, .inl h100⟩⟩, Below.refl _ _⟩
  · have h100i : ¬ (100 : Int) < (ps.length : Int) := by omega
    go_enter Try.func34, Try.ntmps34
    go_wp2_with fail
    refine (contains_any w _ ps h hn).mono ?_
    rintro e w1 ⟨rfl, b1⟩
    cases hl : ps.any Pt.long
    · have HL := Lib.hid hl; clear hl
      go_wp2
      have hs0 : SeenAt (w1.alloc (.map #[] 0)) w1.heap.size (namesTo ps 0) := ⟨#[], 0, heap_alloc_new _ _, by simp, fun n hn => by simp [namesTo] at hn⟩
      have d0 : Below w.heap.size w (w1.alloc (.map #[] 0)) := b1.alloc b1.size _
      have hbm := b1.size
      generalize w1.alloc (.map #[] 0) = w2 at *
      generalize w1.heap.size = bm at *
      go_loopw [16] (fun i wr => ∃ k : Nat, k ≤ ps.length ∧ i = .int .i64 k ∧ SeenAt wr bm (namesTo ps k) ∧ Below w.heap.size w wr ∧ Hid (∀ j, (h : j < ps.length) → j < k → badAt ps j ps[j] = false)) (fun i _ => ps.length - (intOf i).toNat)
      case atStart => exact ⟨0, by omega, rfl, hs0, d0, Lib.hid fun j _ hj => by omega⟩
      case round =>
        obtain ⟨k, hk, rfl, hseen, hbr, HB⟩ := hrel
        by_cases hlt : k < ps.length
        · have hr : PutsAt wr _ ps := Rd.below h hbr (Nat.le_refl _)
          obtain ⟨b, off, c', he, h0, h1, h2⟩ := hr.cells hlt
          cases he
          have hki : (k : Int) < (ps.length : Int) := by omega
          have hnx : ∀ j, (h : j < ps.length) → j < k + 1 → badAt ps k ps[k] = false → badAt ps j ps[j] = false := fun j hj hjk hf => by
            rcases Nat.lt_succ_iff_lt_or_eq.1 hjk with hlt | rfl
            · exact HB.out j hj hlt
            · exact hf
          have hbad : badAt ps k ps[k] = true → RefusedIs ps 2 := fun hb => .inr (.inl ⟨rfl, by omega, HL.out, k, hlt, hb⟩)
          have hns := namesTo_succ ps k hlt
          have hdef : badAt ps k ps[k] = (decide (ps[k].name.size = 0) || seenB (namesTo ps k) ps[k].name || (ps[k].drop && decide (ps[k].value.size ≠ 0))) := rfl
          generalize hbt : badAt ps k ps[k] = bt at *
          generalize hP : ps[k] = p at *
          generalize hS : namesTo ps k = S at *
          have HNX := Lib.hid hnx; have HBAD := Lib.hid hbad; have HNS := Lib.hid hns; have HDEF := Lib.hid hdef
          clear hnx hbad hns hdef hbt hP hS h hr
          generalize p.drop = d at *
          have s0 := hseen.below ((Below.refl _ wr).alloc (Nat.le_refl _) (.cells #[.string p.name, .string p.value, .bool d] 46)) (Nat.le_refl _)
          have b0 : Below w.heap.size w (wr.alloc (.cells #[.string p.name, .string p.value, .bool d] 46)) := hbr.alloc hbr.size _
          have hlk := run_seen s0 p.name
          obtain ⟨v0, v1, v2⟩ := cells3 (heap_alloc_new wr (.cells #[.string p.name, .string p.value, .bool d] 46))
          by_cases hz : p.name.size = 0
          · have hem := empty_of hz
            have hb := HDEF.out
            simp only [hz, decide_true, Bool.true_or] at hb
            have HB2 := Lib.hid hb; clear hb
            go_wp2
            go_ret
            exact ⟨⟨2, rfl, HBAD.out HB2.out⟩, b0⟩
          · have hem := nonempty_of hz
            cases hse : seenB S p.name
            · rw [hse] at hlk
              have hnin : p.name ∉ S := fun hh => by rw [(seenB_iff S p.name).2 hh] at hse; cases hse
              obtain ⟨w3, hupd, s3, o3⟩ := run_see s0 p.name hnin
              have d3 := b0.trans (o3.below hbm)
              have S3 := Lib.hid s3
              clear s0 s3
              cases d
              · have hb := HDEF.out
                simp only [hz, hse, decide_false, Bool.or_false, Bool.false_and] at hb
                have HB2 := Lib.hid hb; clear hb
                go_wp2
                go_roundw
                case rel => exact ⟨k + 1, by omega, by go_num, by rw [HNS.out]; exact S3.out, d3, Lib.hid fun j hj hjk => HNX.out j hj hjk HB2.out⟩
                case measure => simp [intOf]; omega
              · by_cases hv : p.value.size = 0
                · have hem2 := empty_of hv
                  have hb := HDEF.out
                  simp only [hz, hse, hv, decide_false, Bool.or_false, Bool.true_and, ne_eq, not_true] at hb
                  have HB2 := Lib.hid hb; clear hb
                  go_wp2
                  go_roundw
                  case rel => exact ⟨k + 1, by omega, by go_num, by rw [HNS.out]; exact S3.out, d3, Lib.hid fun j hj hjk => HNX.out j hj hjk HB2.out⟩
                  case measure => simp [intOf]; omega
                · have hem2 := nonempty_of hv
                  have hb := HDEF.out
                  simp only [hz, hse, hv, decide_false, Bool.or_false, Bool.true_and, ne_eq, not_false_eq_true, decide_true, Bool.or_true] at hb
                  have HB2 := Lib.hid hb; clear hb
                  go_wp2
                  go_ret
                  exact ⟨⟨2, rfl, HBAD.out HB2.out⟩, b0⟩
            · rw [hse] at hlk
              have hb := HDEF.out
              simp only [hse, Bool.or_true, Bool.true_or] at hb
              have HB2 := Lib.hid hb; clear hb
              go_wp2
              go_ret
              exact ⟨⟨2, rfl, HBAD.out HB2.out⟩, b0⟩
        · obtain rfl : k = ps.length := by omega
          go_wp2
          go_ret
          refine ⟨⟨0, rfl, .inr (.inr ⟨rfl, by omega, HL.out, ?_⟩)⟩, hbr⟩
          rintro ⟨j, hj, hb⟩
          rw [HB.out j hj hj] at hb
          cases hb
    · have HL := Lib.hid hl; clear hl
      go_wp2
      go_ret
      exact ⟨⟨3, rfl, .inl ⟨rfl, .inr HL.out⟩⟩, b1⟩
end Go.Proofs.Ytcgapfmdpchemaa
/- The walks of the laws' small helpers: put, SameInts. -/
namespace Go.Proofs.Ytcgapfmdpchemaa
open Go.RowKit
set_option maxHeartbeats 400000 in
theorem put_any (a b : ByteArray) (w : World) : Calls Try.prog 23 #[.string a, .string b] w fun e w' => ∃ v, e = .returned v ∧ PutsAt w' v [⟨a, b, false⟩] ∧ Below w.heap.size w w' := by
  go_enter Try.func23, Try.ntmps23
  go_wp2
  go_ret
  refine ⟨_, rfl, ?_, (Below.refl _ w).alloc (Nat.le_refl _) _⟩
  exact Rd_new w [.string a, .string b, .bool false] 46 _ 1 rfl
set_option maxRecDepth 1000000 in
set_option maxHeartbeats 1000000 in
theorem sameInts_any (w : World) (u v : Value) (xs ys : List Nat) (hu : Rd w u xs.length (ivs xs)) (hv : Rd w v ys.length (ivs ys)) (hx : xs.length ≤ 1000000) : Calls Try.prog 30 #[u, v] w fun e w' => e = .returned (.bool (decide (xs = ys))) ∧ Below w.heap.size w w' := by
  obtain ⟨A, c, rfl, hnc, hcm, hcx⟩ := hu
  obtain ⟨B, d, rfl, hnd, hdm, hcy⟩ := hv
  by_cases hl : xs.length = ys.length
  · have hls : ((xs.length : Int) != (ys.length : Int)) = false := by rw [bne_eq_false_iff_eq]; omega
    have HL := Lib.hid hl; clear hl
    go_enter Try.func30, Try.ntmps30
    go_wp2
    go_loopw [5] (fun i wr => ∃ k : Nat, k ≤ xs.length ∧ i = .int .i64 k ∧ Below w.heap.size w wr ∧ Hid (xs.take k = ys.take k)) (fun i _ => xs.length - (intOf i).toNat)
    case atStart => exact ⟨0, by omega, rfl, Below.refl _ _, Lib.hid (by simp)⟩
    case round =>
      obtain ⟨k, hk, rfl, hbr, HE⟩ := hrel
      by_cases hlt : k < xs.length
      · have hlty : k < ys.length := by rw [← HL.out]; exact hlt
        obtain ⟨b1, o1, rfl, hc1⟩ := hcx k (by rw [ivs_length]; exact hlt)
        obtain ⟨b2, o2, rfl, hc2⟩ := hcy k (by rw [ivs_length]; exact hlty)
        have e1 : wr.cell? ⟨b1, o1 + k, none⟩ = some (.int .i64 xs[k]) := by rw [hbr.cell (p := ⟨b1, o1 + k, none⟩) (block_lt_of_cell hc1), hc1]; simp [ivs, iv]
        have e2 : wr.cell? ⟨b2, o2 + k, none⟩ = some (.int .i64 ys[k]) := by rw [hbr.cell (p := ⟨b2, o2 + k, none⟩) (block_lt_of_cell hc2), hc2]; simp [ivs, iv]
        have t1 : xs.take (k + 1) = xs.take k ++ [xs[k]] := List.take_succ_eq_append_getElem hlt
        have t2 : ys.take (k + 1) = ys.take k ++ [ys[k]] := List.take_succ_eq_append_getElem hlty
        have hne : xs[k] ≠ ys[k] → xs ≠ ys := fun h1 h2 => h1 (by simp only [h2])
        generalize xs[k] = p at *
        generalize ys[k] = q at *
        have T1 := Lib.hid t1; have T2 := Lib.hid t2; have HNE := Lib.hid hne
        have hki : (k : Int) < (xs.length : Int) := by omega
        have hkj : (k : Int) < (ys.length : Int) := by omega
        clear t1 t2 hne hcx hcy hc1 hc2
        by_cases hpq : p = q
        · have hpb : ((p : Int) != (q : Int)) = false := by rw [bne_eq_false_iff_eq, hpq]
          have HPQ := Lib.hid hpq; clear hpq
          go_wp2
          go_region
          go_wp2
          go_roundw
          case rel => exact ⟨k + 1, by omega, by go_num, (hbr : Below w.heap.size w wr).trans ((Below.refl _ wr).drew), Lib.hid (by rw [T1.out, T2.out, HE.out, HPQ.out])⟩
          case measure => simp [intOf]; omega
        · have hpb : ((p : Int) != (q : Int)) = true := by rw [bne_iff_ne]; omega
          have HPQ := Lib.hid hpq; clear hpq
          go_wp2
          go_region
          go_wp2
          go_ret
          exact ⟨by rw [decide_eq_false (HNE.out HPQ.out)]; rfl, hbr.trans ((Below.refl _ wr).drew)⟩
      · obtain rfl : k = xs.length := by omega
        have he : xs = ys := by
          have := HE.out
          rw [List.take_length, HL.out, List.take_length] at this
          exact this
        have HEQ := Lib.hid he; clear he
        go_wp2
        go_ret
        exact ⟨by rw [decide_eq_true HEQ.out]; rfl, hbr⟩
  · have hls : ((xs.length : Int) != (ys.length : Int)) = true := by rw [bne_iff_ne]; omega
    have HL := Lib.hid (show xs ≠ ys from fun h => hl (by rw [h])); clear hl
    go_enter Try.func30, Try.ntmps30
    go_wp2
    go_ret
    exact ⟨by rw [decide_eq_false HL.out]; rfl, Below.refl _ _⟩
end Go.Proofs.Ytcgapfmdpchemaa
/- Disks and stores that are none: the walks of the methods. -/
namespace Go.Proofs.Ytcgapfmdpchemaa
open Go.RowKit
/-- a disk that is none -/
def NoDisk (w : World) (d : Value) : Prop := Calls Try.prog 32 #[d] w fun e w' => e = .returned (.bool true) ∧ w = w'
/-- a store that is none -/
def NoStore (w : World) (s : Value) : Prop := ∀ e0 : Int, Calls Try.prog 33 #[s, .int .i64 e0] w fun e w' => e = .returned (.tuple #[.slice none 0 0, .slice none 0 0, .int .i64 1]) ∧ w = w'
section
variable {w : World} {d s : Value}
set_option maxHeartbeats 400000 in
theorem fail_no (h : NoDisk w d) (n : Int) : Calls Try.prog 14 #[d, .int .i64 n] w fun e w' => e = .returned (.int .i64 1) ∧ w = w' := by
  go_enter Try.func14, Try.ntmps14
  go_wp2_with fail
  refine h.mono ?_
  rintro e w' ⟨rfl, rfl⟩
  go_wp2
  go_ret
  exact ⟨rfl, rfl⟩
set_option maxHeartbeats 400000 in
theorem restart_no (h : NoDisk w d) : Calls Try.prog 17 #[d] w fun e w' => e = .returned (.int .i64 1) ∧ w = w' := by
  go_enter Try.func17, Try.ntmps17
  go_wp2_with fail
  refine h.mono ?_
  rintro e w' ⟨rfl, rfl⟩
  go_wp2
  go_ret
  exact ⟨rfl, rfl⟩
set_option maxHeartbeats 400000 in
theorem down_no (h : NoDisk w d) : Calls Try.prog 15 #[d] w fun e w' => e = .returned (.bool false) ∧ w = w' := by
  go_enter Try.func15, Try.ntmps15
  go_wp2_with fail
  refine h.mono ?_
  rintro e w' ⟨rfl, rfl⟩
  go_wp2
  go_ret
  exact ⟨rfl, rfl⟩
set_option maxHeartbeats 400000 in
theorem damage_no (h : NoDisk w d) (x y : Int) (f : UInt8) : Calls Try.prog 19 #[d, .int .i64 x, .int .i64 y, bv f] w fun e w' => e = .returned (.int .i64 1) ∧ w = w' := by
  unfold bv
  go_enter Try.func19, Try.ntmps19
  go_wp2_with fail
  refine h.mono ?_
  rintro e w' ⟨rfl, rfl⟩
  go_wp2
  go_ret
  exact ⟨rfl, rfl⟩
set_option maxHeartbeats 400000 in
theorem open_no (h : NoDisk w d) : Calls Try.prog 10 #[d] w fun e w' => e = .returned (.tuple #[.pointer none, .int .i64 1]) ∧ w = w' := by
  go_enter Try.func10, Try.ntmps10
  go_wp2_with fail
  refine h.mono ?_
  rintro e w' ⟨rfl, rfl⟩
  go_wp2
  go_ret2
  exact ⟨rfl, rfl⟩
set_option maxHeartbeats 400000 in
theorem free_no (h : NoStore w s) : Calls Try.prog 13 #[s] w fun e w' => e = .returned (.tuple #[.int .i64 0, .int .i64 1]) ∧ w = w' := by
  go_enter Try.func13, Try.ntmps13
  go_wp2_with fail
  refine (h 0).mono ?_
  rintro e w' ⟨rfl, rfl⟩
  go_wp2
  go_ret2
  exact ⟨rfl, rfl⟩
set_option maxHeartbeats 400000 in
theorem scrub_no (h : NoStore w s) : Calls Try.prog 22 #[s] w fun e w' => e = .returned (.tuple #[.slice none 0 0, .int .i64 1]) ∧ w = w' := by
  go_enter Try.func22, Try.ntmps22
  go_wp2_with fail
  refine (h 0).mono ?_
  rintro e w' ⟨rfl, rfl⟩
  go_wp2
  go_ret2
  exact ⟨rfl, rfl⟩
set_option maxHeartbeats 400000 in
theorem get_no (h : NoStore w s) (name : ByteArray) : Calls Try.prog 21 #[s, .string name] w fun e w' => e = .returned (.tuple #[.string ByteArray.empty, .int .i64 1]) ∧ w = w' := by
  by_cases hz : name.size = 0
  · have hem := empty_of hz
    go_enter Try.func21, Try.ntmps21
    go_wp2_with fail
    refine (h 2).mono ?_
    rintro e w' ⟨rfl, rfl⟩
    go_wp2
    go_ret2
    exact ⟨rfl, rfl⟩
  · have hem := nonempty_of hz
    by_cases h6 : (64 : Int) < (name.size : Int)
    · go_enter Try.func21, Try.ntmps21
      go_wp2_with fail
      refine (h 2).mono ?_
      rintro e w' ⟨rfl, rfl⟩
      go_wp2
      go_ret2
      exact ⟨rfl, rfl⟩
    · go_enter Try.func21, Try.ntmps21
      go_wp2_with fail
      refine (h 0).mono ?_
      rintro e w' ⟨rfl, rfl⟩
      go_wp2
      go_ret2
      exact ⟨rfl, rfl⟩
set_option maxHeartbeats 400000 in
theorem list_no (h : NoStore w s) (f : ByteArray) (most : Int) : Calls Try.prog 28 #[s, .string f, .int .i64 most] w fun e w' => e = .returned (.tuple #[.slice none 0 0, .int .i64 1]) ∧ w = w' := by
  by_cases h0 : most < 0
  · go_enter Try.func28, Try.ntmps28
    go_wp2_with fail
    refine (h 2).mono ?_
    rintro e w' ⟨rfl, rfl⟩
    go_wp2
    go_ret2
    exact ⟨rfl, rfl⟩
  · by_cases h1 : (1000 : Int) < most
    · go_enter Try.func28, Try.ntmps28
      go_wp2_with fail
      refine (h 2).mono ?_
      rintro e w' ⟨rfl, rfl⟩
      go_wp2
      go_ret2
      exact ⟨rfl, rfl⟩
    · go_enter Try.func28, Try.ntmps28
      go_wp2_with fail
      refine (h 0).mono ?_
      rintro e w' ⟨rfl, rfl⟩
      go_wp2
      go_ret2
      exact ⟨rfl, rfl⟩
end
end Go.Proofs.Ytcgapfmdpchemaa
