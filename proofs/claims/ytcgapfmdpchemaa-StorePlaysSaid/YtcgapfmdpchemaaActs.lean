/- Some steps of a play as a slice, and the walk of great. -/
import Derived.Test.YtcgapfmdpchemaaNoneDo
namespace Go.Proofs.Ytcgapfmdpchemaa
open Go.RowKit
/-- a step of a play -/
structure Ac where
  what : UInt8
  pv : Value
  puts : List Pt
  name : ByteArray
  x : Int
  y : Int
  flip : UInt8
def acCells (s : Ac) : List Value := [bv s.what, s.pv, .string s.name, .int .i64 s.x, .int .i64 s.y, bv s.flip]
def ActsAt (w : World) (v : Value) (ss : List Ac) : Prop := Rd w v ss.length (ss.flatMap acCells) ∧ ∀ s ∈ ss, PutsAt w s.pv s.puts
theorem acCells_length (ss : List Ac) : (ss.flatMap acCells).length = ss.length * 6 := by
  induction ss with
  | nil => rfl
  | cons p ss ih => simp only [List.flatMap_cons, List.length_append, ih, List.length_cons, acCells, List.length_nil]; omega
theorem aflat6 (ss : List Ac) (k : Nat) (hk : k < ss.length) (j : Nat) (hj : j < 6) : (ss.flatMap acCells)[k * 6 + j]? = (acCells ss[k])[j]? := by
  induction ss generalizing k with
  | nil => simp at hk
  | cons p ss ih =>
    have hl : (acCells p).length = 6 := rfl
    rw [List.flatMap_cons]
    cases k with
    | zero =>
      rw [Nat.zero_mul, Nat.zero_add, List.getElem?_append_left (by omega)]
      rfl
    | succ k =>
      rw [List.getElem?_append_right (by omega), hl, show (k + 1) * 6 + j - 6 = k * 6 + j by omega, List.getElem_cons_succ]
      exact ih k (by simpa using hk)
theorem ActsAt.below {w w' : World} {v : Value} {ss : List Ac} {B : Nat} (h : ActsAt w v ss) (hb : Below B w w') (hB : w.heap.size ≤ B) : ActsAt w' v ss :=
  ⟨h.1.below hb hB, fun s hs => (h.2 s hs).below hb hB⟩
theorem ActsAt.cells {w : World} {v : Value} {ss : List Ac} (h : ActsAt w v ss) {k : Nat} (hk : k < ss.length) : ∃ b off c, v = .slice (some ⟨b, off, none⟩) ss.length c ∧
    ∀ j, j < 6 → w.cell? ⟨b, off + k * 6 + j, none⟩ = (acCells ss[k])[j]? := by
  obtain ⟨⟨A, c, rfl, _, _, hc⟩, _⟩ := h
  have hl := acCells_length ss
  obtain ⟨b, off, rfl, _⟩ := hc 0 (by omega)
  refine ⟨b, off, c, rfl, fun j hj => ?_⟩
  have hlt : k * 6 + j < (ss.flatMap acCells).length := by omega
  obtain ⟨b2, o2, he, hcell⟩ := hc (k * 6 + j) hlt
  cases he
  rw [← aflat6 ss k hk j hj, List.getElem?_eq_getElem hlt, Nat.add_assoc]
  exact hcell
/-- what is known of steps that are not too many -/
def Small (ss : List Ac) (m : Int) : Prop := (ss.length : Int) ≤ m ∧ ∀ s ∈ ss, s.puts.length ≤ 200 ∧ s.name.size ≤ 1000
def GreatIs (ss : List Ac) (m : Int) (e : Ending) : Prop := ∃ b, e = .returned (.bool b) ∧ (b = false → Small ss m)
set_option maxRecDepth 1000000 in
set_option maxHeartbeats 4000000 in
theorem great_any (w : World) (v : Value) (ss : List Ac) (m : Int) (h : ActsAt w v ss) : Calls Try.prog 7 #[v, .int .i64 m] w fun e w' => GreatIs ss m e ∧ Below w.heap.size w w' := by
  obtain ⟨A, c, rfl, hnc, hcm, -⟩ := id h.1
  have hn63 : ss.length ≤ 9223372036854775807 := by unfold maxLen at hcm; omega
  have H := Lib.hid h; clear h
  go_enter Try.func7, Try.ntmps7
  go_wp2
  go_loopw [5, 6] (fun s i wr => ∃ k : Nat, ∃ x : Int, k ≤ ss.length ∧ s = .int .i64 x ∧ i = .int .i64 k ∧ Below w.heap.size w wr ∧ Hid (∀ j, (h : j < ss.length) → j < k → ss[j].puts.length ≤ 200 ∧ ss[j].name.size ≤ 1000)) (fun _ i _ => ss.length - (intOf i).toNat)
  case atStart => exact ⟨0, 0, by omega, rfl, rfl, Below.refl _ _, Lib.hid fun j _ hj => by omega⟩
  case round =>
    obtain ⟨k, x, hk, rfl, rfl, hbr, HB⟩ := hrel
    by_cases hlt : k < ss.length
    · have hki : (k : Int) < (ss.length : Int) := by omega
      obtain ⟨b, off, c', he, hc⟩ := (H.out.below hbr (Nat.le_refl _)).cells hlt
      cases he
      have hp := (H.out.below hbr (Nat.le_refl _)).2 ss[k] (List.getElem_mem hlt)
      have c1 : wr.cell? ⟨b, off + k * 6 + 1, none⟩ = some ss[k].pv := hc 1 (by omega)
      have c2 : wr.cell? ⟨b, off + k * 6 + 2, none⟩ = some (.string ss[k].name) := hc 2 (by omega)
      have HNX : Hid (ss[k].puts.length ≤ 200 → ss[k].name.size ≤ 1000 → ∀ j, (h : j < ss.length) → j < k + 1 → ss[j].puts.length ≤ 200 ∧ ss[j].name.size ≤ 1000) := Lib.hid fun h1 h2 j hj hjk => by
        rcases Nat.lt_succ_iff_lt_or_eq.1 hjk with hlt | rfl
        · exact HB.out j hj hlt
        · exact ⟨h1, h2⟩
      clear hc HB
      generalize ss[k] = s at *
      obtain ⟨Ap, cp, hpv, hpc, hpm, -⟩ := id hp
      rw [hpv] at c1 hp
      clear hpv
      have HP := Lib.hid hp; clear hp
      have hpm63 : s.puts.length ≤ 9223372036854775807 := by unfold maxLen at hpm; omega
      by_cases h2 : 200 < s.puts.length
      · have h2i : (200 : Int) < (s.puts.length : Int) := by omega
        go_wp2
        go_ret
        exact ⟨⟨true, rfl, fun h => by cases h⟩, hbr⟩
      · have h2i : ¬ (200 : Int) < (s.puts.length : Int) := by omega
        by_cases h3 : 1000 < s.name.size
        · have h3i : (1000 : Int) < (s.name.size : Int) := by omega
          go_wp2
          go_ret
          exact ⟨⟨true, rfl, fun h => by cases h⟩, hbr⟩
        · have h3i : ¬ (1000 : Int) < (s.name.size : Int) := by omega
          have HNY := Lib.hid (HNX.out (by omega) (by omega)); clear HNX
          generalize wr = wo at *
          go_wp2
          go_loopw [5, 7] (fun t j wj => ∃ q : Nat, ∃ z : Int, q ≤ s.puts.length ∧ t = .int .i64 z ∧ j = .int .i64 q ∧ Below wo.heap.size wo wj) (fun _ j _ => s.puts.length - (intOf j).toNat)
          case atStart => exact ⟨0, x, by omega, rfl, rfl, Below.refl _ _⟩
          case round =>
            obtain ⟨q, z, hq, rfl, rfl, hbj⟩ := hrel
            have d1 : wr.cell? ⟨b, off + k * 6 + 1, none⟩ = some (.slice Ap s.puts.length cp) := (hbj.cell (p := ⟨b, off + k * 6 + 1, none⟩) (block_lt_of_cell c1)).trans c1
            by_cases hlq : q < s.puts.length
            · have hqi : (q : Int) < (s.puts.length : Int) := by omega
              obtain ⟨pb, po, pc, he, p0, p1, -⟩ := PutsAt.cells (ps := s.puts) (Rd.below HP.out hbj (Nat.le_refl _)) hlq
              cases he
              generalize s.puts[q] = pt at *
              go_wp2
              go_region
              go_wp2
              go_roundw
              case rel => exact ⟨q + 1, _, by omega, rfl, by go_num, hbj.trans ((Below.refl _ wr).drew)⟩
              case measure => simp [intOf]; omega
            · obtain rfl : q = s.puts.length := by omega
              go_wp2
              go_roundw
              case rel => exact ⟨k + 1, z, by omega, rfl, by go_num, below_more hbr hbj (Nat.le_refl _), HNY⟩
              case measure => simp [intOf]; omega
    · obtain rfl : k = ss.length := by omega
      have HALL : Hid (∀ s ∈ ss, s.puts.length ≤ 200 ∧ s.name.size ≤ 1000) := Lib.hid fun s hs => by
        obtain ⟨j, hj, rfl⟩ := List.getElem_of_mem hs
        exact HB.out j hj hj
      clear HB
      by_cases hm : m < (ss.length : Int)
      · go_wp2
        go_ret
        exact ⟨⟨true, rfl, fun h => by cases h⟩, hbr⟩
      · by_cases hx : (150000 : Int) < x
        · go_wp2
          go_ret
          exact ⟨⟨true, rfl, fun h => by cases h⟩, hbr⟩
        · go_wp2
          go_ret
          exact ⟨⟨false, rfl, fun _ => ⟨by omega, HALL.out⟩⟩, hbr⟩
end Go.Proofs.Ytcgapfmdpchemaa
