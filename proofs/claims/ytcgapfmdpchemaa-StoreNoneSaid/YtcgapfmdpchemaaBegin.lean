/- The walk of begin, and of what the store's methods that only read share. -/
import Derived.Test.YtcgapfmdpchemaaFind
namespace Go.Proofs.Ytcgapfmdpchemaa
open Go.RowKit
/-- what a disk's newest head and directory say -/
structure Dir (C : Cn) (size : Nat) (index : List Nat) (es : List DE) : Prop where
  head : HeadIs (newestTo C 2).1 size index
  ix : ∀ q ∈ index, q < C.n
  sz : size ≤ 248 * index.length
  enc : (∀ q ∈ index, wholeB (C.page q) = true) → (rooms C index).take size = enc es
  fit : ∀ e ∈ es, e.fits
  asc : Asc es
  pg : ∀ e ∈ es, ∀ p ∈ e.pages, p < C.n
  room : ∀ e ∈ es, e.size ≤ 248 * e.pages.length
  many : es.length ≤ 24800
def StoreAt (w : World) (bs bd : Nat) : Prop := w.cell? ⟨bs, 0, none⟩ = some (.pointer (some ⟨bd, 0, none⟩))
theorem StoreAt.below {w w' : World} {bs bd B : Nat} (h : StoreAt w bs bd) (hb : Below B w w') (hB : w.heap.size ≤ B) : StoreAt w' bs bd :=
  (hb.cell (p := ⟨bs, 0, none⟩) (Nat.lt_of_lt_of_le (block_lt_of_cell h) hB)).trans h
/-- are all of these pages whole? -/
def allB (C : Cn) (l : List Nat) : Bool := l.all fun q => wholeB (C.page q)
/-- the error of a method whose arguments have this one -/
def stateB (C : Cn) (index : List Nat) (e0 : Nat) : Nat := if C.down then 9 else if e0 ≠ 0 then e0 else if allB C index then 0 else 370
def BeginPost (C : Cn) (index : List Nat) (es : List DE) (e0 : Nat) (w : World) (e : Ending) (w' : World) : Prop :=
  Below w.heap.size w w' ∧ ∃ v ix, e = .returned (.tuple #[v, ix, .int .i64 (stateB C index e0)]) ∧
    (stateB C index e0 = 0 → ∃ ps, EntRow w' w.heap.size v ps ∧ ents ps = es ∧ Rd w' ix index.length (ivs index))
set_option maxRecDepth 1000000 in
set_option maxHeartbeats 1000000 in
theorem begin_any {bs bd bp bm : Nat} {C : Cn} {size : Nat} {index : List Nat} {es : List DE} (w : World) (hs : StoreAt w bs bd) (h : DiskAt w bd bp bm C) (hd : Dir C size index es) (e0 : Nat) (he0 : e0 < 1000) :
    Calls Try.prog 33 #[.pointer (some ⟨bs, 0, none⟩), .int .i64 e0] w (BeginPost C index es e0 w) := by
  have h2 := h.c2
  have hs0 : w.cell? ⟨bs, 0, none⟩ = some (.pointer (some ⟨bd, 0, none⟩)) := hs
  go_enter Try.func33, Try.ntmps33
  go_wp2_with fail
  refine (none_no w h).mono ?_
  rintro e w' ⟨rfl, rfl⟩
  cases hdown : C.down
  · rw [hdown] at h2
    by_cases he : e0 = 0
    · subst he
      go_wp2_with fail
      refine (directory_any w h size index es hd.head hd.ix hd.sz hd.enc hd.fit).mono ?_
      rintro e w1 ⟨b1, ⟨hall, v, ix, ps, rfl, hrow, hps, hix⟩ | ⟨⟨q, hq, hbad⟩, rfl⟩⟩
      · go_wp2
        go_ret3
        have hst : stateB C index 0 = 0 := by
          have : allB C index = true := List.all_eq_true.2 hall
          simp [stateB, hdown, this]
        exact ⟨b1, v, ix, by rw [hst]; rfl, fun _ => ⟨ps, hrow, hps, hix⟩⟩
      · go_wp2
        go_ret3
        have hst : stateB C index 0 = 370 := by
          have : allB C index = false := by
            rw [Bool.eq_false_iff]
            intro hh
            have := List.all_eq_true.1 hh q hq
            rw [hbad] at this
            cases this
          simp [stateB, hdown, this]
        exact ⟨b1, _, _, by rw [hst]; rfl, fun h0 => by rw [hst] at h0; cases h0⟩
    · have hei : ¬ ((e0 : Int) = 0) := by omega
      go_wp2
      go_ret3
      have hst : stateB C index e0 = e0 := by simp [stateB, hdown, he]
      exact ⟨Below.refl _ _, _, _, by rw [hst]; rfl, fun h0 => by rw [hst] at h0; exact absurd h0 he⟩
  · rw [hdown] at h2
    go_wp2
    go_ret3
    have hst : stateB C index e0 = 9 := by simp [stateB, hdown]
    exact ⟨Below.refl _ _, _, _, by rw [hst]; rfl, fun h0 => by rw [hst] at h0; cases h0⟩
set_option maxHeartbeats 400000 in
theorem begin_nil (w : World) (e0 : Int) : Calls Try.prog 33 #[.pointer none, .int .i64 e0] w fun e w' => e = .returned (.tuple #[.slice none 0 0, .slice none 0 0, .int .i64 1]) ∧ w = w' := by
  go_enter Try.func33, Try.ntmps33
  go_wp2
  go_ret3
  exact ⟨rfl, rfl⟩
set_option maxHeartbeats 400000 in
theorem begin_none {bs : Nat} (w : World) (h : w.cell? ⟨bs, 0, none⟩ = some (.pointer none)) (e0 : Int) : Calls Try.prog 33 #[.pointer (some ⟨bs, 0, none⟩), .int .i64 e0] w fun e w' => e = .returned (.tuple #[.slice none 0 0, .slice none 0 0, .int .i64 1]) ∧ w = w' := by
  go_enter Try.func33, Try.ntmps33
  go_wp2_with fail
  refine (none_nil w).mono ?_
  rintro e w' ⟨rfl, rfl⟩
  go_wp2
  go_ret3
  exact ⟨rfl, rfl⟩
end Go.Proofs.Ytcgapfmdpchemaa
