/- The two disks of a play side by side, and what each method does to both. -/
import Derived.Test.YtcgapfmdpchemaaRefN
namespace Go.Proofs.Ytcgapfmdpchemaa
open Go.RowKit
/-- a store, the type of its block told -/
def StT (w : World) (bs bd : Nat) : Prop := w.heap[bs]? = some (.cells #[.pointer (some ⟨bd, 0, none⟩)] 73 (0, 0))
theorem StT.at_ {w : World} {bs bd : Nat} (h : StT w bs bd) : StoreAt w bs bd := by
  unfold StoreAt
  rw [cell_of_row _ _ _ _ _ _ h]; rfl
theorem openT_any {bd bp bm : Nat} {C : Cn} {size : Nat} {index : List Nat} {es : List DE} (w : World) (h : DiskAt w bd bp bm C) (hd : Dir C size index es) :
    Calls Try.prog 10 #[.pointer (some ⟨bd, 0, none⟩)] w fun e w' => Below w.heap.size w w' ∧
      ((stateB C index 0 = 0 ∧ ∃ bs, e = .returned (.tuple #[.pointer (some ⟨bs, 0, none⟩), .int .i64 0]) ∧ StT w' bs bd) ∨
       (stateB C index 0 ≠ 0 ∧ e = .returned (.tuple #[.pointer none, iv (stateB C index 0)]))) := by
  go_enter Try.func10, Try.ntmps10
  go_wp2_with fail
  refine (none_no w h).mono ?_
  rintro e w' ⟨rfl, rfl⟩
  go_wp2_with fail
  have hs : StoreAt (w.alloc (.cells #[.pointer (some ⟨bd, 0, none⟩)] 73)) w.heap.size bd := cell_one_new _ _ _ 0 _ rfl
  have hst : StT (w.alloc (.cells #[.pointer (some ⟨bd, 0, none⟩)] 73)) w.heap.size bd := heap_alloc_new w _
  have b0 : Below w.heap.size w (w.alloc (.cells #[.pointer (some ⟨bd, 0, none⟩)] 73)) := (Below.refl _ w).alloc (Nat.le_refl _) _
  refine (begin_any _ hs (h.below b0 (Nat.le_refl _)) hd 0 (by decide)).mono ?_
  rintro e w1 ⟨b1, v, ix, rfl, hb⟩
  have d1 := b0.trans (b1.mono (by simp))
  have HST1 : Hid (StT w1 w.heap.size bd) := Lib.hid ((b1.block _ (Array.getElem?_eq_some_iff.1 hst).1).trans hst)
  clear hb hst
  by_cases hst : stateB C index 0 = 0
  · have HST := Lib.hid hst
    rw [hst]
    clear hst
    go_wp2
    go_ret2
    exact ⟨d1, .inl ⟨HST.out, _, rfl, HST1.out⟩⟩
  · have hst0 : ¬ ((stateB C index 0 : Nat) : Int) = 0 := by omega
    have HST := Lib.hid hst
    clear hst
    go_wp2
    go_ret2
    exact ⟨d1, .inr ⟨HST.out, rfl⟩⟩
section
variable {w w' : World} {B bd bp bm bs eb et pp m : Nat} {A : AD} {C : Cn}
theorem s_openT (h : AtD w bd bp bm A) : Calls Try.prog 10 #[.pointer (some ⟨bd, 0, none⟩)] w fun e w' => Below w.heap.size w w' ∧
      ((A.state 0 = 0 ∧ ∃ bs, e = .returned (.tuple #[.pointer (some ⟨bs, 0, none⟩), .int .i64 0]) ∧ StT w' bs bd) ∨
       (A.state 0 ≠ 0 ∧ e = .returned (.tuple #[.pointer none, iv (A.state 0)]))) := by
  obtain ⟨C, hD, hR⟩ := h
  have := openT_any w hD hR.dir
  rwa [hR.state] at this
theorem row_below {k N : Nat} {cs : Array Value} {t : Nat} (h : w.heap[k]? = some (.cells cs t (0, 0))) (hb : Below N w w') (hN : w.heap.size ≤ N) : w'.heap[k]? = some (.cells cs t (0, 0)) :=
  (hb.block k (Nat.lt_of_lt_of_le (Array.getElem?_eq_some_iff.1 h).1 hN)).trans h
theorem row_only3 {k : Nat} {cs : Array Value} {t : Nat} (h : w.heap[k]? = some (.cells cs t (0, 0))) (hD : DiskAt w bd bp bm C) (ho : Only3 bd bp bm w w') (h1 : t ≠ 70) (h2 : t ≠ 81) : w'.heap[k]? = some (.cells cs t (0, 0)) := by
  refine (ho.block k (Array.getElem?_eq_some_iff.1 h).1 ?_ ?_ ?_).trans h
  · rintro rfl; rw [hD.d] at h; simp only [Option.some.injEq, Obj.cells.injEq] at h; exact h1 h.2.1.symm
  · rintro rfl; rw [hD.p] at h; simp only [Option.some.injEq, Obj.cells.injEq] at h; exact h2 h.2.1.symm
  · rintro rfl; obtain ⟨es, ck, hm, _⟩ := hD.m; rw [hm] at h; cases h
theorem DiskAt.onlyR (h : DiskAt w bd bp bm C) (ho : OnlyR B w w') : DiskAt w' bd bp bm C := by
  obtain ⟨es, ck, hm, hf⟩ := h.m
  exact ⟨ho.row h.d (by decide) (by decide), ho.row h.p (by decide) (by decide), ⟨es, ck, ho.map hm, hf⟩, h.len, h.two, h.small⟩
/-- the two disks, a store on each, and the pair -/
structure Duo (w : World) (B bd bp bm bs eb et pp : Nat) (A : AD) (m : Nat) : Prop where
  pr : w.heap[pp]? = some (.cells #[.pointer (some ⟨bd, 0, none⟩), .pointer (some ⟨bs, 0, none⟩), .pointer (some ⟨eb, 0, none⟩), .pointer (some ⟨et, 0, none⟩)] 64 (0, 0))
  st : StT w bs bd
  d : AtD w bd bp bm A
  rs : RSt w et eb
  r : RIs w B eb A m
  lo : B ≤ bd ∧ B ≤ bp ∧ B ≤ bm
  lop : B ≤ pp
  sz : B ≤ w.heap.size
theorem Duo.sess (h : Duo w B bd bp bm bs eb et pp A m) : Sess w bs bd bp bm A := ⟨h.st.at_, h.d⟩
theorem Duo.below (h : Duo w B bd bp bm bs eb et pp A m) (hb : Below w.heap.size w w') : Duo w' B bd bp bm bs eb et pp A m :=
  ⟨row_below h.pr hb (Nat.le_refl _), row_below h.st hb (Nat.le_refl _), h.d.below hb (Nat.le_refl _), h.rs.below hb (Nat.le_refl _), h.r.below hb (Nat.le_refl _), h.lo, h.lop, Nat.le_trans h.sz hb.size⟩
/-- the store's side done: the document's still stands for what was -/
structure Half (w : World) (B bd bp bm bs eb et pp : Nat) (A A' : AD) (m : Nat) : Prop where
  pr : w.heap[pp]? = some (.cells #[.pointer (some ⟨bd, 0, none⟩), .pointer (some ⟨bs, 0, none⟩), .pointer (some ⟨eb, 0, none⟩), .pointer (some ⟨et, 0, none⟩)] 64 (0, 0))
  st : StT w bs bd
  d : AtD w bd bp bm A'
  rs : RSt w et eb
  r : RIs w B eb A m
  lo : B ≤ bd ∧ B ≤ bp ∧ B ≤ bm
  lop : B ≤ pp
  sz : B ≤ w.heap.size
theorem Duo.half {A' : AD} (h : Duo w B bd bp bm bs eb et pp A m) (ho : Only3 bd bp bm w w') (hd : AtD w' bd bp bm A') : Half w' B bd bp bm bs eb et pp A A' m := by
  obtain ⟨C, hD, hR⟩ := h.d
  exact ⟨row_only3 h.pr hD ho (by decide) (by decide), row_only3 h.st hD ho (by decide) (by decide), hd, row_only3 h.rs hD ho (by decide) (by decide), h.r.only3 hD ho, h.lo, h.lop, Nat.le_trans h.sz ho.size⟩
theorem Half.duo {A' : AD} {m' : Nat} (h : Half w B bd bp bm bs eb et pp A A' m) (ho : OnlyR B w w') (hr : RIs w' B eb A' m') : Duo w' B bd bp bm bs eb et pp A' m' := by
  obtain ⟨C, hD, hR⟩ := h.d
  exact ⟨ho.row h.pr (by decide) (by decide), ho.row h.st (by decide) (by decide), ⟨C, hD.onlyR ho, hR⟩, ho.row h.rs (by decide) (by decide), hr, h.lo, h.lop, Nat.le_trans h.sz ho.size⟩
theorem Duo.below3 (h : Duo w B bd bp bm bs eb et pp A m) (ho : Only3 bd bp bm w w') : Below B w w' := below_only3 (Below.refl B w) ho h.sz h.lo
theorem s_failA (h : Sess w bs bd bp bm A) (n : Int) (hb : n ≤ 9223372036854775807) : Calls Try.prog 14 #[.pointer (some ⟨bd, 0, none⟩), .int .i64 n] w fun e w' => e = .returned (.int .i64 (A.failA n).1) ∧ Sess w' bs bd bp bm (A.failA n).2 ∧ Only3 bd bp bm w w' := by
  by_cases hn : n < 0
  · have hf : A.failA n = (2, A) := by unfold AD.failA; rw [if_pos hn]
    rw [hf]
    obtain ⟨hs, C, hD, hR⟩ := id h
    refine (fail_arg w hD n hn).mono ?_
    rintro e w' ⟨rfl, rfl⟩
    exact ⟨rfl, h, Only3.refl _ _ _ _⟩
  · have hf : A.failA n = (0, { A with fuse := n }) := by unfold AD.failA; rw [if_neg hn]
    rw [hf]
    exact s_fail h n hn hb
/-- what a step of a play does -/
def PlayR (w : World) (B bd bp bm eb pp : Nat) (A : AD) (m : Nat) (e : Ending) (w' : World) : Prop :=
  e = .returned (.bool true) ∧ ∃ bs et A', Duo w' B bd bp bm bs eb et pp A' (m + 1) ∧ A'.change ≤ A.change + 1 ∧ Below B w w'
theorem doA_change (A : AD) (l : List Pt) (r : Nat) : (A.doA l r).2.change ≤ A.change + 1 := by
  unfold AD.doA
  split
  · exact Nat.le_succ _
  · split
    · exact Nat.le_succ _
    · split
      · exact Nat.le_succ _
      · rename_i s _
        rcases doS_cases A s with h | ⟨_, h⟩ | ⟨_, h⟩
        · rw [h]; exact Nat.le_succ _
        · rw [h.change]; exact Nat.le_succ _
        · rw [h.change]; exact Nat.le_refl _
end
end Go.Proofs.Ytcgapfmdpchemaa
