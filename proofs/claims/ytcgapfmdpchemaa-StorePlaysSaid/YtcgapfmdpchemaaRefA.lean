/- The reference's disk in memory. No function is walked here. -/
import Derived.Test.YtcgapfmdpchemaaSums
import Derived.Deep.QuietTactic
import Derived.BigQuiet
import Derived.ArgAppend
import Derived.Deep.AppendLies
import Derived.StillTailTactics
namespace Go.Proofs.Ytcgapfmdpchemaa
open Go.RowKit
/-- what a slice reads as, the type of its block told -/
def TRd (w : World) (t : Nat) (v : Value) (n : Nat) (xs : List Value) : Prop :=
  ∃ a c, v = .slice a n c ∧ n ≤ c ∧ c ≤ maxLen ∧ (xs = [] ∨ ∃ b off cs, ∃ fr : Nat × Nat, a = some ⟨b, off, none⟩ ∧ w.heap[b]? = some (.cells cs t fr) ∧ ∀ j, (hj : j < xs.length) → cs[off + j]? = some xs[j])
/-- what the reference's own methods turn -/
structure OnlyR (B : Nat) (w w' : World) : Prop where
  os : w'.os = w.os
  tape : w'.tape = w.tape
  output : w'.output = w.output
  size : w.heap.size ≤ w'.heap.size
  block : ∀ k, k < w.heap.size → (k < B ∨ ∀ cs t, ∀ fr : Nat × Nat, w.heap[k]? = some (.cells cs t fr) → t ≠ 115 ∧ t ≠ 148) → w'.heap[k]? = w.heap[k]?
theorem OnlyR.refl (B : Nat) (w : World) : OnlyR B w w := ⟨rfl, rfl, rfl, Nat.le_refl _, fun _ _ _ => rfl⟩
theorem OnlyR.trans {B : Nat} {a b c : World} (h : OnlyR B a b) (k : OnlyR B b c) : OnlyR B a c :=
  ⟨k.os.trans h.os, k.tape.trans h.tape, k.output.trans h.output, Nat.le_trans h.size k.size, fun i hi hc => by
    have h1 := h.block i hi hc
    exact (k.block i (Nat.lt_of_lt_of_le hi h.size) (hc.imp id fun g => by rw [h1]; exact g)).trans h1⟩
theorem OnlyR.of_below {B : Nat} {a b : World} (h : Below a.heap.size a b) : OnlyR B a b := ⟨h.os, h.tape, h.output, h.size, fun k hk _ => h.block k hk⟩
theorem OnlyR.drew {B : Nat} (w : World) : OnlyR B w w.drew := ⟨rfl, rfl, rfl, Nat.le_refl _, fun _ _ _ => rfl⟩
theorem OnlyR.below {B : Nat} {a b : World} (h : OnlyR B a b) (hB : B ≤ a.heap.size) : Below B a b :=
  ⟨h.os, h.tape, h.output, h.size, fun k hk => h.block k (Nat.lt_of_lt_of_le hk hB) (.inl hk)⟩
theorem OnlyR.row {B : Nat} {a b : World} (h : OnlyR B a b) {k t : Nat} {cs : Array Value} {fr : Nat × Nat} (hk : a.heap[k]? = some (.cells cs t fr)) (h1 : t ≠ 115) (h2 : t ≠ 148) : b.heap[k]? = some (.cells cs t fr) :=
  (h.block k (Array.getElem?_eq_some_iff.1 hk).1 (.inr fun cs' t' fr' h' => by rw [hk] at h'; cases h'; exact ⟨h1, h2⟩)).trans hk
theorem OnlyR.map {B : Nat} {a b : World} (h : OnlyR B a b) {k n : Nat} {es : Array MapEntry} (hk : a.heap[k]? = some (.map es n)) : b.heap[k]? = some (.map es n) :=
  (h.block k (Array.getElem?_eq_some_iff.1 hk).1 (.inr fun cs' t' fr' h' => by rw [hk] at h'; cases h')).trans hk
section
variable {w w' : World} {B t n : Nat} {v : Value} {xs : List Value}
theorem TRd.rd (h : TRd w t v n xs) : Rd w v n xs := by
  obtain ⟨a, c, rfl, h1, h2, h3⟩ := h
  refine ⟨a, c, rfl, h1, h2, fun j hj => ?_⟩
  rcases h3 with rfl | ⟨b, off, cs, fr, rfl, hb, hc⟩
  · cases hj
  · exact ⟨b, off, rfl, by rw [cell_of_row _ _ _ _ _ _ hb]; exact hc j hj⟩
theorem TRd.only (h : TRd w t v n xs) (ho : OnlyR B w w') (h1 : t ≠ 115) (h2 : t ≠ 148) : TRd w' t v n xs := by
  obtain ⟨a, c, rfl, g1, g2, g3⟩ := h
  refine ⟨a, c, rfl, g1, g2, ?_⟩
  rcases g3 with rfl | ⟨b, off, cs, fr, rfl, hb, hc⟩
  · exact .inl rfl
  · exact .inr ⟨b, off, cs, fr, rfl, ho.row hb h1 h2, hc⟩
theorem TRd.only3 {bd bp bm : Nat} {C : Cn} (h : TRd w t v n xs) (hD : DiskAt w bd bp bm C) (ho : Only3 bd bp bm w w') (h1 : t ≠ 70) (h2 : t ≠ 81) : TRd w' t v n xs := by
  obtain ⟨a, c, rfl, g1, g2, g3⟩ := h
  refine ⟨a, c, rfl, g1, g2, ?_⟩
  rcases g3 with rfl | ⟨b, off, cs, fr, rfl, hb, hc⟩
  · exact .inl rfl
  · refine .inr ⟨b, off, cs, fr, rfl, (ho.block b (Array.getElem?_eq_some_iff.1 hb).1 ?_ ?_ ?_).trans hb, hc⟩
    · rintro rfl; rw [hD.d] at hb; simp only [Option.some.injEq, Obj.cells.injEq] at hb; exact h1 hb.2.1.symm
    · rintro rfl; rw [hD.p] at hb; simp only [Option.some.injEq, Obj.cells.injEq] at hb; exact h2 hb.2.1.symm
    · rintro rfl; obtain ⟨es, ck, hm, _⟩ := hD.m; rw [hm] at hb; cases hb
theorem TRd.below {N : Nat} (h : TRd w t v n xs) (hb : Below N w w') (hN : w.heap.size ≤ N) : TRd w' t v n xs := by
  obtain ⟨a, c, rfl, g1, g2, g3⟩ := h
  refine ⟨a, c, rfl, g1, g2, ?_⟩
  rcases g3 with rfl | ⟨b, off, cs, fr, rfl, hr, hc⟩
  · exact .inl rfl
  · exact .inr ⟨b, off, cs, fr, rfl, (hb.block b (Nat.lt_of_lt_of_le (Array.getElem?_eq_some_iff.1 hr).1 hN)).trans hr, hc⟩
theorem TRd_own {base s : Nat} (h : w.ownsRow base t s v n xs) : TRd w t v n xs := by
  obtain ⟨hl, h⟩ := h
  rcases h with ⟨rfl, rfl⟩ | ⟨g, cap, cur, rfl, _, hg, hnc, hcm, hcs, ht⟩
  · exact ⟨none, 0, rfl, Nat.le_refl _, by decide, .inl (by simpa using hl)⟩
  · refine ⟨_, _, rfl, hnc, hcm, .inr ⟨g, 0, cur, _, rfl, hg, fun j hj => ?_⟩⟩
    subst ht
    simp only [List.length_take, Array.length_toList] at hj
    simp [Array.getElem?_eq_getElem (show j < cur.size by omega)]
theorem TRd_nil (w : World) (t : Nat) : TRd w t (.slice none 0 0) 0 [] := ⟨none, 0, rfl, Nat.le_refl _, by decide, .inl rfl⟩
/-- a part of what a slice reads as: x[l:l+r] -/
theorem TRd.cut {a : Option Addr} {c s : Nat} (h : TRd w t (.slice a n c) n xs) (hx : xs.length = n * s) (l r q : Nat) (hl : l + r ≤ n) (hc : c = l + q) (hrq : r ≤ q) : TRd w t (.slice (Ytcgapfmdpchemaa.cut a l c s) r q) r ((xs.drop (l * s)).take (r * s)) := by
  obtain ⟨a', c', he, h1, h2, h3⟩ := h
  cases he
  refine ⟨_, q, rfl, hrq, by omega, ?_⟩
  rcases h3 with rfl | ⟨b, off, cs, fr, rfl, hb, hcc⟩
  · exact .inl (by simp)
  · by_cases hz : c = l
    · left
      have : r = 0 := by omega
      subst this
      simp
    · right
      refine ⟨b, off + l * s, cs, fr, ?_, hb, fun j hj => ?_⟩
      · unfold Ytcgapfmdpchemaa.cut
        simp [hz, Addr.add]
      · simp only [List.length_take, List.length_drop] at hj
        have hj2 : l * s + j < xs.length := by omega
        rw [Nat.add_assoc, hcc _ hj2]
        simp
end
/-- an entry of the reference as cells -/
def reCells (p : EA × Value) : List Value := [.string p.1.name, .string p.1.value, p.2]
theorem reCells_length (ps : List (EA × Value)) : (ps.flatMap reCells).length = ps.length * 3 := by
  induction ps with
  | nil => rfl
  | cons p ps ih => simp only [List.flatMap_cons, List.length_append, ih, List.length_cons, reCells, List.length_nil]; omega
theorem rflat3 (ps : List (EA × Value)) (k : Nat) (hk : k < ps.length) : (ps.flatMap reCells)[k * 3]? = some (.string ps[k].1.name) ∧ (ps.flatMap reCells)[k * 3 + 1]? = some (.string ps[k].1.value) ∧ (ps.flatMap reCells)[k * 3 + 2]? = some ps[k].2 := by
  induction ps generalizing k with
  | nil => simp at hk
  | cons p ps ih =>
    cases k with
    | zero => simp [reCells]
    | succ k =>
      have := ih k (by simpa using hk)
      have e1 : ∀ j, ((p :: ps).flatMap reCells)[(k + 1) * 3 + j]? = (ps.flatMap reCells)[k * 3 + j]? := fun j => by
        rw [List.flatMap_cons, List.getElem?_append_right (by simp [reCells]; omega)]
        congr 1
        simp [reCells]; omega
      refine ⟨?_, ?_, ?_⟩
      · have h := e1 0; simp only [Nat.add_zero] at h; rw [h]; exact this.1
      · rw [e1 1]; exact this.2.1
      · rw [e1 2]; exact this.2.2
theorem rflat_drop (ps : List (EA × Value)) (i : Nat) : (ps.flatMap reCells).drop (i * 3) = (ps.drop i).flatMap reCells := by
  induction i generalizing ps with
  | zero => simp
  | succ i ih =>
    cases ps with
    | nil => simp
    | cons p ps =>
      rw [List.drop_succ_cons, ← ih, List.flatMap_cons, Nat.add_mul, Nat.one_mul, Nat.add_comm, ← List.drop_drop]
      congr 1
theorem rflat_take (ps : List (EA × Value)) (i : Nat) : (ps.flatMap reCells).take (i * 3) = (ps.take i).flatMap reCells := by
  induction i generalizing ps with
  | zero => simp
  | succ i ih =>
    cases ps with
    | nil => simp
    | cons p ps =>
      rw [List.take_succ_cons, List.flatMap_cons, List.flatMap_cons, ← ih, List.take_append, show (reCells p).length = 3 from rfl, List.take_of_length_le (by show 3 ≤ _; omega), show (i + 1) * 3 - 3 = i * 3 by omega]
/-- some entries' pages lie as they should -/
def PgsAt (w : World) (ps : List (EA × Value)) : Prop := ∀ p ∈ ps, TRd w 3 p.2 p.1.pages.length (ivs p.1.pages)
/-- a slice of entries -/
def REnts (w : World) (v : Value) (ps : List (EA × Value)) : Prop := TRd w 144 v ps.length (ps.flatMap reCells) ∧ PgsAt w ps
def eas (ps : List (EA × Value)) : List EA := ps.map (·.1)
/-- a damage as cells -/
def hCells (x : Nat × Nat × UInt8) : List Value := [.int .i64 x.1, .int .i64 x.2.1, bv x.2.2]
theorem hCells_length (hs : List (Nat × Nat × UInt8)) : (hs.flatMap hCells).length = hs.length * 3 := by
  induction hs with
  | nil => rfl
  | cons p hs ih => simp only [List.flatMap_cons, List.length_append, ih, List.length_cons, hCells, List.length_nil]; omega
theorem hflat3 (hs : List (Nat × Nat × UInt8)) (k : Nat) (hk : k < hs.length) : (hs.flatMap hCells)[k * 3]? = some (.int .i64 hs[k].1) ∧ (hs.flatMap hCells)[k * 3 + 1]? = some (.int .i64 hs[k].2.1) ∧ (hs.flatMap hCells)[k * 3 + 2]? = some (bv hs[k].2.2) := by
  induction hs generalizing k with
  | nil => simp at hk
  | cons p hs ih =>
    cases k with
    | zero => simp [hCells]
    | succ k =>
      have := ih k (by simpa using hk)
      have e1 : ∀ j, ((p :: hs).flatMap hCells)[(k + 1) * 3 + j]? = (hs.flatMap hCells)[k * 3 + j]? := fun j => by
        rw [List.flatMap_cons, List.getElem?_append_right (by simp [hCells]; omega)]
        congr 1
        simp [hCells]; omega
      refine ⟨?_, ?_, ?_⟩
      · have h := e1 0; simp only [Nat.add_zero] at h; rw [h]; exact this.1
      · rw [e1 1]; exact this.2.1
      · rw [e1 2]; exact this.2.2
/-- the damages' row: its block is nobody else's -/
def HRow (w : World) (B : Nat) (vh : Value) (hs : List (Nat × Nat × UInt8)) : Prop :=
  (vh = .slice none 0 0 ∧ hs = []) ∨
  ∃ g cap cur, vh = .slice (some ⟨g, 0, none⟩) hs.length cap ∧ B ≤ g ∧ w.heap[g]? = some (.cells cur 148 (0, 0)) ∧ hs.length ≤ cap ∧ cap ≤ maxLen ∧ cap * 3 ≤ cur.size ∧ cur.toList.take (hs.length * 3) = hs.flatMap hCells
theorem HRow.kept {w w' : World} {B : Nat} {vh : Value} {hs : List (Nat × Nat × UInt8)} (h : HRow w B vh hs) (hk : ∀ (b : Nat) (cs : Array Value) (fr : Nat × Nat), B ≤ b → w.heap[b]? = some (.cells cs 148 fr) → w'.heap[b]? = w.heap[b]?) : HRow w' B vh hs := by
  rcases h with h | ⟨g, cap, cur, h1, h2, h3, r⟩
  · exact .inl h
  · exact .inr ⟨g, cap, cur, h1, h2, (hk g _ _ h2 h3).trans h3, r⟩
theorem HRow.below {w w' : World} {B N : Nat} {vh : Value} {hs : List (Nat × Nat × UInt8)} (h : HRow w B vh hs) (hb : Below N w w') (hN : w.heap.size ≤ N) : HRow w' B vh hs :=
  h.kept fun b _ _ _ hr => hb.block b (Nat.lt_of_lt_of_le (Array.getElem?_eq_some_iff.1 hr).1 hN)
theorem HRow.only3 {w w' : World} {B bd bp bm : Nat} {vh : Value} {hs : List (Nat × Nat × UInt8)} {C : Cn} (h : HRow w B vh hs) (hD : DiskAt w bd bp bm C) (ho : Only3 bd bp bm w w') : HRow w' B vh hs :=
  h.kept fun b cs fr _ hb => by
    refine ho.block b (Array.getElem?_eq_some_iff.1 hb).1 ?_ ?_ ?_
    · rintro rfl; rw [hD.d] at hb; simp at hb
    · rintro rfl; rw [hD.p] at hb; simp at hb
    · rintro rfl; obtain ⟨es, ck, hm, _⟩ := hD.m; rw [hm] at hb; cases hb
theorem HRow.form {w : World} {B : Nat} {vh : Value} {hs : List (Nat × Nat × UInt8)} (h : HRow w B vh hs) : ∃ A c, vh = .slice A hs.length c ∧ hs.length ≤ maxLen := by
  rcases h with ⟨rfl, rfl⟩ | ⟨g, cap, cur, rfl, _, _, h1, h2, _⟩
  · exact ⟨none, 0, rfl, Nat.zero_le _⟩
  · exact ⟨_, _, rfl, Nat.le_trans h1 h2⟩
theorem HRow.of_own {w : World} {B B' : Nat} {v : Value} {n : Nat} {hs : List (Nat × Nat × UInt8)} (h : w.ownsRow B' 148 3 v n (hs.flatMap hCells)) (hB : B ≤ B') : HRow w B v hs := by
  have hl := h.1
  rw [hCells_length] at hl
  have hn : n = hs.length := by omega
  subst hn
  rcases h.2 with ⟨h1, h0⟩ | ⟨g, cap, cur, h1, h2, h3, h4, h5, h6, h7⟩
  · exact .inl ⟨h1, List.length_eq_zero_iff.1 h0⟩
  · exact .inr ⟨g, cap, cur, h1, Nat.le_trans hB h2, h3, h4, h5, by rw [h6]; exact Nat.le_refl _, h7⟩
/-- what a list of damages says -/
def lookH (hs : List (Nat × Nat × UInt8)) (q : Nat) : Option (Nat × UInt8) := (hs.find? fun x => decide (x.1 = q)).map (·.2)
/-- the reference's disk -/
structure RAt (w : World) (B eb : Nat) (A : AD) (hs : List (Nat × Nat × UInt8)) (ve vi vh : Value) (ps : List (EA × Value)) : Prop where
  d : w.heap[eb]? = some (.cells #[.int .i64 A.n, .int .i64 A.fuse, .bool A.down, ve, vi, vh] 115 (0, 0))
  lo : B ≤ eb
  es : REnts w ve ps
  eq : eas ps = A.es
  ix : TRd w 3 vi A.index.length (ivs A.index)
  hu : HRow w B vh hs
  nd : hs.Pairwise fun x y => x.1 ≠ y.1
  eqh : A.hurts = lookH hs
/-- the reference's disk, however it lies, with at most so many damages -/
def RIs (w : World) (B eb : Nat) (A : AD) (m : Nat) : Prop := ∃ hs ve vi vh ps, RAt w B eb A hs ve vi vh ps ∧ hs.length ≤ m
section
variable {w w' : World} {B eb : Nat} {A : AD} {hs : List (Nat × Nat × UInt8)} {ve vi vh : Value} {ps : List (EA × Value)}
theorem PgsAt.only (h : PgsAt w ps) (ho : OnlyR B w w') : PgsAt w' ps := fun p hp => (h p hp).only ho (by decide) (by decide)
theorem PgsAt.below {N : Nat} (h : PgsAt w ps) (hb : Below N w w') (hN : w.heap.size ≤ N) : PgsAt w' ps := fun p hp => (h p hp).below hb hN
theorem REnts.only {v : Value} (h : REnts w v ps) (ho : OnlyR B w w') : REnts w' v ps := ⟨h.1.only ho (by decide) (by decide), h.2.only ho⟩
theorem REnts.below {N : Nat} {v : Value} (h : REnts w v ps) (hb : Below N w w') (hN : w.heap.size ≤ N) : REnts w' v ps := ⟨h.1.below hb hN, h.2.below hb hN⟩
theorem REnts.cells {v : Value} (h : REnts w v ps) {k : Nat} (hk : k < ps.length) : ∃ b off c, v = .slice (some ⟨b, off, none⟩) ps.length c ∧
    w.cell? ⟨b, off + k * 3, none⟩ = some (.string ps[k].1.name) ∧ w.cell? ⟨b, off + k * 3 + 1, none⟩ = some (.string ps[k].1.value) ∧ w.cell? ⟨b, off + k * 3 + 2, none⟩ = some ps[k].2 := by
  obtain ⟨A, c, rfl, _, _, hc⟩ := h.1.rd
  have hl := reCells_length ps
  obtain ⟨b, off, rfl, _⟩ := hc 0 (by omega)
  obtain ⟨f0, f1, f2⟩ := rflat3 ps k hk
  have hat : ∀ j u, (ps.flatMap reCells)[j]? = some u → w.cell? ⟨b, off + j, none⟩ = some u := fun j u hu => by
    obtain ⟨hj, rfl⟩ := List.getElem?_eq_some_iff.1 hu
    obtain ⟨b2, o2, he, hcell⟩ := hc j hj
    cases he
    exact hcell
  exact ⟨b, off, c, rfl, hat _ _ f0, by rw [Nat.add_assoc]; exact hat _ _ f1, by rw [Nat.add_assoc]; exact hat _ _ f2⟩
theorem RAt.below {N : Nat} (h : RAt w B eb A hs ve vi vh ps) (hb : Below N w w') (hN : w.heap.size ≤ N) : RAt w' B eb A hs ve vi vh ps :=
  ⟨(hb.block eb (Nat.lt_of_lt_of_le (Array.getElem?_eq_some_iff.1 h.d).1 hN)).trans h.d, h.lo, h.es.below hb hN, h.eq, h.ix.below hb hN, h.hu.below hb hN, h.nd, h.eqh⟩
theorem RIs.below {N m : Nat} (h : RIs w B eb A m) (hb : Below N w w') (hN : w.heap.size ≤ N) : RIs w' B eb A m := by
  obtain ⟨hs, ve, vi, vh, ps, h, hm⟩ := h
  exact ⟨_, _, _, _, _, h.below hb hN, hm⟩
theorem RIs.mono {m m' : Nat} (h : RIs w B eb A m) (hm : m ≤ m') : RIs w B eb A m' := by
  obtain ⟨hs, ve, vi, vh, ps, h, h2⟩ := h
  exact ⟨_, _, _, _, _, h, Nat.le_trans h2 hm⟩
theorem RIs.only3 {bd bp bm m : Nat} {C : Cn} (h : RIs w B eb A m) (hD : DiskAt w bd bp bm C) (ho : Only3 bd bp bm w w') : RIs w' B eb A m := by
  obtain ⟨hs, ve, vi, vh, ps, h, hm⟩ := h
  refine ⟨hs, ve, vi, vh, ps, ⟨?_, h.lo, ⟨h.es.1.only3 hD ho (by decide) (by decide), fun p hp => (h.es.2 p hp).only3 hD ho (by decide) (by decide)⟩, h.eq, h.ix.only3 hD ho (by decide) (by decide), h.hu.only3 hD ho, h.nd, h.eqh⟩, hm⟩
  refine (ho.block eb (Array.getElem?_eq_some_iff.1 h.d).1 ?_ ?_ ?_).trans h.d
  · rintro rfl; have := h.d; rw [hD.d] at this; simp at this
  · rintro rfl; have := h.d; rw [hD.p] at this; simp at this
  · rintro rfl; obtain ⟨es, ck, hm, _⟩ := hD.m; have := h.d; rw [hm] at this; cases this
/-- cells of the disk -/
theorem RAt.c (h : RAt w B eb A hs ve vi vh ps) : w.cell? ⟨eb, 0, none⟩ = some (.int .i64 A.n) ∧ w.cell? ⟨eb, 1, none⟩ = some (.int .i64 A.fuse) ∧ w.cell? ⟨eb, 2, none⟩ = some (.bool A.down) ∧ w.cell? ⟨eb, 3, none⟩ = some ve ∧ w.cell? ⟨eb, 4, none⟩ = some vi ∧ w.cell? ⟨eb, 5, none⟩ = some vh := by
  refine ⟨?_, ?_, ?_, ?_, ?_, ?_⟩ <;> (rw [cell_of_row _ _ _ _ _ _ h.d]; rfl)
theorem RAt.hcells (h : RAt w B eb A hs ve vi vh ps) {k : Nat} (hk : k < hs.length) : ∃ b c, vh = .slice (some ⟨b, 0, none⟩) hs.length c ∧
    w.cell? ⟨b, k * 3, none⟩ = some (.int .i64 hs[k].1) ∧ w.cell? ⟨b, k * 3 + 1, none⟩ = some (.int .i64 hs[k].2.1) ∧ w.cell? ⟨b, k * 3 + 2, none⟩ = some (bv hs[k].2.2) := by
  have hl := hCells_length hs
  obtain ⟨f0, f1, f2⟩ := hflat3 hs k hk
  rcases h.hu with ⟨_, h0⟩ | ⟨g, cap, cur, rfl, _, hg, hnc, hcm, hcs, ht⟩
  · rw [h0] at hk; cases hk
  · have hat : ∀ j u, (hs.flatMap hCells)[j]? = some u → w.cell? ⟨g, j, none⟩ = some u := fun j u hu => by
      obtain ⟨hj, rfl⟩ := List.getElem?_eq_some_iff.1 hu
      rw [cell_of_row _ _ _ _ _ _ hg]
      have hj2 := hj
      rw [← ht] at hj2
      simp only [List.length_take, Array.length_toList] at hj2
      simp only [← ht, List.getElem_take, Array.getElem_toList]
      exact Array.getElem?_eq_getElem (show j < cur.size by omega)
    exact ⟨g, cap, rfl, hat _ _ f0, hat _ _ f1, hat _ _ f2⟩
end
end Go.Proofs.Ytcgapfmdpchemaa
/- The walks of the reference's small functions: find, any, state, rooms, Down, Fail, Restart, NewDisk, Open. -/
namespace Go.Proofs.Ytcgapfmdpchemaa
open Go.RowKit
theorem below_drewN (w : World) (n : Nat) : Below w.heap.size w (w.drewN n) := ⟨rfl, rfl, rfl, Nat.le_refl _, fun _ _ => rfl⟩
/-- Fail, whatever the number -/
def AD.failA (A : AD) (n : Int) : Nat × AD := if n < 0 then (2, A) else (0, { A with fuse := n })
/-- what find finds -/
def FindR (hs : List (Nat × Nat × UInt8)) (q : Nat) (z : Int) : Prop := (∃ i : Nat, ∃ h : i < hs.length, z = i ∧ hs[i].1 = q) ∨ (z = -1 ∧ ∀ x ∈ hs, x.1 ≠ q)
theorem lookH_none {hs : List (Nat × Nat × UInt8)} {q : Nat} (h : ∀ x ∈ hs, x.1 ≠ q) : lookH hs q = none := by
  unfold lookH
  rw [List.find?_eq_none.2 fun x hx => by simpa using h x hx]
  rfl
theorem lookH_at {hs : List (Nat × Nat × UInt8)} (hn : hs.Pairwise fun x y => x.1 ≠ y.1) {q i : Nat} (hi : i < hs.length) (h : hs[i].1 = q) : lookH hs q = some hs[i].2 := by
  unfold lookH
  cases hf : hs.find? fun x => decide (x.1 = q) with
  | none =>
    have := List.find?_eq_none.1 hf hs[i] (List.getElem_mem hi)
    simp [h] at this
  | some y =>
    have hy := List.mem_of_find?_eq_some hf
    have hyq : y.1 = q := by have := List.find?_some hf; simpa using this
    obtain ⟨j, hj, rfl⟩ := List.getElem_of_mem hy
    rcases Nat.lt_trichotomy j i with hlt | rfl | hgt
    · exact absurd (hyq.trans h.symm) (List.pairwise_iff_getElem.1 hn j i hj hi hlt)
    · rfl
    · exact absurd (h.trans hyq.symm) (List.pairwise_iff_getElem.1 hn i j hi hj hgt)
theorem FindR.some {hs : List (Nat × Nat × UInt8)} (hn : hs.Pairwise fun x y => x.1 ≠ y.1) {q : Nat} {z : Int} (h : FindR hs q z) : (0 ≤ z) ↔ (lookH hs q).isSome = true := by
  rcases h with ⟨i, hi, rfl, hq⟩ | ⟨rfl, hno⟩
  · rw [lookH_at hn hi hq]; simp
  · rw [lookH_none hno]; simp
section
variable {B eb m : Nat} {A : AD} {hs : List (Nat × Nat × UInt8)} {ve vi vh : Value} {ps : List (EA × Value)}
set_option maxRecDepth 1000000 in
set_option maxHeartbeats 1000000 in
theorem rfind_any (w : World) (h : RAt w B eb A hs ve vi vh ps) (q : Nat) : Calls Try.prog 74 #[.pointer (some ⟨eb, 0, none⟩), .int .i64 q] w fun e w' => (∃ z : Int, e = .returned (.int .i64 z) ∧ FindR hs q z) ∧ w = w' := by
  obtain ⟨-, -, -, -, -, c5⟩ := h.c
  obtain ⟨A', c', hv, hcm⟩ := h.hu.form
  subst hv
  have hl63 : hs.length ≤ 9223372036854775807 := by unfold maxLen at hcm; omega
  have H := Lib.hid h; clear h hcm
  go_enter Try.func74, Try.ntmps74
  go_wp2
  go_loopw [5] (fun i wr => ∃ k : Nat, k ≤ hs.length ∧ i = .int .i64 k ∧ wr = w ∧ Hid (∀ j, (h : j < hs.length) → j < k → hs[j].1 ≠ q)) (fun i _ => hs.length - (intOf i).toNat)
  case atStart => exact ⟨0, by omega, rfl, rfl, Lib.hid fun j _ hj => by omega⟩
  case round =>
    obtain ⟨k, hk, rfl, rfl, HB⟩ := hrel
    by_cases hlt : k < hs.length
    · have hki : (k : Int) < (hs.length : Int) := by omega
      obtain ⟨b, c2, he, h0, -, -⟩ := H.out.hcells hlt
      cases he
      have HNX : Hid (hs[k].1 ≠ q → ∀ j, (h : j < hs.length) → j < k + 1 → hs[j].1 ≠ q) := Lib.hid fun h1 j hj hjk => by
        rcases Nat.lt_succ_iff_lt_or_eq.1 hjk with hlt | rfl
        · exact HB.out j hj hlt
        · exact h1
      have HY : Hid (hs[k].1 = q → FindR hs q k) := Lib.hid fun h1 => .inl ⟨k, hlt, rfl, h1⟩
      clear HB
      generalize hs[k].1 = p at *
      by_cases hpq : p = q
      · have hpb : ((p : Int) == (q : Int)) = true := by rw [hpq]; exact beq_self_eq_true _
        have HF := Lib.hid (HY.out hpq)
        clear HNX HY hpq
        go_wp2
        go_ret
        exact ⟨⟨_, rfl, HF.out⟩, rfl⟩
      · have hpb : ((p : Int) == (q : Int)) = false := by rw [beq_eq_false_iff_ne]; omega
        have HN := Lib.hid (HNX.out hpq)
        clear HNX HY hpq
        go_wp2
        go_roundw
        case rel => exact ⟨k + 1, by omega, by go_num, trivial, HN⟩
        case measure => simp [intOf]; omega
    · obtain rfl : k = hs.length := by omega
      have HF : Hid (FindR hs q (-1)) := Lib.hid (.inr ⟨rfl, fun x hx => by
        obtain ⟨j, hj, rfl⟩ := List.getElem_of_mem hx
        exact HB.out j hj hj⟩)
      go_wp2
      go_ret
      exact ⟨⟨_, rfl, HF.out⟩, rfl⟩
set_option maxRecDepth 1000000 in
set_option maxHeartbeats 1000000 in
theorem rany_any (w : World) (h : RAt w B eb A hs ve vi vh ps) (v : Value) (l : List Nat) (hv : Rd w v l.length (ivs l)) : Calls Try.prog 71 #[.pointer (some ⟨eb, 0, none⟩), v] w fun e w' => e = .returned (.bool (!(A.ok l))) ∧ w = w' := by
  obtain ⟨A', c', rfl, hnc, hcm, hcc⟩ := hv
  have hl63 : l.length ≤ 9223372036854775807 := by unfold maxLen at hcm; omega
  have H := Lib.hid h; have HC := Lib.hid hcc; clear h hcm hcc
  go_enter Try.func71, Try.ntmps71
  go_wp2
  go_loopw [5] (fun i wr => ∃ k : Nat, k ≤ l.length ∧ i = .int .i64 k ∧ wr = w ∧ Hid (A.ok (l.take k) = true)) (fun i _ => l.length - (intOf i).toNat)
  case atStart => exact ⟨0, by omega, rfl, rfl, Lib.hid rfl⟩
  case round =>
    obtain ⟨k, hk, rfl, rfl, HB⟩ := hrel
    by_cases hlt : k < l.length
    · have hki : (k : Int) < (l.length : Int) := by omega
      obtain ⟨b, off, rfl, h0⟩ := HC.out k (by rw [ivs_length]; exact hlt)
      simp only [ivs, List.getElem_map, iv] at h0
      have HT : Hid (A.ok (l.take (k + 1)) = (A.hurts l[k]).isNone) := Lib.hid (by
        rw [List.take_succ_eq_append_getElem hlt]
        unfold AD.ok at *
        rw [List.all_append, HB.out]
        simp)
      have HL : Hid ((A.hurts l[k]).isNone = false → A.ok l = false) := Lib.hid fun hz => by
        rw [Bool.eq_false_iff]
        intro hk'
        have := List.all_eq_true.1 hk' l[k] (List.getElem_mem hlt)
        rw [hz] at this; cases this
      generalize l[k] = p at *
      go_wp2_with fail
      refine (rfind_any wr H.out p).mono ?_
      rintro e w1 ⟨⟨z, rfl, hz⟩, rfl⟩
      have hs1 := hz.some H.out.nd
      rw [← H.out.eqh] at hs1
      by_cases hz0 : 0 ≤ z
      · have hn : A.ok l = false := HL.out (by have := hs1.1 hz0; cases hh : A.hurts p <;> simp_all)
        have HN := Lib.hid hn
        clear hz hs1 hn
        go_wp2
        go_ret
        exact ⟨by rw [HN.out]; rfl, rfl⟩
      · have hn : (A.hurts p).isNone = true := by
          cases hh : A.hurts p with
          | none => rfl
          | some x => rw [hh] at hs1; exact absurd (hs1.2 rfl) hz0
        have HN := Lib.hid (HT.out.trans hn)
        clear hz hs1 hn
        go_wp2
        go_roundw
        case rel => exact ⟨k + 1, by omega, by go_num, trivial, HN⟩
        case measure => simp [intOf]; omega
    · obtain rfl : k = l.length := by omega
      have HN := Lib.hid HB.out
      rw [List.take_length] at HN
      go_wp2
      go_ret
      exact ⟨by rw [HN.out]; rfl, rfl⟩
theorem OnlyR.set {w : World} {cs : Array Value} {fr : Nat × Nat} {k t : Nat} (hk : w.heap[k]? = some (.cells cs t fr)) (ht : t = 115 ∨ t = 148) (hB : B ≤ k) (j : Nat) (v : Value) : OnlyR B w (w.setCell ⟨k, j, none⟩ v) :=
  ⟨rfl, rfl, rfl, by simp [World.setCell], fun i _ hi => heap_setCell_other w ⟨k, j, none⟩ i v (by
    rintro rfl
    rcases hi with hi | hi
    · exact absurd hi (Nat.not_lt.2 hB)
    · have := hi _ _ _ hk
      rcases ht with rfl | rfl
      · exact this.1 rfl
      · exact this.2 rfl)⟩
/-- the damages' row stays where another block is turned -/
theorem HRow.set {w : World} {v : Value} (h : HRow w B v hs) {cs : Array Value} {fr : Nat × Nat} {k t : Nat} (hk : w.heap[k]? = some (.cells cs t fr)) (ht : t ≠ 148) (j : Nat) (u : Value) : HRow (w.setCell ⟨k, j, none⟩ u) B v hs :=
  h.kept fun b cs' fr' _ hb => heap_setCell_other w ⟨k, j, none⟩ b u (by
    rintro rfl
    rw [hk] at hb
    simp only [Option.some.injEq, Obj.cells.injEq] at hb
    exact ht hb.2.1)
/-- a disk of which the fuse, the power or the damages are turned -/
theorem RAt.turn {w w' : World} (h : RAt w B eb A hs ve vi vh ps) (ho : OnlyR B w w') {A' : AD} {hs' : List (Nat × Nat × UInt8)} {vh' : Value} (hes : A'.es = A.es) (hix : A'.index = A.index)
    (hd : w'.heap[eb]? = some (.cells #[.int .i64 A'.n, .int .i64 A'.fuse, .bool A'.down, ve, vi, vh'] 115 (0, 0))) (hu : HRow w' B vh' hs') (nd : hs'.Pairwise fun x y => x.1 ≠ y.1) (eqh : A'.hurts = lookH hs') : RAt w' B eb A' hs' ve vi vh' ps :=
  ⟨hd, h.lo, h.es.only ho, by rw [h.eq, hes], by rw [hix]; exact h.ix.only ho (by decide) (by decide), hu, nd, eqh⟩
theorem RAt.setFuse {w : World} (h : RAt w B eb A hs ve vi vh ps) (n : Int) : RAt (w.setCell ⟨eb, 1, none⟩ (.int .i64 n)) B eb { A with fuse := n } hs ve vi vh ps ∧ OnlyR B w (w.setCell ⟨eb, 1, none⟩ (.int .i64 n)) := by
  have ho := OnlyR.set (B := B) h.d (.inl rfl) h.lo 1 (.int .i64 n)
  exact ⟨h.turn ho (A' := { A with fuse := n }) rfl rfl (by rw [heap_setCell_same w eb 1 _ 115 _ h.d]; rfl) (h.hu.set h.d (by decide) 1 _) h.nd h.eqh, ho⟩
theorem RAt.setDown {w : World} (h : RAt w B eb A hs ve vi vh ps) (b : Bool) : RAt (w.setCell ⟨eb, 2, none⟩ (.bool b)) B eb { A with down := b } hs ve vi vh ps ∧ OnlyR B w (w.setCell ⟨eb, 2, none⟩ (.bool b)) := by
  have ho := OnlyR.set (B := B) h.d (.inl rfl) h.lo 2 (.bool b)
  exact ⟨h.turn ho (A' := { A with down := b }) rfl rfl (by rw [heap_setCell_same w eb 2 _ 115 _ h.d]; rfl) (h.hu.set h.d (by decide) 2 _) h.nd h.eqh, ho⟩
theorem RAt.fz {w : World} (h : RAt w B eb A hs ve vi vh ps) (j : Nat) : w.frozen? ⟨eb, j, none⟩ = false := frozen_of_row _ _ _ _ _ h.d
set_option maxHeartbeats 400000 in
theorem rfail_any (w : World) (h : RIs w B eb A m) (n : Int) : Calls Try.prog 52 #[.pointer (some ⟨eb, 0, none⟩), .int .i64 n] w fun e w' => e = .returned (.int .i64 (A.failA n).1) ∧ RIs w' B eb (A.failA n).2 m ∧ OnlyR B w w' := by
  obtain ⟨hs, ve, vi, vh, ps, hr, hm⟩ := h
  have h1 := hr.c.2.1
  have hf := hr.fz 1
  by_cases hn : n < 0
  · have HF := Lib.hid (show A.failA n = (2, A) by unfold AD.failA; rw [if_pos hn])
    go_enter Try.func52, Try.ntmps52
    go_wp2
    go_ret
    rw [HF.out]
    exact ⟨rfl, ⟨_, _, _, _, _, hr, hm⟩, OnlyR.refl _ _⟩
  · have HF := Lib.hid (show A.failA n = (0, { A with fuse := n }) by unfold AD.failA; rw [if_neg hn])
    go_enter Try.func52, Try.ntmps52
    go_wp2
    go_ret
    rw [HF.out]
    exact ⟨rfl, ⟨_, _, _, _, _, (hr.setFuse n).1, hm⟩, (hr.setFuse n).2⟩
set_option maxHeartbeats 400000 in
theorem rrestart_any (w : World) (h : RIs w B eb A m) : Calls Try.prog 53 #[.pointer (some ⟨eb, 0, none⟩)] w fun e w' => e = .returned (.int .i64 0) ∧ RIs w' B eb { A with fuse := -1, down := false } m ∧ OnlyR B w w' := by
  obtain ⟨hs, ve, vi, vh, ps, hr, hm⟩ := h
  have h1 := hr.c.2.1
  have h2 := hr.c.2.2.1
  have hf := hr.fz 1
  have hf2 := hr.fz 2
  go_enter Try.func53, Try.ntmps53
  go_wp2
  go_ret
  exact ⟨rfl, ⟨_, _, _, _, _, ((hr.setDown false).1.setFuse (-1)).1, hm⟩, (hr.setDown false).2.trans ((hr.setDown false).1.setFuse (-1)).2⟩
set_option maxHeartbeats 400000 in
theorem rdown_any (w : World) (h : RIs w B eb A m) : Calls Try.prog 27 #[.pointer (some ⟨eb, 0, none⟩)] w fun e w' => e = .returned (.bool A.down) ∧ w = w' := by
  obtain ⟨hs, ve, vi, vh, ps, hr, hm⟩ := h
  have h2 := hr.c.2.2.1
  go_enter Try.func27, Try.ntmps27
  go_wp2
  go_ret
  exact ⟨rfl, rfl⟩
set_option maxHeartbeats 400000 in
theorem rrooms_any (n : Nat) (hn : n < 1000000000) (w : World) : Calls Try.prog 77 #[.int .i64 n] w fun e w' => e = .returned (.int .i64 (parts n : Nat)) ∧ w = w' := by
  have HE := Lib.hid (show ((n : Int) + 248 - 1) / 248 = ((parts n : Nat) : Int) by unfold parts; omega)
  go_enter Try.func77, Try.ntmps77
  go_wp2
  go_ret
  exact ⟨by rw [← HE.out]; rfl, rfl⟩
/-- an open store of the reference -/
def RSt (w : World) (et eb : Nat) : Prop := w.heap[et]? = some (.cells #[.pointer (some ⟨eb, 0, none⟩)] 117 (0, 0))
theorem RSt.c {w : World} {et : Nat} (h : RSt w et eb) : w.cell? ⟨et, 0, none⟩ = some (.pointer (some ⟨eb, 0, none⟩)) := by rw [cell_of_row _ _ _ _ _ _ h]; rfl
theorem RSt.only {w w' : World} {et : Nat} (h : RSt w et eb) (ho : OnlyR B w w') : RSt w' et eb := ho.row h (by decide) (by decide)
theorem RSt.below {w w' : World} {et N : Nat} (h : RSt w et eb) (hb : Below N w w') (hN : w.heap.size ≤ N) : RSt w' et eb := (hb.block _ (Nat.lt_of_lt_of_le (Array.getElem?_eq_some_iff.1 h).1 hN)).trans h
set_option maxRecDepth 1000000 in
set_option maxHeartbeats 1000000 in
theorem rstate_any {et : Nat} (w : World) (hs' : RSt w et eb) (h : RIs w B eb A m) (e0 : Nat) : Calls Try.prog 46 #[.pointer (some ⟨et, 0, none⟩), .int .i64 e0] w fun e w' => e = .returned (.int .i64 (A.state e0)) ∧ Below w.heap.size w w' := by
  obtain ⟨hs, ve, vi, vh, ps, hr, hm⟩ := h
  have h2 := hr.c.2.2.1
  have h4 := hr.c.2.2.2.2.1
  have hc := hs'.c
  obtain ⟨hst1, hst2, hst3⟩ : (A.down = true → A.state e0 = 9) ∧ (A.down = false → e0 ≠ 0 → A.state e0 = e0) ∧ (A.down = false → e0 = 0 → A.state e0 = if A.ok A.index then 0 else 370) := by
    unfold AD.state
    refine ⟨fun h => by rw [if_pos h], fun h g => by rw [if_neg (by simp [h]), if_pos g], fun h g => by rw [if_neg (by simp [h]), if_neg (by simp [g])]⟩
  have T1 := Lib.hid hst1; have T2 := Lib.hid hst2; have T3 := Lib.hid hst3
  clear hst1 hst2 hst3
  have HR := Lib.hid hr; clear hr hs'
  generalize hdn : A.down = d at *
  have HDN := Lib.hid hdn; clear hdn
  cases d
  · by_cases he : e0 = 0
    · subst he
      obtain ⟨A', c', hv, -⟩ := HR.out.ix
      subst hv
      have U := Lib.hid (T3.out rfl rfl)
      clear T1 T2 T3
      go_enter Try.func46, Try.ntmps46
      go_wp2
      go_quiet ((go_at_call 71; refine Calls.quiet_of_same ((rany_any _ (HR.out.below (below_drewN w _) (Nat.le_refl _)) _ A.index (HR.out.ix.below (below_drewN w _) (Nat.le_refl _)).rd).mono fun _ _ h => ⟨h.1, h.2.symm⟩)))
      all_goals
        cases hA : A.ok A.index
        · go_wp2
          go_ret
          exact ⟨by rw [U.out, hA]; rfl, below_drewN w _⟩
        · go_wp2
          go_ret
          exact ⟨by rw [U.out, hA]; rfl, below_drewN w _⟩
    · have hei : ((e0 : Int) == 0) = false := by rw [beq_eq_false_iff_ne]; omega
      have U := Lib.hid (T2.out rfl he)
      clear T1 T2 T3
      go_enter Try.func46, Try.ntmps46
      go_wp2
      go_quiet (fail)
      all_goals
        go_wp2
        go_ret
        exact ⟨by rw [U.out]; rfl, below_drewN w _⟩
  · have U := Lib.hid (T1.out rfl)
    clear T1 T2 T3
    go_enter Try.func46, Try.ntmps46
    go_wp2
    go_ret
    exact ⟨by rw [U.out]; rfl, Below.refl _ _⟩
end
end Go.Proofs.Ytcgapfmdpchemaa
/- The walks of the reference's heal, Damage and write. -/
namespace Go.Proofs.Ytcgapfmdpchemaa
open Go.RowKit
theorem info148 : (Try.prog.info? 148).map (fun i => (i.zero, i.size, i.bytes)) = some (some (.agg #[.int .i64 0, .int .i64 0, .int .u8 0]), 3, 24) := by kernel_rfl
theorem el113 : El 113 148 (.agg #[.int .i64 0, .int .i64 0, .int .u8 0]) 3 24 := ⟨Try.underlying113, info148, rfl, by decide, by decide⟩
theorem size148 : (Try.prog.info? 148).map (·.size) = some 3 := by kernel_rfl
theorem hCells_one (hs : List (Nat × Nat × UInt8)) : ∀ u ∈ hs.flatMap hCells, u.oneCell' = true := fun u hu => by
  obtain ⟨x, _, hx⟩ := List.mem_flatMap.1 hu
  simp only [hCells, List.mem_cons, List.not_mem_nil, or_false] at hx
  rcases hx with rfl | rfl | rfl <;> rfl
section
variable {B : Nat} {w w' : World} {v : Value} {hs hs1 hs2 : List (Nat × Nat × UInt8)}
theorem HRow.grown (h : HRow w B v hs) (hg : w.grownBy w' v.ownBlock) : OnlyR B w w' :=
  ⟨hg.os, hg.tape, hg.output, hg.size, fun k hk hc => hg.block k hk (by
    rcases h with ⟨rfl, _⟩ | ⟨g, cap, cur, rfl, h2, h3, _⟩
    · intro h; cases h
    · intro h
      simp only [Value.ownBlock, Option.some.injEq] at h
      subst h
      rcases hc with hc | hc
      · omega
      · exact (hc _ _ _ h3).2 rfl)⟩
theorem run_app_h (ty : TypeId) (h : HRow w B v hs1) {vx : Value} (hx : Rd w vx hs2.length (hs2.flatMap hCells)) (hn : hs1.length + hs2.length ≤ 100000) (hB : B ≤ w.heap.size) :
    ∃ v' w', (Builtin.append_ #[113, 113] ty #[v, vx]).run Try.prog w = .ok v' w' ∧ HRow w' B v' (hs1 ++ hs2) ∧ w.grownBy w' v.ownBlock := by
  obtain ⟨i0, hi, hz0, hz1, hz2⟩ := info_parts info148
  obtain ⟨ad, c, rfl, _, _, hc⟩ := hx
  by_cases h0 : hs2 = []
  · subst h0
    refine ⟨v, w, ?_, by simpa using h, ⟨rfl, rfl, rfl, Nat.le_refl _, fun _ _ _ => rfl⟩⟩
    rcases h with ⟨rfl, _⟩ | ⟨g, cap, cur, rfl, _, _, hnc, _⟩
    · cases ad <;> simp [Builtin.append_, run_underlying Try.underlying113, sizeOf, typeInfo, hi, Builtin.lenOf, Builtin.firstCells, loadCells, loadCellsFrom]
    · cases ad <;> simp [Builtin.append_, run_underlying Try.underlying113, sizeOf, typeInfo, hi, Builtin.lenOf, Builtin.firstCells, loadCells, loadCellsFrom, hnc, storeCells]
  · have hpos : 0 < hs2.length := List.length_pos_iff.2 h0
    have hl2 := hCells_length hs2
    obtain ⟨b, off, rfl, _⟩ := hc 0 (by omega)
    have hnews : ∀ j u, (hs2.flatMap hCells)[j]? = some u → w.cell? ((⟨b, off, none⟩ : Addr).add j) = some u := fun j u hu => by
      rw [List.getElem?_eq_some_iff] at hu
      obtain ⟨hj, rfl⟩ := hu
      obtain ⟨b2, o2, he, hcc⟩ := hc j hj
      cases he
      rw [Addr.add_lit]
      exact hcc
    rcases h with ⟨rfl, rfl⟩ | ⟨g, cap, cur, rfl, hg1, hg, hnc, hcm, hcs, ht⟩
    · obtain ⟨g, cap, w', hr, hown, hgr, _, _⟩ := run_append_lies (P := Try.prog) w 113 ty B 148 i0 _ 3 24 Try.underlying113 hi hz0 hz1 hz2 rfl (by decide) (.slice none 0 0) 0 [] (World.ownsRow_nil w B 148 3) ⟨b, off, none⟩ hs2.length c (hs2.flatMap hCells) hl2 hnews (hCells_one _) hpos (by unfold maxLen; simp at hn; omega) (by simp at hn; omega) hB _ rfl
      exact ⟨_, w', hr, HRow.of_own (by simpa using hown) (Nat.le_refl _), hgr⟩
    · by_cases hroom : hs1.length + hs2.length ≤ cap
      · have hlt : ∀ j, j < (hs2.flatMap hCells).length → hs1.length * 3 + j < cur.size := fun j hj => by omega
        have hrun := run_append_room_cells (P := Try.prog) w 113 ty 148 i0 Try.underlying113 hi g 0 hs1.length cap ⟨b, off, none⟩ hs2.length c (hs2.flatMap hCells) (by rw [hz1]; exact hl2) hnews (hCells_one _) hroom
          (fun j hj => by rw [hz1, Nat.zero_add, cell_of_row _ _ _ _ _ _ hg, Array.getElem?_eq_getElem (hlt j hj)]; rfl) (fun j hj => frozen_of_row _ _ _ _ _ hg)
        rw [hz1, Nat.zero_add] at hrun
        have hcl : cur.toList.length = cur.size := by simp
        have hcur : cur = cur.toList.toArray := by simp
        rw [hcur] at hg
        obtain ⟨hrow, hO⟩ := setCells_row g 148 (hs2.flatMap hCells) (hs1.length * 3) cur.toList w hg (by rw [hcl]; omega)
        refine ⟨_, _, hrun, .inr ⟨g, cap, _, by rw [List.length_append], hg1, hrow, by rw [List.length_append]; exact hroom, hcm, ?_, ?_⟩, ⟨hO.os, hO.tape, hO.output, by rw [hO.size]; exact Nat.le_refl _, fun k _ hk => hO.block k (fun e => hk (by rw [e]; rfl))⟩⟩
        · rw [List.size_toArray, splV_length _ _ _ (by rw [hcl]; omega), hcl]; exact hcs
        · rw [List.flatMap_append, ← ht]
          show (splV cur.toList (hs1.length * 3) (hs2.flatMap hCells)).take _ = _
          unfold splV
          rw [List.take_left' (by rw [List.length_append, List.length_take, hcl, hl2, List.length_append, Nat.add_mul, Nat.min_eq_left (by omega)]), ht]
      · have hlo : (hs1.flatMap hCells).length = hs1.length * 3 := hCells_length hs1
        have holds : ∀ j u, (hs1.flatMap hCells)[j]? = some u → w.cell? ((⟨g, 0, none⟩ : Addr).add j) = some u := fun j u hu => by
          rw [Addr.add_lit, Nat.zero_add, cell_of_row _ _ _ _ _ _ hg]
          rw [← ht, List.getElem?_take] at hu
          split at hu
          · rw [← Array.getElem?_toList]; exact hu
          · cases hu
        obtain ⟨v', w', hr, hown, hgr⟩ := run_append_arg_grows (P := Try.prog) w 113 ty 148 i0 _ 3 24 Try.underlying113 hi hz0 hz1 hz2 rfl (by decide) ⟨g, 0, none⟩ hs1.length cap (hs1.flatMap hCells) hlo holds ⟨b, off, none⟩ hs2.length c (hs2.flatMap hCells) hl2 hnews (by omega) (by unfold maxLen; omega) (by omega)
        refine ⟨v', w', hr, HRow.of_own (by rw [List.flatMap_append]; exact hown) hB, ⟨hgr.os, hgr.tape, hgr.output, hgr.size, fun k hk _ => hgr.block k hk (by simp)⟩⟩
theorem op_app_h {o : Oper} {a : Act} {Q : Exit → Act → World → Prop} {K : Act → World → Prop} (s x : Operand)
    (ho : o.op = .call { callee := .builtin .append, args := #[s, x], argTypes := #[113, 113] })
    (hs : a.eval s = v) (h : HRow w B v hs1) {vx : Value} (hx : a.eval x = vx) (hrd : Rd w vx hs2.length (hs2.flatMap hCells)) (hn : hs1.length + hs2.length ≤ 100000) (hB : B ≤ w.heap.size)
    (hk : ∀ v' w', HRow w' B v' (hs1 ++ hs2) → w.grownBy w' v.ownBlock → K (a.put o.dst v') w') : o.wp Try.prog a w K Q := by
  obtain ⟨v', w', hr, h1, h2⟩ := run_app_h o.type h hrd hn hB
  unfold Oper.wp execOp
  simp only [ho, resolve, invoke, builtin, Sem.run_bind, Sem.run_pure, Result.andThen_ok, List.map_toArray, List.map_cons, List.map_nil, hs, hx, hr]
  exact hk _ _ h1 h2
end
end Go.Proofs.Ytcgapfmdpchemaa
