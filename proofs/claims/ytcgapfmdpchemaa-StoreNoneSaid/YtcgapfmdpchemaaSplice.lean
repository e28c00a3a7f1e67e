/- Rows of entries turned: what Delete and Insert need. No function is walked here but Delete. -/
import Derived.Test.YtcgapfmdpchemaaNone
import Derived.Deep.RegionLaw
namespace Go.Proofs.Ytcgapfmdpchemaa
open Go.RowKit
/-- cells laid over others, from a place on -/
def splV (L : List Value) (off : Nat) (cs : List Value) : List Value := L.take off ++ cs ++ L.drop (off + cs.length)
theorem splV_length (L : List Value) (off : Nat) (cs : List Value) (h : off + cs.length ≤ L.length) : (splV L off cs).length = L.length := by simp [splV]; omega
theorem setCells_row (g t : Nat) : ∀ (vs : List Value) (o : Nat) (cur : List Value) (w : World), w.heap[g]? = some (.cells cur.toArray t (0, 0)) → o + vs.length ≤ cur.length →
    (w.setCells g o vs).heap[g]? = some (.cells (splV cur o vs).toArray t (0, 0)) ∧ Only g w (w.setCells g o vs)
  | [], o, cur, w, hg, _ => by simpa [World.setCells, splV] using ⟨hg, Only.refl g w⟩
  | v :: r, o, cur, w, hg, hl => by
    simp only [List.length_cons] at hl
    have h1 := heap_setCell_same w g o _ t v hg
    have h2 : (cur.toArray.setIfInBounds o v) = (cur.set o v).toArray := by simp
    rw [h2] at h1
    have hO : Only g w (w.setCell ⟨g, o, none⟩ v) := ⟨rfl, rfl, rfl, by simp [World.setCell], fun k hk => heap_setCell_other w ⟨g, o, none⟩ k v hk⟩
    obtain ⟨ha, hb⟩ := setCells_row g t r (o + 1) (cur.set o v) _ h1 (by simp; omega)
    refine ⟨?_, hO.trans hb⟩
    rw [World.setCells, ha]
    congr 3
    unfold splV
    have e1 : (cur.set o v).take (o + 1) = cur.take o ++ [v] := by
      rw [List.take_succ_eq_append_getElem (by simp; omega), List.take_set_of_le (Nat.le_refl _)]
      simp
    have e2 : (cur.set o v).drop (o + 1 + r.length) = cur.drop (o + (r.length + 1)) := by
      rw [List.drop_set_of_lt (by omega)]
      congr 1; omega
    rw [e1, e2]
    simp
theorem cut_some (g s l m : Nat) : ∃ off, cut (some ⟨g, 0, none⟩) l m s = some ⟨g, off, none⟩ ∧ (m ≠ l → off = l * s) := by
  unfold cut
  by_cases h : m = l
  · exact ⟨0, by rw [if_pos h], fun h' => absurd h h'⟩
  · exact ⟨l * s, by rw [if_neg h, Option.map_some, Addr.add_lit, Nat.zero_add], fun _ => rfl⟩
/-- a row of entries in its block -/
structure EntIn (w : World) (base g n cap : Nat) (ps : List (DE × Value)) : Prop where
  len : ps.length = n
  base_ : base ≤ g
  fit : n ≤ cap
  cap_ : cap ≤ maxLen
  row : ∃ rest : List Value, rest.length = (cap - n) * 3 ∧ w.heap[g]? = some (.cells (ps.flatMap peCells ++ rest).toArray 94 (0, 0))
  at_ : ∀ p ∈ ps, IntsAt w p.2 p.1.pages
theorem EntRow.inRow {w : World} {base : Nat} {v : Value} {ps : List (DE × Value)} (h : EntRow w base v ps) (h0 : ps ≠ []) : ∃ g cap, v = .slice (some ⟨g, 0, none⟩) ps.length cap ∧ EntIn w base g ps.length cap ps := by
  obtain ⟨hl, h2⟩ := h.own
  rcases h2 with ⟨rfl, hz⟩ | ⟨g, cap, cur, rfl, hb, hg, hnc, hcm, hcs, ht⟩
  · exact absurd (List.length_eq_zero_iff.1 hz) h0
  · refine ⟨g, cap, rfl, rfl, hb, hnc, hcm, ⟨cur.toList.drop (ps.length * 3), ?_, ?_⟩, h.at_⟩
    · rw [List.length_drop, Array.length_toList, hcs, Nat.sub_mul]
    · rw [← ht, List.take_append_drop]; exact hg
theorem EntIn.entRow {w : World} {base g n cap : Nat} {ps : List (DE × Value)} (h : EntIn w base g n cap ps) : EntRow w base (.slice (some ⟨g, 0, none⟩) n cap) ps := by
  obtain ⟨rest, hr, hg⟩ := h.row
  have hn := h.len
  have hf := h.fit
  refine ⟨⟨by rw [peCells_length], .inr ⟨g, cap, _, by rw [hn], h.base_, hg, by omega, h.cap_, ?_, ?_⟩⟩, h.at_⟩
  · rw [List.size_toArray, List.length_append, peCells_length, hr, hn, ← Nat.add_mul]; congr 1; omega
  · rw [List.take_left' (peCells_length ps)]
/-- nothing that was there has turned but cells of one type -/
structure Keeps (T : Nat) (w w' : World) : Prop where
  os : w'.os = w.os
  tape : w'.tape = w.tape
  output : w'.output = w.output
  size : w.heap.size ≤ w'.heap.size
  block : ∀ k, k < w.heap.size → (∀ cs fr, w.heap[k]? ≠ some (.cells cs T fr)) → w'.heap[k]? = w.heap[k]?
theorem Keeps.trans {T : Nat} {a b c : World} (h : Keeps T a b) (k : Keeps T b c) : Keeps T a c :=
  ⟨k.os.trans h.os, k.tape.trans h.tape, k.output.trans h.output, Nat.le_trans h.size k.size, fun i hi hn => by
    have e := h.block i hi hn
    exact (k.block i (Nat.lt_of_lt_of_le hi h.size) (fun cs fr he => hn cs fr (e.symm.trans he))).trans e⟩
theorem Keeps.of_below {T : Nat} {a b : World} (h : Below a.heap.size a b) : Keeps T a b := ⟨h.os, h.tape, h.output, h.size, fun k hk _ => h.block k hk⟩
theorem Keeps.of_only {T g : Nat} {a b : World} (h : Only g a b) {cs : Array Value} {fr : Nat × Nat} (hg : a.heap[g]? = some (.cells cs T fr)) : Keeps T a b :=
  ⟨h.os, h.tape, h.output, Nat.le_of_eq h.size.symm, fun k _ hn => h.block k (by rintro rfl; exact hn _ _ hg)⟩
theorem Keeps.of_grown {T base size n : Nat} {v : Value} {xs : List Value} {a b : World} (ho : a.ownsRow base T size v n xs) (hg : a.grownBy b v.ownBlock) : Keeps T a b :=
  ⟨hg.os, hg.tape, hg.output, hg.size, fun k hk hn => hg.block k hk fun hc => by
    obtain ⟨cs, h'⟩ := own_elem ho hc.symm
    exact hn _ _ h'⟩
theorem Keeps.row {T : Nat} {a b : World} (h : Keeps T a b) {k t : Nat} {cs : Array Value} {fr : Nat × Nat} (hk : a.heap[k]? = some (.cells cs t fr)) (ht : t ≠ T) : b.heap[k]? = some (.cells cs t fr) :=
  (h.block k (Array.getElem?_eq_some_iff.1 hk).1 fun cs' fr' h' => by rw [hk] at h'; simp at h'; exact ht h'.2.1).trans hk
end Go.Proofs.Ytcgapfmdpchemaa
