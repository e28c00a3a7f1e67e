/- A slice of steps opened, out of its reading. No function is walked here. -/
import Derived.Test.YtcgapfmdpchemaaOpen
namespace Go.Proofs.Ytcgapfmdpchemaa
open Go.RowKit
open Go.ChangeShapes Go.WideShapes Go.ChangeAt
set_option maxRecDepth 100000 in
theorem open_acts {H : Type} {enc : TypeId × Value → H} {W : World} {base : Nat} {spare : Nat → Bool} {held : Bool} {fuel : Nat} {cs : List Value} {x : DataW H × List MemPlace} (h : DataW.trod enc Try.prog W base spare held fuel 26 cs = some x) : ∃ v l, cs = [v] ∧ ActsAt W v l := by
  rcases Go.Deep.open_slice Try.underlying26 h with ⟨rfl, -⟩ | ⟨a, len, cap, m, n, D, Pl, rfl, -, hl, hm, hm', -, hi⟩
  · exact ⟨_, [], rfl, ⟨none, 0, rfl, Nat.le_refl _, by unfold maxLen; omega, fun j hj => by simp at hj⟩, fun s hs => (by cases hs)⟩
  · rw [cells25] at hi
    have hlm : len ≤ m := by rw [hm']; split <;> omega
    have hex : ∀ i, ∃ s : Ac, i < len → W.cells? base (a.add (i * 6)) 6 = some (acCells s) ∧ PutsAt W s.pv s.puts := fun i => by
      by_cases hlt : i < len
      · obtain ⟨cs', hc, ht⟩ := hi i (by omega)
        obtain ⟨s, rfl, hp⟩ := open_act ht
        exact ⟨s, fun _ => ⟨hc, hp⟩⟩
      · exact ⟨⟨0, .bool false, [], ByteArray.empty, 0, 0, 0⟩, fun h => absurd h hlt⟩
    obtain ⟨f, hf⟩ := Classical.axiomOfChoice hex
    have hlen : ((List.range len).map f).length = len := by simp
    refine ⟨_, (List.range len).map f, rfl, ⟨some a, cap, by rw [hlen], by rw [hlen]; exact hl, hm, fun j hj => ?_⟩, fun s hs => ?_⟩
    · have hj' := hj
      rw [acCells_length, hlen] at hj'
      have hk : j / 6 < len := by omega
      have hc := (World.cells?_some (hf (j / 6) hk).1).2.2 (j % 6) (Nat.mod_lt _ (by omega))
      have hlk : j / 6 < ((List.range len).map f).length := by rw [hlen]; exact hk
      have hfl := aflat6 ((List.range len).map f) (j / 6) hlk (j % 6) (Nat.mod_lt _ (by omega))
      have hg : ((List.range len).map f)[j / 6] = f (j / 6) := by simp
      rw [hg, show j / 6 * 6 + j % 6 = j by omega] at hfl
      rw [← hfl, List.getElem?_eq_getElem hj] at hc
      obtain ⟨b, off, spot⟩ := a
      have h00 := (World.cells?_some (hf 0 (by omega)).1).2.2 0 (by omega)
      rw [show (acCells (f 0))[0]? = some (bv (f 0).what) from rfl] at h00
      have hspot : spot = none := by simpa [Addr.add] using World.cell?_spot h00
      subst hspot
      refine ⟨b, off, rfl, ?_⟩
      have hadd : ((⟨b, off, none⟩ : Addr).add (j / 6 * 6)).add (j % 6) = ⟨b, off + j, none⟩ := by
        unfold Addr.add
        split <;> split <;> simp_all <;> omega
      rw [hadd] at hc
      exact hc
    · obtain ⟨i, hi', rfl⟩ := List.mem_map.1 hs
      exact (hf i (List.mem_range.1 hi')).2
end Go.Proofs.Ytcgapfmdpchemaa
