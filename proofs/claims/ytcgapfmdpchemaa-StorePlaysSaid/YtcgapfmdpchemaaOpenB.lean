/- A slice of steps opened, out of its reading, with the bounds of its numbers. No function is walked here. -/
import Derived.Test.YtcgapfmdpchemaaOpen
import Derived.OpenShut
namespace Go.Proofs.Ytcgapfmdpchemaa
open Go.RowKit
open Go.ChangeShapes Go.WideShapes Go.ChangeAt
set_option maxRecDepth 100000 in
/-- a step out of its reading -/
theorem open_act_bound {H : Type} {enc : TypeId × Value → H} {W : World} {base : Nat} {spare : Nat → Bool} {held : Bool} {fuel : Nat} {cs : List Value} {x : DataW H × List MemPlace} (h : DataW.trod enc Try.prog W base spare held fuel 25 cs = some x) : ∃ s : Ac, cs = acCells s ∧ PutsAt W s.pv s.puts ∧ s.x ≤ 9223372036854775807 := by
  obtain ⟨xs, n, -, -, hl, hlen, hf⟩ := DataW.trod_struct Try.underlying25 h
  rw [cells25] at hl
  match cs, hl, xs, hlen with
  | [c0, c1, c2, c3, c4, c5], _, [y0, y1, y2, y3, y4, y5], _ =>
    obtain ⟨a0, e0, -, w0⟩ := DataW.trod_int Try.underlying5 (hf 0 _ rfl)
    obtain ⟨v, l, e1, hp⟩ := open_puts (hf 1 _ rfl)
    obtain ⟨a2, e2, -, -⟩ := DataW.trod_string Try.underlying9 (hf 2 _ rfl)
    obtain ⟨a3, e3, -, w3⟩ := DataW.trod_int Try.underlying3 (hf 3 _ rfl)
    obtain ⟨a4, e4, -, -⟩ := DataW.trod_int Try.underlying3 (hf 4 _ rfl)
    obtain ⟨a5, e5, -, w5⟩ := DataW.trod_int Try.underlying5 (hf 5 _ rfl)
    simp [cells22, cells9, cellsI, cellsU] at e0 e1 e2 e3 e4 e5
    have u0 := Go.bounds_u8 w0
    have u5 := Go.bounds_u8 w5
    exact ⟨⟨UInt8.ofNat a0.toNat, v, l, a2, a3, a4, UInt8.ofNat a5.toNat⟩, by
      have v0 : bv (UInt8.ofNat a0.toNat) = .int .u8 a0 := by unfold bv; rw [ofNat_toNat]; congr 1; omega
      have v5 : bv (UInt8.ofNat a5.toNat) = .int .u8 a5 := by unfold bv; rw [ofNat_toNat]; congr 1; omega
      rw [e0, e1, e2, e3, e4, e5]; unfold acCells; rw [v0, v5], hp, (Go.bounds_i64 w3).2⟩
set_option maxRecDepth 100000 in
theorem open_acts_bound {H : Type} {enc : TypeId × Value → H} {W : World} {base : Nat} {spare : Nat → Bool} {held : Bool} {fuel : Nat} {cs : List Value} {x : DataW H × List MemPlace} (h : DataW.trod enc Try.prog W base spare held fuel 26 cs = some x) : ∃ v l, cs = [v] ∧ ActsAt W v l ∧ ∀ s ∈ l, s.x ≤ 9223372036854775807 := by
  rcases Go.Deep.open_slice Try.underlying26 h with ⟨rfl, -⟩ | ⟨a, len, cap, m, n, D, Pl, rfl, -, hl, hm, hm', -, hi⟩
  · exact ⟨_, [], rfl, ⟨⟨none, 0, rfl, Nat.le_refl _, by unfold maxLen; omega, fun j hj => by simp at hj⟩, fun s hs => (by cases hs)⟩, fun s hs => (by cases hs)⟩
  · rw [cells25] at hi
    have hlm : len ≤ m := by rw [hm']; split <;> omega
    have hex : ∀ i, ∃ s : Ac, i < len → W.cells? base (a.add (i * 6)) 6 = some (acCells s) ∧ PutsAt W s.pv s.puts ∧ s.x ≤ 9223372036854775807 := fun i => by
      by_cases hlt : i < len
      · obtain ⟨cs', hc, ht⟩ := hi i (by omega)
        obtain ⟨s, rfl, hp, hb⟩ := open_act_bound ht
        exact ⟨s, fun _ => ⟨hc, hp, hb⟩⟩
      · exact ⟨⟨0, .bool false, [], ByteArray.empty, 0, 0, 0⟩, fun h => absurd h hlt⟩
    obtain ⟨f, hf⟩ := Classical.axiomOfChoice hex
    have hlen : ((List.range len).map f).length = len := by simp
    refine ⟨_, (List.range len).map f, rfl, ⟨⟨some a, cap, by rw [hlen], by rw [hlen]; exact hl, hm, fun j hj => ?_⟩, fun s hs => ?_⟩, fun s hs => ?_⟩
    · have hj' := hj
      rw [acCells_length, hlen] at hj'
      have hk : j / 6 < len := by omega
      have hc := (World.cells?_some (hf (j / 6) hk).1).2.2 (j % 6) (Nat.mod_lt _ (by omega))
      have hlk : j / 6 < ((List.range len).map f).length := by rw [hlen]; exact hk
      have hfl := aflat6 ((List.range len).map f) (j / 6) hlk (j % 6) (Nat.mod_lt _ (by omega))
      have hg : ((List.range len).map f)[j / 6] = f (j / 6) := by simp
      rw [hg, show j / 6 * 6 + j % 6 = j by omega] at hfl
      rw [← hfl, List.getElem?_eq_getElem hj] at hc
      obtain ⟨b, off, spot⟩ := a
      have h00 := (World.cells?_some (hf 0 (by omega)).1).2.2 0 (by omega)
      rw [show (acCells (f 0))[0]? = some (bv (f 0).what) from rfl] at h00
      have hspot : spot = none := by simpa [Addr.add] using World.cell?_spot h00
      subst hspot
      refine ⟨b, off, rfl, ?_⟩
      have hadd : ((⟨b, off, none⟩ : Addr).add (j / 6 * 6)).add (j % 6) = ⟨b, off + j, none⟩ := by
        unfold Addr.add
        split <;> split <;> simp_all <;> omega
      rw [hadd] at hc
      exact hc
    · obtain ⟨i, hi', rfl⟩ := List.mem_map.1 hs
      exact (hf i (List.mem_range.1 hi')).2.1
    · obtain ⟨i, hi', rfl⟩ := List.mem_map.1 hs
      exact (hf i (List.mem_range.1 hi')).2.2
end Go.Proofs.Ytcgapfmdpchemaa
