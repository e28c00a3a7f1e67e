/- The arguments of the laws opened: changes and steps, out of their readings. No function is walked here. -/
import Derived.Test.YtcgapfmdpchemaaNoneW
import Derived.ProofKit
import Derived.Deep.Slices
import Derived.Deep.Strs
import Derived.OpenShut
namespace Go.Proofs.Ytcgapfmdpchemaa
open Go.RowKit
open Go.ChangeShapes Go.WideShapes Go.ChangeAt
theorem cells46 : Try.prog.cellsOf 46 = 3 := by kernel_rfl
theorem cells9 : Try.prog.cellsOf 9 = 1 := by kernel_rfl
theorem cells4 : Try.prog.cellsOf 4 = 1 := by kernel_rfl
set_option maxRecDepth 100000 in
/-- a change out of its reading -/
theorem open_put {H : Type} {enc : TypeId × Value → H} {W : World} {base : Nat} {spare : Nat → Bool} {held : Bool} {fuel : Nat} {cs : List Value} {x : DataW H × List MemPlace} (h : DataW.trod enc Try.prog W base spare held fuel 46 cs = some x) : ∃ p : Pt, cs = ptCells p := by
  obtain ⟨y0, y1, y2, n, -, hl, h0, h1, h2⟩ := Go.Deep.trod_struct3 Try.underlying46 h
  rw [cells46] at hl
  match cs, hl with
  | [c0, c1, c2], _ =>
    obtain ⟨a, e0, -, -⟩ := DataW.trod_string Try.underlying9 h0
    obtain ⟨b, e1, -, -⟩ := DataW.trod_string Try.underlying9 h1
    obtain ⟨d, e2, -⟩ := DataW.trod_bool Try.underlying4 h2
    simp [cells9, cells4] at e0 e1 e2
    exact ⟨⟨a, b, d⟩, by rw [e0, e1, e2]; rfl⟩
set_option maxRecDepth 100000 in
theorem open_puts {H : Type} {enc : TypeId × Value → H} {W : World} {base : Nat} {spare : Nat → Bool} {held : Bool} {fuel : Nat} {cs : List Value} {x : DataW H × List MemPlace} (h : DataW.trod enc Try.prog W base spare held fuel 22 cs = some x) : ∃ v l, cs = [v] ∧ PutsAt W v l := by
  rcases Go.Deep.open_slice Try.underlying22 h with ⟨rfl, -⟩ | ⟨a, len, cap, m, n, D, Pl, rfl, -, hl, hm, hm', -, hi⟩
  · exact ⟨_, [], rfl, none, 0, rfl, Nat.le_refl _, by unfold maxLen; omega, fun j hj => by simp at hj⟩
  · rw [cells46] at hi
    have hlm : len ≤ m := by rw [hm']; split <;> omega
    have hex : ∀ i, ∃ p : Pt, i < len → W.cells? base (a.add (i * 3)) 3 = some (ptCells p) := fun i => by
      by_cases hlt : i < len
      · obtain ⟨cs', hc, ht⟩ := hi i (by omega)
        obtain ⟨p, rfl⟩ := open_put ht
        exact ⟨p, fun _ => hc⟩
      · exact ⟨⟨ByteArray.empty, ByteArray.empty, false⟩, fun h => absurd h hlt⟩
    obtain ⟨f, hf⟩ := Classical.axiomOfChoice hex
    have hlen : ((List.range len).map f).length = len := by simp
    refine ⟨_, (List.range len).map f, rfl, some a, cap, by rw [hlen], by rw [hlen]; exact hl, hm, fun j hj => ?_⟩
    have hj' := hj
    rw [ptCells_length, hlen] at hj'
    have hk : j / 3 < len := by omega
    have hc := (World.cells?_some (hf (j / 3) hk)).2.2 (j % 3) (Nat.mod_lt _ (by omega))
    have hlk : j / 3 < ((List.range len).map f).length := by rw [hlen]; exact hk
    have hfl := pflat3 ((List.range len).map f) (j / 3) hlk
    have hg : ((List.range len).map f)[j / 3] = f (j / 3) := by simp
    have hval : (((List.range len).map f).flatMap ptCells)[j]? = (ptCells (f (j / 3)))[j % 3]? := by
      rw [hg] at hfl
      have hj3 : j = j / 3 * 3 + j % 3 := by omega
      have hm3 : j % 3 = 0 ∨ j % 3 = 1 ∨ j % 3 = 2 := by omega
      rcases hm3 with h0 | h0 | h0
      · rw [h0] at hj3 ⊢; rw [hj3]; rw [show (j / 3 * 3 + 0) / 3 = j / 3 by omega]; exact hfl.1
      · rw [h0] at hj3 ⊢; rw [hj3]; rw [show (j / 3 * 3 + 1) / 3 = j / 3 by omega]; exact hfl.2.1
      · rw [h0] at hj3 ⊢; rw [hj3]; rw [show (j / 3 * 3 + 2) / 3 = j / 3 by omega]; exact hfl.2.2
    rw [← hval, List.getElem?_eq_getElem hj] at hc
    obtain ⟨b, off, spot⟩ := a
    have h00 := (World.cells?_some (hf 0 (by omega))).2.2 0 (by omega)
    rw [show ptCells (f 0) = [.string (f 0).name, .string (f 0).value, .bool (f 0).drop] from rfl, List.getElem?_cons_zero] at h00
    have hspot : spot = none := by simpa [Addr.add] using World.cell?_spot h00
    subst hspot
    refine ⟨b, off, rfl, ?_⟩
    have hadd : ((⟨b, off, none⟩ : Addr).add (j / 3 * 3)).add (j % 3) = ⟨b, off + j, none⟩ := by
      unfold Addr.add
      split <;> split <;> simp_all <;> omega
    rw [hadd] at hc
    exact hc
theorem cells25 : Try.prog.cellsOf 25 = 6 := by kernel_rfl
theorem cells22 : Try.prog.cellsOf 22 = 1 := by kernel_rfl
theorem cellsI : Try.prog.cellsOf 3 = 1 := by kernel_rfl
theorem cellsU : Try.prog.cellsOf 5 = 1 := by kernel_rfl
set_option maxRecDepth 100000 in
/-- a step out of its reading -/
theorem open_act {H : Type} {enc : TypeId × Value → H} {W : World} {base : Nat} {spare : Nat → Bool} {held : Bool} {fuel : Nat} {cs : List Value} {x : DataW H × List MemPlace} (h : DataW.trod enc Try.prog W base spare held fuel 25 cs = some x) : ∃ s : Ac, cs = acCells s ∧ PutsAt W s.pv s.puts := by
  obtain ⟨xs, n, -, -, hl, hlen, hf⟩ := DataW.trod_struct Try.underlying25 h
  rw [cells25] at hl
  match cs, hl, xs, hlen with
  | [c0, c1, c2, c3, c4, c5], _, [y0, y1, y2, y3, y4, y5], _ =>
    obtain ⟨a0, e0, -, w0⟩ := DataW.trod_int Try.underlying5 (hf 0 _ rfl)
    obtain ⟨v, l, e1, hp⟩ := open_puts (hf 1 _ rfl)
    obtain ⟨a2, e2, -, -⟩ := DataW.trod_string Try.underlying9 (hf 2 _ rfl)
    obtain ⟨a3, e3, -, -⟩ := DataW.trod_int Try.underlying3 (hf 3 _ rfl)
    obtain ⟨a4, e4, -, -⟩ := DataW.trod_int Try.underlying3 (hf 4 _ rfl)
    obtain ⟨a5, e5, -, w5⟩ := DataW.trod_int Try.underlying5 (hf 5 _ rfl)
    simp [cells22, cells9, cellsI, cellsU] at e0 e1 e2 e3 e4 e5
    have u0 := Go.bounds_u8 w0
    have u5 := Go.bounds_u8 w5
    exact ⟨⟨UInt8.ofNat a0.toNat, v, l, a2, a3, a4, UInt8.ofNat a5.toNat⟩, by
      have v0 : bv (UInt8.ofNat a0.toNat) = .int .u8 a0 := by unfold bv; rw [ofNat_toNat]; congr 1; omega
      have v5 : bv (UInt8.ofNat a5.toNat) = .int .u8 a5 := by unfold bv; rw [ofNat_toNat]; congr 1; omega
      rw [e0, e1, e2, e3, e4, e5]; unfold acCells; rw [v0, v5], hp⟩
end Go.Proofs.Ytcgapfmdpchemaa
