/- The walks of the laws' helpers values, same and after. -/
import Derived.Test.YtcgapfmdpchemaaOpen
namespace Go.Proofs.Ytcgapfmdpchemaa
open Go.RowKit
theorem info106 : (Try.prog.info? 106).map (fun i => (i.zero, i.size, i.bytes)) = some (some (.agg #[.string ByteArray.empty, .int .i64 0]), 2, 24) := by kernel_rfl
theorem el36 : El 36 106 (.agg #[.string ByteArray.empty, .int .i64 0]) 2 24 := ⟨Try.underlying36, info106, rfl, by decide, by decide⟩
/-- what a store says of a name, as cells -/
def vCells (x : ByteArray × Nat) : List Value := [.string x.1, .int .i64 x.2]
theorem vCells_length (rs : List (ByteArray × Nat)) : (rs.flatMap vCells).length = rs.length * 2 := by
  induction rs with
  | nil => rfl
  | cons p rs ih => simp only [List.flatMap_cons, List.length_append, ih, List.length_cons, vCells, List.length_nil]; omega
theorem vflat2 (rs : List (ByteArray × Nat)) (k : Nat) (hk : k < rs.length) : (rs.flatMap vCells)[k * 2]? = some (.string rs[k].1) ∧ (rs.flatMap vCells)[k * 2 + 1]? = some (.int .i64 rs[k].2) := by
  induction rs generalizing k with
  | nil => simp at hk
  | cons p rs ih =>
    cases k with
    | zero => simp [vCells]
    | succ k =>
      have := ih k (by simpa using hk)
      have e1 : ∀ j, ((p :: rs).flatMap vCells)[(k + 1) * 2 + j]? = (rs.flatMap vCells)[k * 2 + j]? := fun j => by
        rw [List.flatMap_cons, List.getElem?_append_right (by simp [vCells]; omega)]
        congr 1
        simp [vCells]; omega
      refine ⟨?_, ?_⟩
      · have h := e1 0; simp only [Nat.add_zero] at h; rw [h]; exact this.1
      · rw [e1 1]; exact this.2
def ValsAt (w : World) (v : Value) (rs : List (ByteArray × Nat)) : Prop := Rd w v rs.length (rs.flatMap vCells)
theorem ValsAt.cells {w : World} {v : Value} {rs : List (ByteArray × Nat)} (h : ValsAt w v rs) {k : Nat} (hk : k < rs.length) : ∃ b off c, v = .slice (some ⟨b, off, none⟩) rs.length c ∧
    w.cell? ⟨b, off + k * 2, none⟩ = some (.string rs[k].1) ∧ w.cell? ⟨b, off + k * 2 + 1, none⟩ = some (.int .i64 rs[k].2) := by
  obtain ⟨A, c, rfl, _, _, hc⟩ := h
  have hl := vCells_length rs
  obtain ⟨b, off, rfl, _⟩ := hc 0 (by omega)
  obtain ⟨f0, f1⟩ := vflat2 rs k hk
  have hat : ∀ j u, (rs.flatMap vCells)[j]? = some u → w.cell? ⟨b, off + j, none⟩ = some u := fun j u hu => by
    obtain ⟨hj, rfl⟩ := List.getElem?_eq_some_iff.1 hu
    obtain ⟨b2, o2, he, hcell⟩ := hc j hj
    cases he
    exact hcell
  exact ⟨b, off, c, rfl, hat _ _ f0, by rw [Nat.add_assoc]; exact hat _ _ f1⟩
/-- an owned row, of elements of whatever size, reads as its cells -/
theorem Rd_owns {w : World} {base e s : Nat} {v : Value} {n : Nat} {xs : List Value} (h : w.ownsRow base e s v n xs) : Rd w v n xs := by
  obtain ⟨hl, h⟩ := h
  rcases h with ⟨rfl, rfl⟩ | ⟨g, cap, cur, rfl, _, hg, hnc, hcm, hcs, ht⟩
  · exact ⟨none, 0, rfl, Nat.le_refl _, by decide, fun j hj => by rw [hl] at hj; omega⟩
  · refine ⟨_, _, rfl, hnc, hcm, fun j hj => ⟨_, _, rfl, ?_⟩⟩
    rw [Nat.zero_add, cell_of_row _ _ _ _ _ _ hg]
    subst ht
    simp only [List.length_take, Array.length_toList] at hj
    simp [Array.getElem?_eq_getElem (show j < cur.size by omega)]
set_option maxRecDepth 1000000 in
set_option maxHeartbeats 1000000 in
theorem values_any {bs bd bp bm : Nat} {A : AD} (w : World) (h : Sess w bs bd bp bm A) (v : Value) (l : List Pt) (hp : PutsAt w v l) (hl : l.length ≤ 1000) :
    Calls Try.prog 12 #[.pointer (some ⟨bs, 0, none⟩), v] w fun e w' => ∃ u, e = .returned u ∧ Below w.heap.size w w' ∧ w'.ownsRow w.heap.size 106 2 u l.length ((l.map fun x => A.get x.name).flatMap vCells) := by
  obtain ⟨A1, c, rfl, hnc, hcm, -⟩ := id hp
  have HP := Lib.hid hp; have HS := Lib.hid h; clear hp h
  go_enter Try.func12, Try.ntmps12
  go_wp2
  go_loopw [5, 6] (fun o i wr => ∃ k : Nat, k ≤ l.length ∧ i = .int .i64 k ∧ wr.ownsRow w.heap.size 106 2 o (l.take k).length (((l.take k).map fun x => A.get x.name).flatMap vCells) ∧ Below w.heap.size w wr) (fun _ i _ => l.length - (intOf i).toNat)
  case atStart => exact ⟨0, by omega, rfl, World.ownsRow_nil _ _ _ _, Below.refl _ _⟩
  case round =>
    obtain ⟨k, hk, rfl, own, hbr⟩ := hrel
    by_cases hlt : k < l.length
    · have hki : (k : Int) < (l.length : Int) := by omega
      obtain ⟨b, off, c', he, h0, -, -⟩ := PutsAt.cells (ps := l) (Rd.below HP.out hbr (Nat.le_refl _)) hlt
      cases he
      have htk : l.take (k + 1) = l.take k ++ [l[k]] := List.take_succ_eq_append_getElem hlt
      generalize l[k] = x at *
      have HTK := Lib.hid htk; clear htk
      have HOWN := Lib.hid own; have HBR := Lib.hid hbr
      have hlen : (l.take k).length = k := by rw [List.length_take]; omega
      have HLEN := Lib.hid hlen; clear hlen own
      go_wp2_with fail
      refine (s_get (HS.out.below hbr (Nat.le_refl _)) x.name).mono ?_
      rintro e w1 ⟨rfl, b1⟩
      have own1 := own_below HOWN.out b1 (Nat.le_refl _)
      have B1 := Lib.hid (hbr.trans (b1.mono hbr.size)); clear b1 HOWN hbr HBR
      generalize hg : A.get x.name = g at *
      obtain ⟨gs, gn⟩ := g
      have HG := Lib.hid hg; clear hg
      dsimp only at *
      go_wp2_with (at_builtin; refine app_new el36 rfl _ _ rfl rfl own1 rfl rfl (us := [.string gs, .int .i64 gn]) rfl (by simp [Value.oneCell']) (by rw [HLEN.out]; omega) B1.out.size ?_)
      intro v4 w4 o4 g4 b4
      go_wp2
      go_roundw
      case rel => exact ⟨k + 1, by omega, by go_num, by rw [HTK.out, List.map_append, List.flatMap_append, List.length_append, List.map_singleton, HG.out]; simpa [vCells, Nat.min_eq_left hk] using o4, B1.out.trans b4⟩
      case measure => simp [intOf]; omega
    · obtain rfl : k = l.length := by omega
      rw [List.take_length] at own
      go_wp2
      go_ret
      exact ⟨_, rfl, hbr, own⟩
set_option maxRecDepth 1000000 in
set_option maxHeartbeats 1000000 in
theorem same_any (w : World) (u v : Value) (rs : List (ByteArray × Nat)) (hu : ValsAt w u rs) (hv : ValsAt w v rs) (hl : rs.length ≤ 1000000) : Calls Try.prog 16 #[u, v] w fun e w' => e = .returned (.bool true) ∧ Below w.heap.size w w' := by
  obtain ⟨A, c, rfl, hnc, hcm, -⟩ := id hu
  obtain ⟨B, d, rfl, hnd, hdm, -⟩ := id hv
  have HU := Lib.hid hu; have HV := Lib.hid hv; clear hu hv
  go_enter Try.func16, Try.ntmps16
  go_wp2
  go_loopw [5] (fun i wr => ∃ k : Nat, k ≤ rs.length ∧ i = .int .i64 k ∧ Below w.heap.size w wr) (fun i _ => rs.length - (intOf i).toNat)
  case atStart => exact ⟨0, by omega, rfl, Below.refl _ _⟩
  case round =>
    obtain ⟨k, hk, rfl, hbr⟩ := hrel
    by_cases hlt : k < rs.length
    · have hki : (k : Int) < (rs.length : Int) := by omega
      obtain ⟨b1, o1, c1, he, h0, h1⟩ := ValsAt.cells (rs := rs) (Rd.below HU.out hbr (Nat.le_refl _)) hlt
      cases he
      obtain ⟨b2, o2, c2, he, g0, g1⟩ := ValsAt.cells (rs := rs) (Rd.below HV.out hbr (Nat.le_refl _)) hlt
      cases he
      generalize rs[k] = x at *
      obtain ⟨xs, xn⟩ := x
      dsimp only at *
      go_wp2
      go_region
      go_wp2
      go_roundw
      case rel => exact ⟨k + 1, by omega, by go_num, (hbr : Below w.heap.size w wr).trans ((Below.refl _ wr).drew)⟩
      case measure => simp [intOf]; omega
    · obtain rfl : k = rs.length := by omega
      go_wp2
      go_ret
      exact ⟨rfl, hbr⟩
/-- the values follow from changes -/
def Follow (rs : List (ByteArray × Nat)) (l : List Pt) : Prop := rs.length = l.length ∧ ∀ k, (h : k < rs.length) → (g : k < l.length) → if l[k].drop then rs[k].2 = 4 else rs[k] = (l[k].value, 0)
set_option maxRecDepth 1000000 in
set_option maxHeartbeats 1000000 in
theorem after_any (w : World) (u v : Value) (rs : List (ByteArray × Nat)) (l : List Pt) (hu : ValsAt w u rs) (hv : PutsAt w v l) (hl : rs.length ≤ 1000000) (hf : Follow rs l) : Calls Try.prog 18 #[u, v] w fun e w' => e = .returned (.bool true) ∧ Below w.heap.size w w' := by
  obtain ⟨A, c, rfl, hnc, hcm, -⟩ := id hu
  obtain ⟨B, d, rfl, hnd, hdm, -⟩ := id hv
  have HU := Lib.hid hu; have HV := Lib.hid hv; have HF := Lib.hid hf; clear hu hv hf
  go_enter Try.func18, Try.ntmps18
  go_wp2
  go_loopw [5] (fun i wr => ∃ k : Nat, k ≤ rs.length ∧ i = .int .i64 k ∧ Below w.heap.size w wr) (fun i _ => rs.length - (intOf i).toNat)
  case atStart => exact ⟨0, by omega, rfl, Below.refl _ _⟩
  case round =>
    obtain ⟨k, hk, rfl, hbr⟩ := hrel
    by_cases hlt : k < rs.length
    · have hki : (k : Int) < (rs.length : Int) := by omega
      have hlt2 : k < l.length := by rw [← HF.out.1]; exact hlt
      have hki2 : (k : Int) < (l.length : Int) := by omega
      obtain ⟨b1, o1, c1, he, h0, h1⟩ := ValsAt.cells (rs := rs) (Rd.below HU.out hbr (Nat.le_refl _)) hlt
      cases he
      obtain ⟨b2, o2, c2, he, g0, g1, g2⟩ := PutsAt.cells (ps := l) (Rd.below HV.out hbr (Nat.le_refl _)) hlt2
      cases he
      have hfk := HF.out.2 k hlt hlt2
      generalize rs[k] = x at *
      generalize l[k] = p at *
      obtain ⟨xs, xn⟩ := x
      obtain ⟨pn, pv, pd⟩ := p
      dsimp only at *
      cases pd
      · obtain ⟨rfl, rfl⟩ : xs = pv ∧ xn = 0 := by simpa using hfk
        clear hfk
        go_wp2
        go_region
        go_wp2
        go_roundw
        case rel => exact ⟨k + 1, by omega, by go_num, (hbr : Below w.heap.size w wr).trans ((Below.refl _ wr).drew)⟩
        case measure => simp [intOf]; omega
      · obtain rfl : xn = 4 := by simpa using hfk
        clear hfk
        go_wp2
        go_region
        go_wp2
        go_roundw
        case rel => exact ⟨k + 1, by omega, by go_num, (hbr : Below w.heap.size w wr).trans ((Below.refl _ wr).drew)⟩
        case measure => simp [intOf]; omega
    · obtain rfl : k = rs.length := by omega
      go_wp2
      go_ret
      exact ⟨rfl, hbr⟩
end Go.Proofs.Ytcgapfmdpchemaa
