/- The walk of StoreNone. -/
import Derived.Test.YtcgapfmdpchemaaActs
namespace Go.Proofs.Ytcgapfmdpchemaa
open Go.RowKit
set_option maxRecDepth 1000000 in
set_option maxHeartbeats 4000000 in
theorem storeNone_any (w : World) (s : Ac) (hp : PutsAt w s.pv s.puts) : Calls Try.prog 6 #[.agg #[bv s.what, s.pv, .string s.name, .int .i64 s.x, .int .i64 s.y, bv s.flip]] w fun e w' => e = .returned (.bool true) ∧ Below w.heap.size w w' := by
  have HP := Lib.hid hp; clear hp
  obtain ⟨what, pv, puts, name, x, y, flip⟩ := s
  dsimp only at HP ⊢
  unfold bv
  go_enter Try.func6, Try.ntmps6
  go_wp2_with fail
  have hrow0 := heap_alloc_new w (Obj.cells #[Value.int IntKind.u8 what.toNat, pv, Value.string name, Value.int IntKind.i64 x, Value.int IntKind.i64 y, Value.int IntKind.u8 flip.toNat] 25)
  obtain ⟨w1, hw1⟩ : ∃ w1, w.alloc (Obj.cells #[Value.int IntKind.u8 what.toNat, pv, Value.string name, Value.int IntKind.i64 x, Value.int IntKind.i64 y, Value.int IntKind.u8 flip.toNat] 25) = w1 := ⟨_, rfl⟩
  rw [hw1] at hrow0 ⊢
  have b1 : Below w.heap.size w w1 := by rw [← hw1]; exact (Below.refl _ w).alloc (Nat.le_refl _) _
  have hsz1 : w.heap.size + 1 = w1.heap.size := by rw [← hw1, World.size_alloc]
  rw [hsz1]
  have hrd := Rd_new w1 (acCells ⟨what, pv, puts, name, x, y, flip⟩) 25 _ 1 rfl
  have hacts : ActsAt (w1.alloc (Obj.cells (acCells ⟨what, pv, puts, name, x, y, flip⟩).toArray 25)) (.slice (some ⟨w1.heap.size, 0, none⟩) 1 1) [⟨what, pv, puts, name, x, y, flip⟩] :=
    ⟨hrd, fun s hs => by
      rw [List.mem_singleton] at hs
      subst hs
      exact (HP.out.below b1 (Nat.le_refl _)).below ((Below.refl _ w1).alloc (Nat.le_refl _) _) (Nat.le_refl _)⟩
  refine (great_any _ _ _ 1 hacts).mono ?_
  rintro e w2 ⟨⟨b, rfl, hb⟩, b2⟩
  have b12 : Below w.heap.size w w2 := below_more (b1.alloc b1.size _) b2 (Nat.le_refl _)
  have hrow2 : w2.heap[w.heap.size]? = some (.cells #[Value.int IntKind.u8 what.toNat, pv, Value.string name, Value.int IntKind.i64 x, Value.int IntKind.i64 y, Value.int IntKind.u8 flip.toNat] 25 (0, 0)) := by
    rw [b2.block _ (by rw [World.size_alloc]; omega), heap_alloc_old _ _ (by omega)]; exact hrow0
  have HB2 := Lib.hid b12; have HROW2 := Lib.hid hrow2; have HS := Lib.hid hb
  clear hrow0 hrd hacts b1 b2 b12 hrow2 hb hsz1 hw1
  obtain ⟨ba, hba⟩ : ∃ ba, w.heap.size = ba := ⟨_, rfl⟩
  rw [hba] at HROW2
  cases b with
  | true =>
    go_wp2_with fail
    refine (shown_any w2).mono ?_
    rintro e w3 ⟨rfl, b3⟩
    have HB3 := Lib.hid (below_more HB2.out b3 (Nat.le_refl _)); clear b3
    go_wp2
    go_ret
    exact ⟨rfl, HB3.out⟩
  | false =>
    go_wp2_with fail
    have hb0 := heap_alloc_new w2 (Obj.cells #[Value.slice none 0 0, Value.int IntKind.i64 0, Value.bool false, Value.map none] 70)
    obtain ⟨x1, hx1⟩ : ∃ x1, w2.alloc (Obj.cells #[Value.slice none 0 0, Value.int IntKind.i64 0, Value.bool false, Value.map none] 70) = x1 := ⟨_, rfl⟩
    have s1 : w2.heap.size + 1 = x1.heap.size := by rw [← hx1, World.size_alloc]
    have e1 : Below w2.heap.size w2 x1 := by rw [← hx1]; exact (Below.refl _ w2).alloc (Nat.le_refl _) _
    rw [hx1] at hb0 ⊢
    rw [s1]
    obtain ⟨d0, hd0⟩ : ∃ d0, w2.heap.size = d0 := ⟨_, rfl⟩
    rw [hd0] at hb0 ⊢
    have hb1 := heap_alloc_new x1 (Obj.cells #[Value.pointer none, Value.pointer (some { block := d0, off := 0 })] 71)
    obtain ⟨x2, hx2⟩ : ∃ x2, x1.alloc (Obj.cells #[Value.pointer none, Value.pointer (some { block := d0, off := 0 })] 71) = x2 := ⟨_, rfl⟩
    have s2 : x1.heap.size + 1 = x2.heap.size := by rw [← hx2, World.size_alloc]
    have e2 : Below x1.heap.size x1 x2 := by rw [← hx2]; exact (Below.refl _ x1).alloc (Nat.le_refl _) _
    rw [hx2] at hb1 ⊢
    rw [s2]
    have hb2 := heap_alloc_new x2 (Obj.cells #[Value.pointer none] 73)
    obtain ⟨x3, hx3⟩ : ∃ x3, x2.alloc (Obj.cells #[Value.pointer none] 73) = x3 := ⟨_, rfl⟩
    have s3 : x2.heap.size + 1 = x3.heap.size := by rw [← hx3, World.size_alloc]
    have e3 : Below x2.heap.size x2 x3 := by rw [← hx3]; exact (Below.refl _ x2).alloc (Nat.le_refl _) _
    rw [hx3] at hb2 ⊢
    rw [s3]
    obtain ⟨d2, hd2⟩ : ∃ d2, x2.heap.size = d2 := ⟨_, rfl⟩
    rw [hd2] at hb2 ⊢
    have hb3 := heap_alloc_new x3 (Obj.cells #[Value.pointer none, Value.pointer (some { block := d2, off := 0 })] 74)
    obtain ⟨x4, hx4⟩ : ∃ x4, x3.alloc (Obj.cells #[Value.pointer none, Value.pointer (some { block := d2, off := 0 })] 74) = x4 := ⟨_, rfl⟩
    have e4 : Below x3.heap.size x3 x4 := by rw [← hx4]; exact (Below.refl _ x3).alloc (Nat.le_refl _) _
    rw [hx4] at hb3 ⊢
    have l0 : d0 < x1.heap.size := by omega
    have l1 : x1.heap.size < x2.heap.size := by omega
    have l2 : d2 < x3.heap.size := by omega
    have hB : ba < w2.heap.size := (Array.getElem?_eq_some_iff.1 HROW2.out).1
    have r0 : x4.heap[d0]? = some (.cells #[Value.slice none 0 0, Value.int IntKind.i64 0, Value.bool false, Value.map none] 70 (0, 0)) := (e4.block _ (by omega)).trans ((e3.block _ (by omega)).trans ((e2.block _ (by omega)).trans hb0))
    have r1 : x4.heap[x1.heap.size]? = some (.cells #[Value.pointer none, Value.pointer (some { block := d0, off := 0 })] 71 (0, 0)) := (e4.block _ (by omega)).trans ((e3.block _ (by omega)).trans hb1)
    have r2 : x4.heap[d2]? = some (.cells #[Value.pointer none] 73 (0, 0)) := (e4.block _ (by omega)).trans hb2
    have ra := (e4.block _ (by omega)).trans ((e3.block _ (by omega)).trans ((e2.block _ (by omega)).trans ((e1.block ba (by omega)).trans HROW2.out)))
    have HB4 := Lib.hid (below_more (below_more (below_more (below_more HB2.out e1 (Nat.le_refl _)) e2 (Nat.le_refl _)) e3 (Nat.le_refl _)) e4 (Nat.le_refl _))
    have R0 := Lib.hid r0; have R1 := Lib.hid r1; have R2 := Lib.hid r2; have R3 := Lib.hid hb3; have RA := Lib.hid ra
    clear r0 r1 r2 ra hb0 hb1 hb2 hb3 e1 e2 e3 e4 s1 s2 s3 hx1 hx2 hx3 hx4 hd0 hd2 l0 l1 l2 hB HROW2 HB2
    generalize x1.heap.size = d1 at *
    generalize x3.heap.size = d3 at *
    go_loopw [5] (fun i wr => ∃ k : Nat, k ≤ 2 ∧ i = .int .i64 k ∧ Below x4.heap.size x4 wr) (fun i _ => 2 - (intOf i).toNat)
    case atStart => exact ⟨0, by omega, rfl, Below.refl _ _⟩
    case round =>
      obtain ⟨k, hk, rfl, hbr⟩ := hrel
      have keep : ∀ (b : Nat) (o : Obj), x4.heap[b]? = some o → wr.heap[b]? = some o := fun b o h => (hbr.block b (Array.getElem?_eq_some_iff.1 h).1).trans h
      have RR0 := Lib.hid (keep _ _ R0.out); have RR1 := Lib.hid (keep _ _ R1.out); have RR2 := Lib.hid (keep _ _ R2.out); have RR3 := Lib.hid (keep _ _ R3.out)
      have rra := keep _ _ RA.out
      have a1 : wr.drew.cell? ⟨ba, 1, none⟩ = some pv := by rw [cell_of_row _ _ _ _ _ _ (show wr.drew.heap[ba]? = _ from rra)]; rfl
      have a2 : wr.drew.cell? ⟨ba, 2, none⟩ = some (.string name) := by rw [cell_of_row _ _ _ _ _ _ (show wr.drew.heap[ba]? = _ from rra)]; rfl
      have a3 : wr.drew.cell? ⟨ba, 3, none⟩ = some (.int .i64 x) := by rw [cell_of_row _ _ _ _ _ _ (show wr.drew.heap[ba]? = _ from rra)]; rfl
      have a4 : wr.drew.cell? ⟨ba, 4, none⟩ = some (.int .i64 y) := by rw [cell_of_row _ _ _ _ _ _ (show wr.drew.heap[ba]? = _ from rra)]; rfl
      have a5 : wr.drew.cell? ⟨ba, 5, none⟩ = some (.int .u8 flip.toNat) := by rw [cell_of_row _ _ _ _ _ _ (show wr.drew.heap[ba]? = _ from rra)]; rfl
      have HPR : Hid (PutsAt wr.drew pv puts) := Lib.hid ((HP.out.below (HB4.out.trans (hbr.mono HB4.out.size)) (Nat.le_refl _)).drew)
      have HL : Hid (puts.length ≤ 1000000) := Lib.hid (by have := (HS.out trivial).2 _ (List.mem_singleton.2 rfl); exact Nat.le_trans this.1 (by omega))
      clear keep rra
      rcases (show k = 0 ∨ k = 1 ∨ k = 2 by omega) with rfl | rfl | rfl
      · have ND : Hid (∀ W, Below wr.heap.size wr W → NoDisk W (.pointer none)) := Lib.hid fun W _ => none_nil W
        have NS : Hid (∀ W, Below wr.heap.size wr W → NoStore W (.pointer none)) := Lib.hid fun W _ => fun e0 => begin_nil W e0
        have hd : wr.drew.cell? ⟨d1, 0, none⟩ = some (.pointer none) := by rw [cell_of_row _ _ _ _ _ _ (show wr.drew.heap[d1]? = _ from RR1.out)]; rfl
        have hs : wr.drew.cell? ⟨d3, 0, none⟩ = some (.pointer none) := by rw [cell_of_row _ _ _ _ _ _ (show wr.drew.heap[d3]? = _ from RR3.out)]; rfl
        have hd' : wr.cell? ⟨d1, 0, none⟩ = some (.pointer none) := hd
        have hs' : wr.cell? ⟨d3, 0, none⟩ = some (.pointer none) := hs
        have HD := Lib.hid (ND.out wr.drew (Below.refl _ wr).drew); have HSt := Lib.hid (NS.out wr.drew (Below.refl _ wr).drew)
        have HNO : Hid (∀ W, Below wr.drew.heap.size wr.drew W → NoStore W (.pointer none)) := Lib.hid fun W hW => NS.out W ((Below.refl _ wr).drew.trans hW)
        clear ND NS
        go_wp2
        go_region
        go_wp2_with fail
        refine (fail_no HD.out x).mono ?_
        rintro e w5 ⟨rfl, rfl⟩
        go_wp2_with fail
        refine (restart_no HD.out).mono ?_
        rintro e w5 ⟨rfl, rfl⟩
        go_wp2_with fail
        refine (down_no HD.out).mono ?_
        rintro e w5 ⟨rfl, rfl⟩
        go_wp2_with fail
        refine (show Calls Try.prog 19 #[(.pointer none), .int .i64 x, .int .i64 y, .int .u8 flip.toNat] wr.drew _ from damage_no HD.out x y flip).mono ?_
        rintro e w5 ⟨rfl, rfl⟩
        go_wp2_with fail
        refine (open_no HD.out).mono ?_
        rintro e w5 ⟨rfl, rfl⟩
        go_wp2_with fail
        refine (get_no HSt.out name).mono ?_
        rintro e w5 ⟨rfl, rfl⟩
        rw [show ByteArray.empty = { data := #[] } from rfl]
        go_wp2_with fail
        refine (list_no HSt.out name x).mono ?_
        rintro e w5 ⟨rfl, rfl⟩
        go_wp2_with fail
        refine (free_no HSt.out).mono ?_
        rintro e w5 ⟨rfl, rfl⟩
        go_wp2_with fail
        refine (scrub_no HSt.out).mono ?_
        rintro e w5 ⟨rfl, rfl⟩
        go_wp2_with fail
        refine (do_no wr.drew HNO.out pv puts HPR.out HL.out).mono ?_
        rintro e w5 ⟨rfl, b5⟩
        have B5 := Lib.hid (hbr.trans ((Below.refl _ wr).drew.trans (b5.mono hbr.size))); clear b5
        go_wp2
        go_roundw
        case rel => exact ⟨1, by omega, by go_num, B5.out⟩
        case measure => simp [intOf]
      · have ND : Hid (∀ W, Below wr.heap.size wr W → NoDisk W (.pointer (some ⟨d0, 0, none⟩))) := Lib.hid fun W hW => none_zero W ((hW.cell (p := ⟨d0, 0, none⟩) (Array.getElem?_eq_some_iff.1 RR0.out).1).trans (by rw [cell_of_row _ _ _ _ _ _ RR0.out]; rfl))
        have NS : Hid (∀ W, Below wr.heap.size wr W → NoStore W (.pointer (some ⟨d2, 0, none⟩))) := Lib.hid fun W hW => fun e0 => begin_none W ((hW.cell (p := ⟨d2, 0, none⟩) (Array.getElem?_eq_some_iff.1 RR2.out).1).trans (by rw [cell_of_row _ _ _ _ _ _ RR2.out]; rfl)) e0
        have hd : wr.drew.cell? ⟨d1, 1, none⟩ = some (.pointer (some ⟨d0, 0, none⟩)) := by rw [cell_of_row _ _ _ _ _ _ (show wr.drew.heap[d1]? = _ from RR1.out)]; rfl
        have hs : wr.drew.cell? ⟨d3, 1, none⟩ = some (.pointer (some ⟨d2, 0, none⟩)) := by rw [cell_of_row _ _ _ _ _ _ (show wr.drew.heap[d3]? = _ from RR3.out)]; rfl
        have hd' : wr.cell? ⟨d1, 1, none⟩ = some (.pointer (some ⟨d0, 0, none⟩)) := hd
        have hs' : wr.cell? ⟨d3, 1, none⟩ = some (.pointer (some ⟨d2, 0, none⟩)) := hs
        have HD := Lib.hid (ND.out wr.drew (Below.refl _ wr).drew); have HSt := Lib.hid (NS.out wr.drew (Below.refl _ wr).drew)
        have HNO : Hid (∀ W, Below wr.drew.heap.size wr.drew W → NoStore W (.pointer (some ⟨d2, 0, none⟩))) := Lib.hid fun W hW => NS.out W ((Below.refl _ wr).drew.trans hW)
        clear ND NS
        go_wp2
        go_region
        go_wp2_with fail
        refine (fail_no HD.out x).mono ?_
        rintro e w5 ⟨rfl, rfl⟩
        go_wp2_with fail
        refine (restart_no HD.out).mono ?_
        rintro e w5 ⟨rfl, rfl⟩
        go_wp2_with fail
        refine (down_no HD.out).mono ?_
        rintro e w5 ⟨rfl, rfl⟩
        go_wp2_with fail
        refine (show Calls Try.prog 19 #[(.pointer (some ⟨d0, 0, none⟩)), .int .i64 x, .int .i64 y, .int .u8 flip.toNat] wr.drew _ from damage_no HD.out x y flip).mono ?_
        rintro e w5 ⟨rfl, rfl⟩
        go_wp2_with fail
        refine (open_no HD.out).mono ?_
        rintro e w5 ⟨rfl, rfl⟩
        go_wp2_with fail
        refine (get_no HSt.out name).mono ?_
        rintro e w5 ⟨rfl, rfl⟩
        rw [show ByteArray.empty = { data := #[] } from rfl]
        go_wp2_with fail
        refine (list_no HSt.out name x).mono ?_
        rintro e w5 ⟨rfl, rfl⟩
        go_wp2_with fail
        refine (free_no HSt.out).mono ?_
        rintro e w5 ⟨rfl, rfl⟩
        go_wp2_with fail
        refine (scrub_no HSt.out).mono ?_
        rintro e w5 ⟨rfl, rfl⟩
        go_wp2_with fail
        refine (do_no wr.drew HNO.out pv puts HPR.out HL.out).mono ?_
        rintro e w5 ⟨rfl, b5⟩
        have B5 := Lib.hid (hbr.trans ((Below.refl _ wr).drew.trans (b5.mono hbr.size))); clear b5
        go_wp2
        go_roundw
        case rel => exact ⟨2, by omega, by go_num, B5.out⟩
        case measure => simp [intOf]
      · go_wp2_with fail
        refine (shown_any wr).mono ?_
        rintro e w5 ⟨rfl, b5⟩
        have B5 := Lib.hid (below_more (HB4.out.trans (hbr.mono HB4.out.size)) b5 (Nat.le_refl _)); clear b5
        go_wp2
        go_ret
        exact ⟨rfl, B5.out⟩
end Go.Proofs.Ytcgapfmdpchemaa
